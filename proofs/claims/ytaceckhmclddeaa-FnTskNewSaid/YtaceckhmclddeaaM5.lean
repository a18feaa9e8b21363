/- The walk over this seat's functions, part 5: what each of them answers, at all data. -/
import Derived.Test.YtaceckhmclddeaaM1
import Derived.Test.YtaceckhmclddeaaM2
import Derived.Test.YtaceckhmclddeaaM3
import Derived.Test.YtaceckhmclddeaaM4
import Derived.Shelf.Spec.SlicesInsertGrow
/- Small functions: what they answer. -/
namespace Go.Rk
set_option linter.unusedSimpArgs false
set_option linter.unusedVariables false
open Go.Proofs
set_option maxRecDepth 100000 in
theorem c_isNaN (n : Int) : ∃ b, b = decide (False) ∧ Meets Try.prog 154 [.c (.d (eI n))] ⟨.one (.c (.d (eB b))), [none]⟩ := by
  obtain ⟨b, hb⟩ : ∃ b, b = decide (False) := ⟨_, rfl⟩
  refine ⟨b, hb, ?_⟩
  refine meets_of (H := []) (EX := EXA) ttok mixed Try.func154 rfl (by kernel_rfl) (by decide) ?_
  generalize hA : real = A
  generalize hM : MeetsB Try.prog = M
  cbv
  repeat' first
    | apply And.intro
    | exact True.intro
    | with_reducible rfl
    | exact same_of hA rfl
    | refine br_of hA (fun _ => ?_) (fun _ => ?_)
    | exact imp_of hA id
    | (refine imp_of hA ?_; subst hA; simp only [real, Bool.true_and]; exact id)
    | (refine ind_of hA ?_; decide +kernel)
  all_goals subst hA
  all_goals refine congrArg (fun b => XA.one (.c (.d (eB b)))) (Bool.eq_iff_iff.2 ?_)
  all_goals subst_vars
  all_goals try simp only [real, bifA, bifB, bifC, bifD, decide_eq_true_eq, decide_eq_false_iff_not, beq_iff_eq, bne_iff_ne, beq_eq_false_iff_ne, bne_eq_false_iff_eq, ne_eq, Bool.and_eq_true, Bool.or_eq_true, Bool.not_eq_true', Bool.not_eq_false', Bool.and_eq_false_iff, Bool.or_eq_false_iff, Bool.false_eq_true, and_false, false_and, or_false, false_or, and_true, true_and, not_true_eq_false, not_false_eq_true, true_iff, false_iff, IntKind.wrap_i64] at *
  all_goals first
    | omega
    | skip
set_option maxRecDepth 100000 in
theorem c_Compare (a b : Int) : ∃ x : Int, x = (if a < b then -1 else if b < a then 1 else 0) ∧ Meets Try.prog 136 [.c (.d (eI a)), .c (.d (eI b))] ⟨.one (.c (.d (eI x))), [none, none]⟩ := by
  obtain ⟨x, hx⟩ : ∃ x : Int, x = (if a < b then -1 else if b < a then 1 else 0) := ⟨_, rfl⟩
  refine ⟨x, hx, ?_⟩
  refine meets_of (H := []) (EX := EXA) ttok mixed Try.func136 rfl (by kernel_rfl) (by decide) ?_
  generalize hA : real = A
  generalize hM : MeetsB Try.prog = M
  cbv
  repeat' first
    | apply And.intro
    | exact True.intro
    | with_reducible rfl
    | exact same_of hA rfl
    | refine br_of hA (fun _ => ?_) (fun _ => ?_)
    | exact imp_of hA id
    | (refine imp_of hA ?_; subst hA; simp only [real, Bool.true_and]; exact id)
    | (refine ind_of hA ?_; decide +kernel)
    | (refine call_ex hA hM (c_isNaN _) (fun _ _ => ?_); cbv)
  all_goals subst hA
  all_goals refine congrArg (fun x => XA.one (.c (.d (eI x)))) ?_
  all_goals subst_vars
  all_goals try simp only [real, bifA, bifB, bifC, bifD, decide_eq_true_eq, decide_eq_false_iff_not, beq_iff_eq, bne_iff_ne, beq_eq_false_iff_ne, bne_eq_false_iff_eq, ne_eq, Bool.and_eq_true, Bool.or_eq_true, Bool.not_eq_true', Bool.not_eq_false', Bool.and_eq_false_iff, Bool.or_eq_false_iff, Bool.false_eq_true, reduceCtorEq] at *
  all_goals first
    | omega
    | skip
/-- The first that is not 0. -/
inductive FirstNz (n : Nat) (g : Nat → Int) : Int → Prop
  | at (i : Nat) (h : i < n) (hi : g i ≠ 0) (hb : ∀ j, j < i → g j = 0) : FirstNz n g (g i)
  | none (hb : ∀ j, j < n → g j = 0) : FirstNz n g 0
theorem firstNz_ex (n : Nat) (g : Nat → Int) : ∃ x, FirstNz n g x := by
  by_cases h : ∃ i, i < n ∧ g i ≠ 0
  · obtain ⟨i, hi⟩ := h
    induction i using Nat.strongRecOn with
    | _ i ih =>
      by_cases hm : ∃ j, j < i ∧ g j ≠ 0
      · obtain ⟨j, hj1, hj2⟩ := hm
        exact ih j hj1 ⟨by omega, hj2⟩
      · exact ⟨_, .at i hi.1 hi.2 fun j hj => Classical.not_not.1 fun e => hm ⟨j, hj, e⟩⟩
  · exact ⟨0, .none fun j hj => Classical.not_not.1 fun e => h ⟨j, hj, e⟩⟩
theorem firstNz_one {n : Nat} {g : Nat → Int} {x y : Int} (h : FirstNz n g x) (h' : FirstNz n g y) : x = y := by
  cases h with
  | «at» i hi hh hb =>
    cases h' with
    | «at» j hj hh' hb' =>
      have : i = j := by
        rcases Nat.lt_trichotomy i j with h | h | h
        · exact absurd (hb' i h) hh
        · exact h
        · exact absurd (hb j h) hh'
      rw [this]
    | none hb' => exact absurd (hb' i hi) hh
  | none hb =>
    cases h' with
    | «at» j hj hh' hb' => exact absurd (hb j hj) hh'
    | none hb' => rfl
theorem firstNz_two {g : Nat → Int} {x : Int} (h : FirstNz 2 g x) : x = if g 0 = 0 then g 1 else g 0 := by
  refine firstNz_one h ?_
  by_cases h0 : g 0 = 0
  · rw [if_pos h0]
    by_cases h1 : g 1 = 0
    · rw [h1]; exact .none fun j hj => by rcases j with _ | _ | j; exact h0; exact h1; omega
    · exact .at 1 (by omega) h1 fun j hj => by rcases j with _ | j; exact h0; omega
  · rw [if_neg h0]; exact .at 0 (by omega) h0 fun j hj => by omega
def stOr (n : Nat) (g : Nat → Int) (i : Nat) : St := ⟨[(8, .c (.d (eI i))), (7, .c (.d (eI n))), (6, .c (.d (.sl 1 n fun i => [eI (g i)]))), (3, .c (.d (eI 0)))], []⟩
set_option maxRecDepth 100000 in
theorem m_Or (n : Nat) (hn : n ≤ maxLen) (g : Nat → Int) (x : Int) (hx : FirstNz n g x) : Meets Try.prog 135 [.c (.d (.sl 1 n fun i => [eI (g i)]))] ⟨.one (.c (.d (eI x))), [none]⟩ := by
  refine meets_of (H := []) (EX := EXA) ttok mixed Try.func135 rfl (by kernel_rfl) (by decide) ?_
  generalize hA : real = A
  generalize hM : MeetsB Try.prog = M
  cbv
  repeat' first
    | apply And.intro
    | exact True.intro
    | with_reducible rfl
    | exact same_of hA rfl
    | refine br_of hA (fun _ => ?_) (fun _ => ?_)
    | exact imp_of hA id
    | (refine imp_of hA ?_; subst hA; simp only [real, Bool.true_and]; exact id)
    | (refine ind_of hA ?_; decide +kernel)
  refine loop_of hA (α := { i : Nat // i ≤ n ∧ ∀ j, j < i → g j = 0 }) (fun x => stOr n g x.1) (fun x => n - x.1) ⟨0, Nat.zero_le _, fun j h => absurd h (Nat.not_lt_zero _)⟩ ?_ ?_
  · refine cov_of ?_ ?_ ?_
    · cbv; subst hA; exact ⟨rfl, rfl, trivial⟩
    · cbv
    · cbv
  rintro ⟨i, hi, hb⟩
  cbv
  repeat' first
    | apply And.intro
    | exact True.intro
    | with_reducible rfl
    | exact same_of hA rfl
    | refine br_of hA (fun _ => ?_) (fun _ => ?_)
    | exact imp_of hA id
    | (refine imp_of hA ?_; subst hA; simp only [real, Bool.true_and]; exact id)
    | (refine ind_of hA ?_; decide +kernel)
    | (refine inb_of hA fun _ => ?_; subst hA; simp only [real, decide_eq_true_eq, Int.ofNat_eq_natCast] at *; omega)
  · rename_i hlt hne
    subst hA
    simp only [real, decide_eq_true_eq, Int.ofNat_eq_natCast, Int.toNat_natCast, bne_iff_ne] at *
    obtain rfl := firstNz_one hx (.at i (by omega) hne hb)
    rfl
  · rename_i hlt hne
    have hlt' : i < n := by subst hA; simp only [real, decide_eq_true_eq, Int.ofNat_eq_natCast] at hlt; omega
    refine ⟨⟨i + 1, by omega, fun j hj => ?_⟩, by simp only; omega, cov_of ?_ ?_ ?_⟩
    · by_cases e : j = i
      · subst e
        subst hA
        simpa [real] using hne
      · exact hb j (by omega)
    · cbv
      subst hA
      exact ⟨congrArg (fun x => DV.v (.int .i64 x)) (up64 hlt' hn), trivial⟩
    · cbv
    · cbv
  · subst hA
    simp only [real, decide_eq_false_iff_not, Int.ofNat_eq_natCast] at *
    obtain rfl := firstNz_one hx (.none fun j hj => hb j (by omega))
    rfl
theorem two_of {A : Ar} (hA : real = A) (a b : Int) : A.sub 0 (A.app 1 (A.rep [eI a]) (A.app 1 (A.rep [eI b]) (A.rep [eI 0]))) = fun i => [eI (if i = 0 then a else if i = 1 then b else 0)] := by
  subst hA
  funext i
  rcases i with _ | _ | i
  · rfl
  · rfl
  · simp [real]
theorem c_Or (a b : Int) : ∃ x : Int, x = (if a = 0 then b else a) ∧ Meets Try.prog 135 [.c (.d (.sl 1 2 fun i => [eI (if i = 0 then a else if i = 1 then b else 0)]))] ⟨.one (.c (.d (eI x))), [none]⟩ := by
  obtain ⟨x, hx⟩ := firstNz_ex 2 fun i => if i = 0 then a else if i = 1 then b else 0
  exact ⟨x, firstNz_two hx, m_Or 2 (by decide) _ x hx⟩
set_option maxRecDepth 100000 in
theorem c_wcompare (s e s2 e2 : Int) : ∃ x : Int, x = (if s < s2 then -1 else if s2 < s then 1 else if e < e2 then -1 else if e2 < e then 1 else 0) ∧ Meets Try.prog 137 [.agg [.d (eI s), .d (eI e)], .agg [.d (eI s2), .d (eI e2)]] ⟨.one (.c (.d (eI x))), [none, none]⟩ := by
  obtain ⟨x, hx⟩ : ∃ x : Int, x = (if s < s2 then -1 else if s2 < s then 1 else if e < e2 then -1 else if e2 < e then 1 else 0) := ⟨_, rfl⟩
  refine ⟨x, hx, ?_⟩
  refine meets_of (H := []) (EX := EXA) ttok mixed Try.func137 rfl (by kernel_rfl) (by decide) ?_
  generalize hA : real = A
  generalize hM : MeetsB Try.prog = M
  cbv
  repeat' first
    | apply And.intro
    | exact True.intro
    | with_reducible rfl
    | exact same_of hA rfl
    | refine br_of hA (fun _ => ?_) (fun _ => ?_)
    | exact imp_of hA id
    | (refine imp_of hA ?_; subst hA; simp only [real, Bool.true_and]; exact id)
    | (refine ind_of hA ?_; decide +kernel)
    | (refine call_ex hA hM (c_Compare _ _) (fun _ _ => ?_); cbv)
    | (refine call_ex2 hA hM (c_Or _ _) (congrArg (fun f => [XT.c (.d (.sl 1 2 f))]) (two_of hA _ _)) (fun _ _ => ?_); cbv)
  all_goals subst hA
  all_goals refine congrArg (fun x => XA.one (.c (.d (eI x)))) ?_
  all_goals subst_vars
  all_goals try simp only [real, bifA, bifB, bifC, bifD, decide_eq_true_eq, decide_eq_false_iff_not, beq_iff_eq, bne_iff_ne, beq_eq_false_iff_ne, bne_eq_false_iff_eq, ne_eq, Bool.and_eq_true, Bool.or_eq_true, Bool.not_eq_true', Bool.not_eq_false', Bool.and_eq_false_iff, Bool.or_eq_false_iff, Bool.false_eq_true, reduceCtorEq] at *
  all_goals first
    | omega
    | skip
set_option maxRecDepth 100000 in
theorem c_rcompare (r q : RowT) : ∃ x : Int, x = (if r.key < q.key then -1 else if q.key < r.key then 1 else if r.win.s < q.win.s then -1 else if q.win.s < r.win.s then 1 else if r.win.e < q.win.e then -1 else if q.win.e < r.win.e then 1 else 0) ∧ Meets Try.prog 99 [xd (eRow r), xd (eRow q)] ⟨.one (.c (.d (eI x))), [none, none]⟩ := by
  obtain ⟨x, hx⟩ : ∃ x : Int, x = (if r.key < q.key then -1 else if q.key < r.key then 1 else if r.win.s < q.win.s then -1 else if q.win.s < r.win.s then 1 else if r.win.e < q.win.e then -1 else if q.win.e < r.win.e then 1 else 0) := ⟨_, rfl⟩
  refine ⟨x, hx, ?_⟩
  refine meets_of (H := []) (EX := EXA) ttok mixed Try.func99 rfl (by kernel_rfl) (by decide) ?_
  generalize hA : real = A
  generalize hM : MeetsB Try.prog = M
  cbv
  repeat' first
    | apply And.intro
    | exact True.intro
    | with_reducible rfl
    | exact same_of hA rfl
    | refine br_of hA (fun _ => ?_) (fun _ => ?_)
    | exact imp_of hA id
    | (refine imp_of hA ?_; subst hA; simp only [real, Bool.true_and]; exact id)
    | (refine ind_of hA ?_; decide +kernel)
    | (refine call_ex hA hM (c_Compare _ _) (fun _ _ => ?_); cbv)
    | (refine call_ex hA hM (c_wcompare _ _ _ _) (fun _ _ => ?_); cbv)
    | (refine call_ex2 hA hM (c_Or _ _) (congrArg (fun f => [XT.c (.d (.sl 1 2 f))]) (two_of hA _ _)) (fun _ _ => ?_); cbv)
  all_goals subst hA
  all_goals refine congrArg (fun x => XA.one (.c (.d (eI x)))) ?_
  all_goals subst_vars
  all_goals try simp only [real, bifA, bifB, bifC, bifD, decide_eq_true_eq, decide_eq_false_iff_not, beq_iff_eq, bne_iff_ne, beq_eq_false_iff_ne, bne_eq_false_iff_eq, ne_eq, Bool.and_eq_true, Bool.or_eq_true, Bool.not_eq_true', Bool.not_eq_false', Bool.and_eq_false_iff, Bool.or_eq_false_iff, Bool.false_eq_true, reduceCtorEq] at *
  all_goals first
    | omega
    | skip
set_option maxRecDepth 100000 in
theorem c_WinTouch (s e s2 e2 : Int) : ∃ b, b = decide (s < e2 ∧ s2 < e) ∧ Meets Try.prog 79 [.agg [.d (eI s), .d (eI e)], .agg [.d (eI s2), .d (eI e2)]] ⟨.one (.c (.d (eB b))), [none, none]⟩ := by
  obtain ⟨b, hb⟩ : ∃ b, b = decide (s < e2 ∧ s2 < e) := ⟨_, rfl⟩
  refine ⟨b, hb, ?_⟩
  refine meets_of (H := []) (EX := EXA) ttok mixed Try.func79 rfl (by kernel_rfl) (by decide) ?_
  generalize hA : real = A
  generalize hM : MeetsB Try.prog = M
  cbv
  repeat' first
    | apply And.intro
    | exact True.intro
    | with_reducible rfl
    | exact same_of hA rfl
    | refine br_of hA (fun _ => ?_) (fun _ => ?_)
    | exact imp_of hA id
    | (refine imp_of hA ?_; subst hA; simp only [real, Bool.true_and]; exact id)
    | (refine ind_of hA ?_; decide +kernel)
  all_goals subst hA
  all_goals refine congrArg (fun b => XA.one (.c (.d (eB b)))) (Bool.eq_iff_iff.2 ?_)
  all_goals subst_vars
  all_goals try simp only [real, bifA, bifB, bifC, bifD, decide_eq_true_eq, decide_eq_false_iff_not, beq_iff_eq, bne_iff_ne, beq_eq_false_iff_ne, bne_eq_false_iff_eq, ne_eq, Bool.and_eq_true, Bool.or_eq_true, Bool.not_eq_true', Bool.not_eq_false', Bool.and_eq_false_iff, Bool.or_eq_false_iff, Bool.false_eq_true, and_false, false_and, or_false, false_or, and_true, true_and, not_true_eq_false, not_false_eq_true, true_iff, false_iff, IntKind.wrap_i64] at *
  all_goals first
    | omega
    | skip
set_option maxRecDepth 100000 in
theorem c_sWinTouch (s e s2 e2 : Int) : ∃ b, b = decide (s < e2 ∧ s2 < e) ∧ Meets Try.prog 74 [.agg [.d (eI s), .d (eI e)], .agg [.d (eI s2), .d (eI e2)]] ⟨.one (.c (.d (eB b))), [none, none]⟩ := by
  obtain ⟨b, hb⟩ : ∃ b, b = decide (s < e2 ∧ s2 < e) := ⟨_, rfl⟩
  refine ⟨b, hb, ?_⟩
  refine meets_of (H := []) (EX := EXA) ttok mixed Try.func74 rfl (by kernel_rfl) (by decide) ?_
  generalize hA : real = A
  generalize hM : MeetsB Try.prog = M
  cbv
  repeat' first
    | apply And.intro
    | exact True.intro
    | with_reducible rfl
    | exact same_of hA rfl
    | refine br_of hA (fun _ => ?_) (fun _ => ?_)
    | exact imp_of hA id
    | (refine imp_of hA ?_; subst hA; simp only [real, Bool.true_and]; exact id)
    | (refine ind_of hA ?_; decide +kernel)
  all_goals subst hA
  all_goals refine congrArg (fun b => XA.one (.c (.d (eB b)))) (Bool.eq_iff_iff.2 ?_)
  all_goals subst_vars
  all_goals try simp only [real, bifA, bifB, bifC, bifD, decide_eq_true_eq, decide_eq_false_iff_not, beq_iff_eq, bne_iff_ne, beq_eq_false_iff_ne, bne_eq_false_iff_eq, ne_eq, Bool.and_eq_true, Bool.or_eq_true, Bool.not_eq_true', Bool.not_eq_false', Bool.and_eq_false_iff, Bool.or_eq_false_iff, Bool.false_eq_true, and_false, false_and, or_false, false_or, and_true, true_and, not_true_eq_false, not_false_eq_true, true_iff, false_iff, IntKind.wrap_i64] at *
  all_goals first
    | omega
    | skip
set_option maxRecDepth 100000 in
theorem c_l2Less (s e s2 e2 : Int) : ∃ b, b = decide (s < s2 ∨ (s = s2 ∧ e < e2)) ∧ Meets Try.prog 124 [.agg [.d (eI s), .d (eI e)], .agg [.d (eI s2), .d (eI e2)]] ⟨.one (.c (.d (eB b))), [none, none]⟩ := by
  obtain ⟨b, hb⟩ : ∃ b, b = decide (s < s2 ∨ (s = s2 ∧ e < e2)) := ⟨_, rfl⟩
  refine ⟨b, hb, ?_⟩
  refine meets_of (H := []) (EX := EXA) ttok mixed Try.func124 rfl (by kernel_rfl) (by decide) ?_
  generalize hA : real = A
  generalize hM : MeetsB Try.prog = M
  cbv
  repeat' first
    | apply And.intro
    | exact True.intro
    | with_reducible rfl
    | exact same_of hA rfl
    | refine br_of hA (fun _ => ?_) (fun _ => ?_)
    | exact imp_of hA id
    | (refine imp_of hA ?_; subst hA; simp only [real, Bool.true_and]; exact id)
    | (refine ind_of hA ?_; decide +kernel)
  all_goals subst hA
  all_goals refine congrArg (fun b => XA.one (.c (.d (eB b)))) (Bool.eq_iff_iff.2 ?_)
  all_goals subst_vars
  all_goals try simp only [real, bifA, bifB, bifC, bifD, decide_eq_true_eq, decide_eq_false_iff_not, beq_iff_eq, bne_iff_ne, beq_eq_false_iff_ne, bne_eq_false_iff_eq, ne_eq, Bool.and_eq_true, Bool.or_eq_true, Bool.not_eq_true', Bool.not_eq_false', Bool.and_eq_false_iff, Bool.or_eq_false_iff, Bool.false_eq_true, and_false, false_and, or_false, false_or, and_true, true_and, not_true_eq_false, not_false_eq_true, true_iff, false_iff, IntKind.wrap_i64] at *
  all_goals first
    | omega
    | skip
set_option maxRecDepth 100000 in
theorem c_l5Ahead (k s e k2 s2 e2 : Int) : ∃ b, b = decide (k < k2 ∨ (k = k2 ∧ (s < s2 ∨ (s = s2 ∧ e < e2)))) ∧ Meets Try.prog 73 [.c (.d (eI k)), .agg [.d (eI s), .d (eI e)], .c (.d (eI k2)), .agg [.d (eI s2), .d (eI e2)]] ⟨.one (.c (.d (eB b))), [none, none, none, none]⟩ := by
  obtain ⟨b, hb⟩ : ∃ b, b = decide (k < k2 ∨ (k = k2 ∧ (s < s2 ∨ (s = s2 ∧ e < e2)))) := ⟨_, rfl⟩
  refine ⟨b, hb, ?_⟩
  refine meets_of (H := []) (EX := EXA) ttok mixed Try.func73 rfl (by kernel_rfl) (by decide) ?_
  generalize hA : real = A
  generalize hM : MeetsB Try.prog = M
  cbv
  repeat' first
    | apply And.intro
    | exact True.intro
    | with_reducible rfl
    | exact same_of hA rfl
    | refine br_of hA (fun _ => ?_) (fun _ => ?_)
    | exact imp_of hA id
    | (refine imp_of hA ?_; subst hA; simp only [real, Bool.true_and]; exact id)
    | (refine ind_of hA ?_; decide +kernel)
    | (refine call_ex hA hM (c_l2Less _ _ _ _) (fun _ _ => ?_); cbv)
  all_goals subst hA
  all_goals refine congrArg (fun b => XA.one (.c (.d (eB b)))) (Bool.eq_iff_iff.2 ?_)
  all_goals subst_vars
  all_goals try simp only [real, bifA, bifB, bifC, bifD, decide_eq_true_eq, decide_eq_false_iff_not, beq_iff_eq, bne_iff_ne, beq_eq_false_iff_ne, bne_eq_false_iff_eq, ne_eq, Bool.and_eq_true, Bool.or_eq_true, Bool.not_eq_true', Bool.not_eq_false', Bool.and_eq_false_iff, Bool.or_eq_false_iff, Bool.false_eq_true, and_false, false_and, or_false, false_or, and_true, true_and, not_true_eq_false, not_false_eq_true, true_iff, false_iff, IntKind.wrap_i64] at *
  all_goals first
    | omega
    | skip
set_option maxRecDepth 100000 in
theorem c_AggOk (n sum least most : Int) : ∃ b, b = decide ((n = 0 ∧ sum = 0 ∧ least = 0 ∧ most = 0) ∨ (n ≠ 0 ∧ (1 ≤ n ∧ n ≤ 1000) ∧ (-9 ≤ least ∧ least ≤ 9) ∧ (least ≤ most ∧ most ≤ 9) ∧ (IntKind.i64.wrap (n * least) ≤ sum ∧ sum ≤ IntKind.i64.wrap (n * most)))) ∧ Meets Try.prog 109 [.agg [.d (eI n), .d (eI sum), .d (eI least), .d (eI most)]] ⟨.one (.c (.d (eB b))), [none]⟩ := by
  obtain ⟨b, hb⟩ : ∃ b, b = decide ((n = 0 ∧ sum = 0 ∧ least = 0 ∧ most = 0) ∨ (n ≠ 0 ∧ (1 ≤ n ∧ n ≤ 1000) ∧ (-9 ≤ least ∧ least ≤ 9) ∧ (least ≤ most ∧ most ≤ 9) ∧ (IntKind.i64.wrap (n * least) ≤ sum ∧ sum ≤ IntKind.i64.wrap (n * most)))) := ⟨_, rfl⟩
  refine ⟨b, hb, ?_⟩
  refine meets_of (H := []) (EX := EXA) ttok mixed Try.func109 rfl (by kernel_rfl) (by decide) ?_
  generalize hA : real = A
  generalize hM : MeetsB Try.prog = M
  cbv
  repeat' first
    | apply And.intro
    | exact True.intro
    | with_reducible rfl
    | exact same_of hA rfl
    | refine br_of hA (fun _ => ?_) (fun _ => ?_)
    | exact imp_of hA id
    | (refine imp_of hA ?_; subst hA; simp only [real, Bool.true_and]; exact id)
    | (refine ind_of hA ?_; decide +kernel)
    | (refine call_ex hA hM (c_in _ _ _) (fun _ _ => ?_); cbv)
  all_goals subst hA
  all_goals refine congrArg (fun b => XA.one (.c (.d (eB b)))) (Bool.eq_iff_iff.2 ?_)
  all_goals subst_vars
  all_goals try simp only [real, bifA, bifB, bifC, bifD, decide_eq_true_eq, decide_eq_false_iff_not, beq_iff_eq, bne_iff_ne, beq_eq_false_iff_ne, bne_eq_false_iff_eq, ne_eq, Bool.and_eq_true, Bool.or_eq_true, Bool.not_eq_true', Bool.not_eq_false', Bool.and_eq_false_iff, Bool.or_eq_false_iff, Bool.false_eq_true, and_false, false_and, or_false, false_or, and_true, true_and, not_true_eq_false, not_false_eq_true, true_iff, false_iff, IntKind.wrap_i64] at *
  all_goals first
    | omega
    | skip
set_option maxRecDepth 100000 in
theorem c_sAggOk (n sum least most : Int) : ∃ b, b = decide ((n = 0 ∧ sum = 0 ∧ least = 0 ∧ most = 0) ∨ (n ≠ 0 ∧ (1 ≤ n ∧ n ≤ 1000) ∧ (-9 ≤ least ∧ least ≤ 9) ∧ (least ≤ most ∧ most ≤ 9) ∧ (IntKind.i64.wrap (n * least) ≤ sum ∧ sum ≤ IntKind.i64.wrap (n * most)))) ∧ Meets Try.prog 123 [.agg [.d (eI n), .d (eI sum), .d (eI least), .d (eI most)]] ⟨.one (.c (.d (eB b))), [none]⟩ := by
  obtain ⟨b, hb⟩ : ∃ b, b = decide ((n = 0 ∧ sum = 0 ∧ least = 0 ∧ most = 0) ∨ (n ≠ 0 ∧ (1 ≤ n ∧ n ≤ 1000) ∧ (-9 ≤ least ∧ least ≤ 9) ∧ (least ≤ most ∧ most ≤ 9) ∧ (IntKind.i64.wrap (n * least) ≤ sum ∧ sum ≤ IntKind.i64.wrap (n * most)))) := ⟨_, rfl⟩
  refine ⟨b, hb, ?_⟩
  refine meets_of (H := []) (EX := EXA) ttok mixed Try.func123 rfl (by kernel_rfl) (by decide) ?_
  generalize hA : real = A
  generalize hM : MeetsB Try.prog = M
  cbv
  repeat' first
    | apply And.intro
    | exact True.intro
    | with_reducible rfl
    | exact same_of hA rfl
    | refine br_of hA (fun _ => ?_) (fun _ => ?_)
    | exact imp_of hA id
    | (refine imp_of hA ?_; subst hA; simp only [real, Bool.true_and]; exact id)
    | (refine ind_of hA ?_; decide +kernel)
    | (refine call_ex hA hM (c_l1In _ _ _) (fun _ _ => ?_); cbv)
  all_goals subst hA
  all_goals refine congrArg (fun b => XA.one (.c (.d (eB b)))) (Bool.eq_iff_iff.2 ?_)
  all_goals subst_vars
  all_goals try simp only [real, bifA, bifB, bifC, bifD, decide_eq_true_eq, decide_eq_false_iff_not, beq_iff_eq, bne_iff_ne, beq_eq_false_iff_ne, bne_eq_false_iff_eq, ne_eq, Bool.and_eq_true, Bool.or_eq_true, Bool.not_eq_true', Bool.not_eq_false', Bool.and_eq_false_iff, Bool.or_eq_false_iff, Bool.false_eq_true, and_false, false_and, or_false, false_or, and_true, true_and, not_true_eq_false, not_false_eq_true, true_iff, false_iff, IntKind.wrap_i64] at *
  all_goals first
    | omega
    | skip
end Go.Rk
/- First places. -/
namespace Go.Rk
set_option linter.unusedSimpArgs false
set_option linter.unusedVariables false
open Go.Proofs
def stIxRow1 (n : Nat) (g : Nat → RowT) (F : FuncId) (c0 : DV) (i : Nat) : St := ⟨[(8, .c (.d (eI i))), (7, .c (.d (eI n))), (0, .c (.d (.sl 13 n fun i => eRow (g i)))), (1, .c (.d (.fn F [c0])))], []⟩
set_option maxRecDepth 100000 in
theorem c_IndexRow1 (n : Nat) (hn : n ≤ maxLen) (g : Nat → RowT) (F : FuncId) (c0 : DV) (Q : RowT → Prop) (hc : ∀ r, ∃ b, (b = true ↔ Q r) ∧ Meets Try.prog F [xd (eRow r), .c (.d c0)] ⟨.one (.c (.d (eB b))), [none, none]⟩) : ∃ x, FirstIx n (fun i => Q (g i)) x ∧ Meets Try.prog 120 [.c (.d (.sl 13 n fun i => eRow (g i))), .c (.d (.fn F [c0]))] ⟨.one (.c (.d (eI x))), [none, none]⟩ := by
  obtain ⟨x, hx⟩ := firstIx_ex n fun i => Q (g i)
  refine ⟨x, hx, ?_⟩
  refine meets_of (H := []) (EX := EXA) ttok mixed Try.func120 rfl (by kernel_rfl) (by decide) ?_
  generalize hA : real = A
  generalize hM : MeetsB Try.prog = M
  cbv
  repeat' first
    | apply And.intro
    | exact True.intro
    | with_reducible rfl
    | exact same_of hA rfl
    | refine br_of hA (fun _ => ?_) (fun _ => ?_)
    | exact imp_of hA id
    | (refine imp_of hA ?_; subst hA; simp only [real, Bool.true_and]; exact id)
    | (refine ind_of hA ?_; decide +kernel)
  refine loop_of hA (α := { i : Nat // i ≤ n ∧ ∀ j, j < i → ¬ Q (g j) }) (fun x => stIxRow1 n g F c0 x.1) (fun x => n - x.1) ⟨0, Nat.zero_le _, fun j h => absurd h (Nat.not_lt_zero _)⟩ ?_ ?_
  · refine cov_of ?_ ?_ ?_
    · cbv; subst hA; exact ⟨rfl, rfl, trivial⟩
    · cbv
    · cbv
  rintro ⟨i, hi, hb⟩
  cbv
  repeat' first
    | apply And.intro
    | exact True.intro
    | with_reducible rfl
    | exact same_of hA rfl
    | refine br_of hA (fun _ => ?_) (fun _ => ?_)
    | exact imp_of hA id
    | (refine imp_of hA ?_; subst hA; simp only [real, Bool.true_and]; exact id)
    | (refine ind_of hA ?_; decide +kernel)
    | (refine inb_of hA fun _ => ?_; subst hA; simp only [real, decide_eq_true_eq, Int.ofNat_eq_natCast] at *; omega)
  · refine call_ex hA hM (hc (g (A.nat (Int.ofNat i)))) (fun b hbb => ?_)
    cbv
    repeat' first
      | apply And.intro
      | exact True.intro
      | with_reducible rfl
      | exact same_of hA rfl
      | refine br_of hA (fun _ => ?_) (fun _ => ?_)
      | exact imp_of hA id
      | (refine imp_of hA ?_; subst hA; simp only [real, Bool.true_and]; exact id)
      | (refine ind_of hA ?_; decide +kernel)
    · rename_i hlt ht
      subst hA
      simp only [real, decide_eq_true_eq, Int.ofNat_eq_natCast, Int.toNat_natCast] at *
      obtain rfl := firstIx_one hx (.at i (by omega) (hbb.1 ht) hb)
      rfl
    · rename_i hlt ht
      have hlt' : i < n := by subst hA; simp only [real, decide_eq_true_eq, Int.ofNat_eq_natCast] at hlt; omega
      refine ⟨⟨i + 1, by omega, fun j hj => ?_⟩, by simp only; omega, cov_of ?_ ?_ ?_⟩
      · by_cases e : j = i
        · subst e
          subst hA
          intro hq
          have := hbb.2 hq
          rw [ht] at this
          cases this
        · exact hb j (by omega)
      · cbv
        subst hA
        exact ⟨congrArg (fun x => DV.v (.int .i64 x)) (up64 hlt' hn), trivial⟩
      · cbv
      · cbv
  · subst hA
    simp only [real, decide_eq_false_iff_not, Int.ofNat_eq_natCast] at *
    obtain rfl := firstIx_one hx (.none fun j hj => hb j (by omega))
    rfl
set_option maxRecDepth 100000 in
theorem c_ContainsRow1 (n : Nat) (hn : n ≤ maxLen) (g : Nat → RowT) (F : FuncId) (c0 : DV) (Q : RowT → Prop) (hc : ∀ r, ∃ b, (b = true ↔ Q r) ∧ Meets Try.prog F [xd (eRow r), .c (.d c0)] ⟨.one (.c (.d (eB b))), [none, none]⟩) : ∃ b, (b = true ↔ ∃ i, i < n ∧ Q (g i)) ∧ Meets Try.prog 101 [.c (.d (.sl 13 n fun i => eRow (g i))), .c (.d (.fn F [c0]))] ⟨.one (.c (.d (eB b))), [none, none]⟩ := by
  obtain ⟨x, hx, hm⟩ := c_IndexRow1 n hn g F c0 Q hc
  obtain ⟨b, hb⟩ : ∃ b, b = decide (0 ≤ x) := ⟨_, rfl⟩
  have hxx := firstIx_neg hx
  refine ⟨b, by rw [hb, decide_eq_true_eq]; exact hxx.1, ?_⟩
  refine meets_of (H := []) (EX := EXA) ttok mixed Try.func101 rfl (by kernel_rfl) (by decide) ?_
  generalize hA : real = A
  generalize hM : MeetsB Try.prog = M
  cbv
  repeat' first
    | apply And.intro
    | exact True.intro
    | with_reducible rfl
    | exact same_of hA rfl
    | refine br_of hA (fun _ => ?_) (fun _ => ?_)
    | exact imp_of hA id
    | (refine imp_of hA ?_; subst hA; simp only [real, Bool.true_and]; exact id)
    | (refine ind_of hA ?_; decide +kernel)
    | (refine call_of hA hM _ hm ?_; cbv)
  all_goals subst hA
  all_goals refine congrArg (fun b => XA.one (.c (.d (eB b)))) (Bool.eq_iff_iff.2 ?_)
  all_goals subst_vars
  all_goals try simp only [real, bifA, bifB, bifC, bifD, decide_eq_true_eq, decide_eq_false_iff_not, beq_iff_eq, bne_iff_ne, beq_eq_false_iff_ne, bne_eq_false_iff_eq, ne_eq, Bool.and_eq_true, Bool.or_eq_true, Bool.not_eq_true', Bool.not_eq_false', Bool.and_eq_false_iff, Bool.or_eq_false_iff, Bool.false_eq_true, and_false, false_and, or_false, false_or, and_true, true_and, not_true_eq_false, not_false_eq_true, true_iff, false_iff, IntKind.wrap_i64] at *
  all_goals first
    | omega
    | skip
end Go.Rk
/- Rows. -/
namespace Go.Rk
set_option linter.unusedSimpArgs false
set_option linter.unusedVariables false
open Go.Proofs
theorem beqB (a b : Bool) : ((a == b) = true) = (a = true ↔ b = true) := by cases a <;> cases b <;> simp
theorem beqI (a b : Int) : ((a == b) = true) = (a = b) := by simp
theorem bneI (a b : Int) : ((a != b) = true) = ¬ (a = b) := by simp
theorem beqIF (a b : Int) : ((a == b) = false) = ¬ (a = b) := by simp
theorem bneIF (a b : Int) : ((a != b) = false) = (a = b) := by simp
open Classical in
set_option maxRecDepth 100000 in
theorem c_rowOk (j : JobT) (r : RowT) (mark : Int) : ∃ b, (b = true ↔ RowOkP j r mark) ∧ Meets Try.prog 98 [xd (eRow r), xd (eJob j), .c (.d (eI mark))] ⟨.one (.c (.d (eB b))), [none, none, none]⟩ := by
  obtain ⟨b, hb⟩ : ∃ b, b = decide (RowOkP j r mark) := ⟨_, rfl⟩
  refine ⟨b, by rw [hb, decide_eq_true_eq], ?_⟩
  refine meets_of (H := []) (EX := EXA) ttok mixed Try.func98 rfl (by kernel_rfl) (by decide) ?_
  generalize hA : real = A
  generalize hM : MeetsB Try.prog = M
  cbv
  repeat' first
    | apply And.intro
    | exact True.intro
    | with_reducible rfl
    | exact same_of hA rfl
    | refine br_of hA (fun _ => ?_) (fun _ => ?_)
    | exact imp_of hA id
    | (refine imp_of hA ?_; subst hA; simp only [real, Bool.true_and]; exact id)
    | (refine ind_of hA ?_; decide +kernel)
    | (refine call_ex hA hM (c_in _ _ _) (fun _ _ => ?_); cbv)
    | (refine call_ex hA hM (c_isKey _) (fun _ _ => ?_); cbv)
    | (refine call_ex hA hM (c_WinOk _ _) (fun _ _ => ?_); cbv)
    | (refine call_ex hA hM (c_AggOk _ _ _ _) (fun _ _ => ?_); cbv)
  all_goals obtain ⟨key, ⟨s, e⟩, ⟨n1, sum1, least1, most1⟩, ⟨n2, sum2, least2, most2⟩, told, timely⟩ := r
  all_goals obtain ⟨_, _, _, _, _, late, _, _, _, _⟩ := j
  all_goals subst hA
  all_goals refine congrArg (fun b => XA.one (.c (.d (eB b)))) (Bool.eq_iff_iff.2 ?_)
  all_goals subst_vars
  all_goals simp only [real, bifA, bifB, bifC, bifD, beqB, decide_eq_true_eq, decide_eq_false_iff_not, beqI, bneI, beqIF, bneIF, ne_eq, Bool.and_eq_true, Bool.or_eq_true, Bool.not_eq_true', Bool.not_eq_false', Bool.and_eq_false_iff, Bool.or_eq_false_iff, Bool.false_eq_true, and_false, false_and, or_false, false_or, and_true, true_and, not_true_eq_false, not_false_eq_true, true_iff, false_iff, IntKind.wrap_i64, RowOkP, WinOkP, AggOkP] at *
  all_goals first
    | omega
    | (cases timely <;> simp only [true_iff, false_iff, iff_true, iff_false, Bool.false_eq_true, not_true_eq_false, not_false_eq_true, reduceCtorEq] at * <;> omega)
open Classical in
set_option maxRecDepth 100000 in
theorem c_l7Row (j : JobT) (r : RowT) (mark : Int) : ∃ b, (b = true ↔ RowOkP j r mark) ∧ Meets Try.prog 72 [xd (eJob j), xd (eRow r), .c (.d (eI mark))] ⟨.one (.c (.d (eB b))), [none, none, none]⟩ := by
  obtain ⟨b, hb⟩ : ∃ b, b = decide (RowOkP j r mark) := ⟨_, rfl⟩
  refine ⟨b, by rw [hb, decide_eq_true_eq], ?_⟩
  refine meets_of (H := []) (EX := EXA) ttok mixed Try.func72 rfl (by kernel_rfl) (by decide) ?_
  generalize hA : real = A
  generalize hM : MeetsB Try.prog = M
  cbv
  repeat' first
    | apply And.intro
    | exact True.intro
    | with_reducible rfl
    | exact same_of hA rfl
    | refine br_of hA (fun _ => ?_) (fun _ => ?_)
    | exact imp_of hA id
    | (refine imp_of hA ?_; subst hA; simp only [real, Bool.true_and]; exact id)
    | (refine ind_of hA ?_; decide +kernel)
    | (refine call_ex hA hM (c_l1In _ _ _) (fun _ _ => ?_); cbv)
    | (refine call_ex hA hM (c_sWinOk _ _) (fun _ _ => ?_); cbv)
    | (refine call_ex hA hM (c_sAggOk _ _ _ _) (fun _ _ => ?_); cbv)
  all_goals obtain ⟨key, ⟨s, e⟩, ⟨n1, sum1, least1, most1⟩, ⟨n2, sum2, least2, most2⟩, told, timely⟩ := r
  all_goals obtain ⟨_, _, _, _, _, late, _, _, _, _⟩ := j
  all_goals subst hA
  all_goals refine congrArg (fun b => XA.one (.c (.d (eB b)))) (Bool.eq_iff_iff.2 ?_)
  all_goals subst_vars
  all_goals simp only [real, bifA, bifB, bifC, bifD, beqB, decide_eq_true_eq, decide_eq_false_iff_not, beqI, bneI, beqIF, bneIF, ne_eq, Bool.and_eq_true, Bool.or_eq_true, Bool.not_eq_true', Bool.not_eq_false', Bool.and_eq_false_iff, Bool.or_eq_false_iff, Bool.false_eq_true, and_false, false_and, or_false, false_or, and_true, true_and, not_true_eq_false, not_false_eq_true, true_iff, false_iff, IntKind.wrap_i64, RowOkP, WinOkP, AggOkP] at *
  all_goals first
    | omega
    | (cases timely <;> simp only [true_iff, false_iff, iff_true, iff_false, Bool.false_eq_true, not_true_eq_false, not_false_eq_true, reduceCtorEq] at * <;> omega)
end Go.Rk
/- Operators. -/
namespace Go.Rk
set_option linter.unusedSimpArgs false
set_option linter.unusedVariables false
open Go.Proofs
def OkAt (j : JobT) (mark : Int) (g : Nat → RowT) (i : Nat) : Prop := RowOkP j (g i) mark ∧ (0 < i → AheadP (g (i - 1)).key (g (i - 1)).win (g i).key (g i).win) ∧
    (j.kind = 3 → ∀ k, k < i → ¬ ((g k).key = (g i).key ∧ TouchP (g k).win (g i).win))
theorem down64 {i : Nat} (h : 0 < i) (hn : i ≤ maxLen) : (IntKind.i64.wrap ((i : Int) - 1)).toNat = i - 1 := by
  have hm : maxLen = 9223372036854775807 := by decide
  rw [hm] at hn
  rw [IntWalk.i64_in _ (by omega)]
  omega
theorem c_rcmpA (r q : RowT) : ∃ x : Int, (x < 0 ↔ AheadP r.key r.win q.key q.win) ∧ Meets Try.prog 99 [xd (eRow r), xd (eRow q)] ⟨.one (.c (.d (eI x))), [none, none]⟩ := by
  obtain ⟨x, hx, hm⟩ := c_rcompare r q
  refine ⟨x, ?_, hm⟩
  unfold AheadP WinLt
  omega
set_option maxRecDepth 100000 in
theorem c_OpOk1 (r q : RowT) : ∃ b, (b = true ↔ q.key = r.key ∧ TouchP q.win r.win) ∧ Meets Try.prog 100 [xd (eRow q), .c (.d (.p (eRow r)))] ⟨.one (.c (.d (eB b))), [none, none]⟩ := by
  obtain ⟨b, hb⟩ : ∃ b, b = decide (q.key = r.key ∧ q.win.s < r.win.e ∧ r.win.s < q.win.e) := ⟨_, rfl⟩
  refine ⟨b, by rw [hb, decide_eq_true_eq]; exact Iff.rfl, ?_⟩
  refine meets_of (H := []) (EX := EXA) ttok mixed Try.func100 rfl (by kernel_rfl) (by decide) ?_
  generalize hA : real = A
  generalize hM : MeetsB Try.prog = M
  cbv
  repeat' first
    | apply And.intro
    | exact True.intro
    | with_reducible rfl
    | exact same_of hA rfl
    | refine br_of hA (fun _ => ?_) (fun _ => ?_)
    | exact imp_of hA id
    | (refine imp_of hA ?_; subst hA; simp only [real, Bool.true_and]; exact id)
    | (refine ind_of hA ?_; decide +kernel)
    | (refine call_ex hA hM (c_WinTouch _ _ _ _) (fun _ _ => ?_); cbv)
  all_goals subst hA
  all_goals refine congrArg (fun b => XA.one (.c (.d (eB b)))) (Bool.eq_iff_iff.2 ?_)
  all_goals subst_vars
  all_goals try simp only [real, bifA, bifB, bifC, bifD, decide_eq_true_eq, decide_eq_false_iff_not, beq_iff_eq, bne_iff_ne, beq_eq_false_iff_ne, bne_eq_false_iff_eq, ne_eq, Bool.and_eq_true, Bool.or_eq_true, Bool.not_eq_true', Bool.not_eq_false', Bool.and_eq_false_iff, Bool.or_eq_false_iff, Bool.false_eq_true, and_false, false_and, or_false, false_or, and_true, true_and, not_true_eq_false, not_false_eq_true, true_iff, false_iff, IntKind.wrap_i64] at *
  all_goals first
    | omega
    | skip
def stOk (j : JobT) (mark : Int) (n : Nat) (g : Nat → RowT) (i : Nat) : St := ⟨[(26, .c (.d (eI i))), (25, .c (.d (eI n))), (24, .c (.d (.sl 13 n fun i => eRow (g i)))), (2, .c (.bp 128 1 0)), (3, .c (.bp 192 1 0))], [(128, 1, .box ((eJob j).map .d)), (192, 1, .box ([eI mark, .sl 13 n fun i => eRow (g i)].map .d))]⟩
open Classical in
set_option maxRecDepth 100000 in
theorem c_OpOk (j : JobT) (s : OpStT) : ∃ b, (b = true ↔ OpOkP j s) ∧ Meets Try.prog 46 [xd (eJob j), xd (eOpSt s)] ⟨.one (.c (.d (eB b))), [none, none]⟩ := by
  obtain ⟨b, hb⟩ : ∃ b : Bool, (b = true ↔ OpOkP j s) := ⟨decide (OpOkP j s), by rw [decide_eq_true_eq]⟩
  refine ⟨b, hb, ?_⟩
  obtain ⟨mark, n, g, hn⟩ := s
  show Meets Try.prog 46 [xd (eJob j), xd [eI mark, .sl 13 n fun i => eRow (g i)]] _
  refine meets_of (H := []) (EX := EXA) ttok mixed Try.func46 rfl (by kernel_rfl) (by decide) ?_
  generalize hA : real = A
  generalize hM : MeetsB Try.prog = M
  cbv
  repeat' first
    | apply And.intro
    | exact True.intro
    | with_reducible rfl
    | exact same_of hA rfl
    | refine br_of hA (fun _ => ?_) (fun _ => ?_)
    | exact imp_of hA id
    | (refine imp_of hA ?_; subst hA; simp only [real, Bool.true_and]; exact id)
    | (refine ind_of hA ?_; decide +kernel)
    | (refine call_ex hA hM (c_JobOk _ _ _ _ _ _ _ _ _ _) (fun _ _ => ?_); cbv)
    | (refine call_ex hA hM (c_isTime _) (fun _ _ => ?_); cbv)
  · rename_i hbad
    subst hA; subst_vars
    refine congrArg (fun b => XA.one (.c (.d (eB b)))) ?_
    simp only [real, bifA, bifB, bifC, bifD, beqB, decide_eq_true_eq, decide_eq_false_iff_not, beqI, bneI, beqIF, bneIF, ne_eq, Bool.and_eq_true, Bool.or_eq_true, Bool.not_eq_true', Bool.not_eq_false', Bool.and_eq_false_iff, Bool.or_eq_false_iff, Bool.false_eq_true, and_false, false_and, or_false, false_or, and_true, true_and, not_true_eq_false, not_false_eq_true, true_iff, false_iff, Int.ofNat_eq_natCast, Int.toNat_natCast] at hbad
    cases b with
    | false => rfl
    | true =>
      exfalso
      obtain ⟨h1, h2, h3, _⟩ := hb.1 rfl
      unfold JobOkP at h1
      simp only at h2 h3
      omega
  rename_i hgood
  have hpre : JobOkP j ∧ (0 ≤ mark ∧ mark ≤ 1000) ∧ n ≤ 300 := by
    subst hA; subst_vars
    simp only [real, bifA, bifB, bifC, bifD, beqB, decide_eq_true_eq, decide_eq_false_iff_not, beqI, bneI, beqIF, bneIF, ne_eq, Bool.and_eq_true, Bool.or_eq_true, Bool.not_eq_true', Bool.not_eq_false', Bool.and_eq_false_iff, Bool.or_eq_false_iff, Bool.false_eq_true, and_false, false_and, or_false, false_or, and_true, true_and, not_true_eq_false, not_false_eq_true, true_iff, false_iff, Int.ofNat_eq_natCast, Int.toNat_natCast] at hgood
    unfold JobOkP
    omega
  clear hgood
  refine loop_of hA (α := { i : Nat // i ≤ n ∧ ∀ k, k < i → OkAt j mark g k }) (fun x => stOk j mark n g x.1) (fun x => n - x.1) ⟨0, Nat.zero_le _, fun j h => absurd h (Nat.not_lt_zero _)⟩ ?_ ?_
  · refine cov_of ?_ ?_ ?_
    · cbv; subst hA; repeat' first | apply And.intro | exact True.intro | rfl
    · cbv; try (repeat' first | apply And.intro | exact True.intro | rfl)
    · cbv
  rintro ⟨i, hi, hk⟩
  cbv
  repeat' first
    | apply And.intro
    | exact True.intro
    | with_reducible rfl
    | exact same_of hA rfl
    | refine br_of hA (fun _ => ?_) (fun _ => ?_)
    | exact imp_of hA id
    | (refine imp_of hA ?_; subst hA; simp only [real, Bool.true_and]; exact id)
    | (refine ind_of hA ?_; decide +kernel)
    | (refine call_ex hA hM (c_rowOk _ _ _) (fun _ _ => ?_); cbv)
    | (refine call_ex hA hM (c_rcmpA _ _) (fun _ _ => ?_); cbv)
    | (refine inb_of hA fun _ => ?_; subst hA; simp only [real, Bool.and_eq_true, Bool.not_eq_true', Bool.not_eq_false', decide_eq_true_eq, Int.ofNat_eq_natCast, IntKind.wrap_i64] at *; omega)
    | (refine cut_of hA ?_; subst hA; simp only [real, decide_eq_true_eq, Int.ofNat_eq_natCast] at *; omega)
    | (refine call_ex2 hA hM (c_ContainsRow1 i (Nat.le_trans hi hn) g 100 (.p (eRow (g (A.nat (Int.ofNat i))))) _ (fun q => c_OpOk1 (g (A.nat (Int.ofNat i))) q)) (congrArg (fun d => [XT.c (.d d), XT.c (.d (.fn 100 [.p (eRow (g (A.nat (Int.ofNat i))))]))]) (sl0 hA _ _ _)) (fun _ _ => ?_); cbv)
  · rename_i hlt b1 hb1 x hx hc
    subst hA
    refine congrArg (fun b => XA.one (.c (.d (eB b)))) ?_
    simp only [real, bifA, bifB, bifC, bifD, beqB, decide_eq_true_eq, decide_eq_false_iff_not, beqI, bneI, beqIF, bneIF, ne_eq, Bool.and_eq_true, Bool.or_eq_true, Bool.not_eq_true', Bool.not_eq_false', Bool.and_eq_false_iff, Bool.or_eq_false_iff, Bool.false_eq_true, and_false, false_and, or_false, false_or, and_true, true_and, not_true_eq_false, not_false_eq_true, true_iff, false_iff, Int.ofNat_eq_natCast, Int.toNat_natCast] at hlt hb1 hx hc
    cases b with
    | false => rfl
    | true =>
      exfalso
      have h : OkAt j mark g i := (hb.1 rfl).2.2.2 i (show i < n by omega)
      rcases hc with hc | hc
      · have := hb1.2 h.1; rw [hc] at this; cases this
      · rw [down64 (by omega) (Nat.le_trans hi hn)] at hx
        have := hx.2 (h.2.1 (by omega)); omega
  · rename_i hlt b1 hb1 x hx hc b2 hb2 hc2
    subst hA
    refine congrArg (fun b => XA.one (.c (.d (eB b)))) ?_
    simp only [real, bifA, bifB, bifC, bifD, beqB, decide_eq_true_eq, decide_eq_false_iff_not, beqI, bneI, beqIF, bneIF, ne_eq, Bool.and_eq_true, Bool.or_eq_true, Bool.not_eq_true', Bool.not_eq_false', Bool.and_eq_false_iff, Bool.or_eq_false_iff, Bool.false_eq_true, and_false, false_and, or_false, false_or, and_true, true_and, not_true_eq_false, not_false_eq_true, true_iff, false_iff, Int.ofNat_eq_natCast, Int.toNat_natCast] at hlt hb2 hc2
    cases b with
    | false => rfl
    | true =>
      exfalso
      have h : OkAt j mark g i := (hb.1 rfl).2.2.2 i (show i < n by omega)
      obtain ⟨k, hk1, hk2⟩ := hb2.1 hc2.2
      exact h.2.2 hc2.1 k hk1 hk2
  · rename_i hlt b1 hb1 x hx hc b2 hb2 hc2
    have hlt' : i < n := by subst hA; simp only [real, decide_eq_true_eq, Int.ofNat_eq_natCast] at hlt; omega
    refine ⟨⟨i + 1, by omega, fun k hk' => ?_⟩, by simp only; omega, cov_of ?_ ?_ ?_⟩
    · by_cases e : k = i
      · subst e
        subst hA
        simp only [real, bifA, bifB, bifC, bifD, beqB, decide_eq_true_eq, decide_eq_false_iff_not, beqI, bneI, beqIF, bneIF, ne_eq, Bool.and_eq_true, Bool.or_eq_true, Bool.not_eq_true', Bool.not_eq_false', Bool.and_eq_false_iff, Bool.or_eq_false_iff, Bool.false_eq_true, and_false, false_and, or_false, false_or, and_true, true_and, not_true_eq_false, not_false_eq_true, true_iff, false_iff, Int.ofNat_eq_natCast, Int.toNat_natCast] at hlt hb1 hx hc hb2 hc2
        refine ⟨hb1.1 (by cases b1 <;> simp_all), fun hp => ?_, fun h3 q hq hqq => ?_⟩
        · rw [down64 hp (Nat.le_trans hi hn)] at hx
          refine hx.1 ?_
          rcases hc.2 with h | h <;> omega
        · rcases hc2 with h | h
          · exact h h3
          · have := hb2.2 ⟨q, hq, hqq⟩; rw [h] at this; cases this
      · exact hk k (by omega)
    · cbv
      subst hA
      exact ⟨congrArg (fun x => DV.v (.int .i64 x)) (up64 hlt' hn), trivial⟩
    · cbv; try (repeat' first | apply And.intro | exact True.intro | rfl)
    · cbv
  · rename_i hge
    refine congrArg (fun b => XA.one (.c (.d (eB b)))) ?_
    refine (hb.2 ⟨hpre.1, hpre.2.1, hpre.2.2, fun k hk' => ?_⟩).symm
    have hk' : k < n := hk'
    exact hk k (by subst hA; simp only [real, decide_eq_false_iff_not, Int.ofNat_eq_natCast] at hge; omega)
end Go.Rk
/- Operators, as the reference has them. -/
namespace Go.Rk
set_option linter.unusedSimpArgs false
set_option linter.unusedVariables false
open Go.Proofs
def stOks (j : JobT) (mark : Int) (n : Nat) (g : Nat → RowT) (i : Nat) : St := ⟨[(5, .c (.d (eI i))), (2, .c (.bp 128 1 0)), (3, .c (.bp 192 1 0))], [(128, 1, .box ((eJob j).map .d)), (192, 1, .box ([eI mark, .sl 13 n fun i => eRow (g i)].map .d))]⟩
def stOkt (j : JobT) (mark : Int) (n : Nat) (g : Nat → RowT) (i k : Nat) : St := ⟨[(7, .c (.d (eI k))), (5, .c (.d (eI i))), (6, .c (.bp 384 1 0)), (2, .c (.bp 128 1 0)), (3, .c (.bp 192 1 0))], [(384, 1, .box ((eRow (g i)).map .d)), (128, 1, .box ((eJob j).map .d)), (192, 1, .box ([eI mark, .sl 13 n fun i => eRow (g i)].map .d))]⟩
theorem c_l5A (k s e k2 s2 e2 : Int) : ∃ b, (b = true ↔ AheadP k ⟨s, e⟩ k2 ⟨s2, e2⟩) ∧ Meets Try.prog 73 [.c (.d (eI k)), .agg [.d (eI s), .d (eI e)], .c (.d (eI k2)), .agg [.d (eI s2), .d (eI e2)]] ⟨.one (.c (.d (eB b))), [none, none, none, none]⟩ := by
  obtain ⟨b, hb, hm⟩ := c_l5Ahead k s e k2 s2 e2
  exact ⟨b, by rw [hb, decide_eq_true_eq]; exact Iff.rfl, hm⟩
theorem c_sTouchP (s e s2 e2 : Int) : ∃ b, (b = true ↔ TouchP ⟨s, e⟩ ⟨s2, e2⟩) ∧ Meets Try.prog 74 [.agg [.d (eI s), .d (eI e)], .agg [.d (eI s2), .d (eI e2)]] ⟨.one (.c (.d (eB b))), [none, none]⟩ := by
  obtain ⟨b, hb, hm⟩ := c_sWinTouch s e s2 e2
  exact ⟨b, by rw [hb, decide_eq_true_eq]; exact Iff.rfl, hm⟩
open Classical in
set_option maxRecDepth 100000 in
theorem c_sOpOk (j : JobT) (s : OpStT) : ∃ b, (b = true ↔ OpOkP j s) ∧ Meets Try.prog 26 [xd (eJob j), xd (eOpSt s)] ⟨.one (.c (.d (eB b))), [none, none]⟩ := by
  obtain ⟨b, hb⟩ : ∃ b : Bool, (b = true ↔ OpOkP j s) := ⟨decide (OpOkP j s), by rw [decide_eq_true_eq]⟩
  refine ⟨b, hb, ?_⟩
  obtain ⟨mark, n, g, hn⟩ := s
  show Meets Try.prog 26 [xd (eJob j), xd [eI mark, .sl 13 n fun i => eRow (g i)]] _
  refine meets_of (H := []) (EX := EXA) ttok mixed Try.func26 rfl (by kernel_rfl) (by decide) ?_
  generalize hA : real = A
  generalize hM : MeetsB Try.prog = M
  cbv
  repeat' first
    | apply And.intro
    | exact True.intro
    | with_reducible rfl
    | exact same_of hA rfl
    | refine br_of hA (fun _ => ?_) (fun _ => ?_)
    | exact imp_of hA id
    | (refine imp_of hA ?_; subst hA; simp only [real, Bool.true_and]; exact id)
    | (refine ind_of hA ?_; decide +kernel)
    | (refine call_ex hA hM (c_sJobOk _ _ _ _ _ _ _ _ _ _) (fun _ _ => ?_); cbv)
    | (refine call_ex hA hM (c_l1In _ _ _) (fun _ _ => ?_); cbv)
  · rename_i hbad
    subst hA; subst_vars
    refine congrArg (fun b => XA.one (.c (.d (eB b)))) ?_
    simp only [real, bifA, bifB, bifC, bifD, beqB, decide_eq_true_eq, decide_eq_false_iff_not, beqI, bneI, beqIF, bneIF, ne_eq, Bool.and_eq_true, Bool.or_eq_true, Bool.not_eq_true', Bool.not_eq_false', Bool.and_eq_false_iff, Bool.or_eq_false_iff, Bool.false_eq_true, and_false, false_and, or_false, false_or, and_true, true_and, not_true_eq_false, not_false_eq_true, true_iff, false_iff, Int.ofNat_eq_natCast, Int.toNat_natCast] at hbad
    cases b with
    | false => rfl
    | true =>
      exfalso
      obtain ⟨h1, h2, h3, _⟩ := hb.1 rfl
      unfold JobOkP at h1
      simp only at h2 h3
      omega
  rename_i hgood
  have hpre : JobOkP j ∧ (0 ≤ mark ∧ mark ≤ 1000) ∧ n ≤ 300 := by
    subst hA; subst_vars
    simp only [real, bifA, bifB, bifC, bifD, beqB, decide_eq_true_eq, decide_eq_false_iff_not, beqI, bneI, beqIF, bneIF, ne_eq, Bool.and_eq_true, Bool.or_eq_true, Bool.not_eq_true', Bool.not_eq_false', Bool.and_eq_false_iff, Bool.or_eq_false_iff, Bool.false_eq_true, and_false, false_and, or_false, false_or, and_true, true_and, not_true_eq_false, not_false_eq_true, true_iff, false_iff, Int.ofNat_eq_natCast, Int.toNat_natCast] at hgood
    unfold JobOkP
    omega
  clear hgood
  refine loop_of hA (α := { i : Nat // i ≤ n ∧ ∀ k, k < i → OkAt j mark g k }) (fun x => stOks j mark n g x.1) (fun x => n - x.1) ⟨0, Nat.zero_le _, fun j h => absurd h (Nat.not_lt_zero _)⟩ ?_ ?_
  · refine cov_of ?_ ?_ ?_
    · cbv; try (subst hA; repeat' first | apply And.intro | exact True.intro | rfl)
    · cbv; try (repeat' first | apply And.intro | exact True.intro | rfl)
    · cbv
  rintro ⟨i, hi, hk⟩
  cbv
  repeat' first
    | apply And.intro
    | exact True.intro
    | with_reducible rfl
    | exact same_of hA rfl
    | refine br_of hA (fun _ => ?_) (fun _ => ?_)
    | exact imp_of hA id
    | (refine imp_of hA ?_; subst hA; simp only [real, Bool.true_and]; exact id)
    | (refine ind_of hA ?_; decide +kernel)
    | (refine call_ex hA hM (c_l7Row _ _ _) (fun _ _ => ?_); cbv)
    | (refine call_ex hA hM (c_l5A _ _ _ _ _ _) (fun _ _ => ?_); cbv)
    | (refine inb_of hA fun _ => ?_; subst hA; simp only [real, Bool.and_eq_true, Bool.not_eq_true', Bool.not_eq_false', decide_eq_true_eq, Int.ofNat_eq_natCast, IntKind.wrap_i64] at *; omega)
  · rename_i hlt b1 hb1 b2 hb2 hc
    subst hA
    refine congrArg (fun b => XA.one (.c (.d (eB b)))) ?_
    simp only [real, bifA, bifB, bifC, bifD, beqB, decide_eq_true_eq, decide_eq_false_iff_not, beqI, bneI, beqIF, bneIF, ne_eq, Bool.and_eq_true, Bool.or_eq_true, Bool.not_eq_true', Bool.not_eq_false', Bool.and_eq_false_iff, Bool.or_eq_false_iff, Bool.false_eq_true, and_false, false_and, or_false, false_or, and_true, true_and, not_true_eq_false, not_false_eq_true, true_iff, false_iff, Int.ofNat_eq_natCast, Int.toNat_natCast] at hlt hb1 hb2 hc
    cases b with
    | false => rfl
    | true =>
      exfalso
      have h : OkAt j mark g i := (hb.1 rfl).2.2.2 i (show i < n by omega)
      rcases hc with hc | hc
      · have := hb1.2 h.1; rw [hc] at this; cases this
      · rw [down64 (by omega) (Nat.le_trans hi hn)] at hb2
        have h2 := hb2.2 (h.2.1 (by omega))
        rw [hc.2] at h2
        cases h2
  · rename_i hlt b1 hb1 b2 hb2 hc
    have hlt' : i < n := by subst hA; simp only [real, decide_eq_true_eq, Int.ofNat_eq_natCast] at hlt; omega
    have hrow : RowOkP j (g i) mark ∧ (0 < i → AheadP (g (i - 1)).key (g (i - 1)).win (g i).key (g i).win) := by
      subst hA
      simp only [real, bifA, bifB, bifC, bifD, beqB, decide_eq_true_eq, decide_eq_false_iff_not, beqI, bneI, beqIF, bneIF, ne_eq, Bool.and_eq_true, Bool.or_eq_true, Bool.not_eq_true', Bool.not_eq_false', Bool.and_eq_false_iff, Bool.or_eq_false_iff, Bool.false_eq_true, and_false, false_and, or_false, false_or, and_true, true_and, not_true_eq_false, not_false_eq_true, true_iff, false_iff, Int.ofNat_eq_natCast, Int.toNat_natCast] at hlt hb1 hb2 hc
      refine ⟨hb1.1 (by cases b1 <;> simp_all), fun hp => ?_⟩
      rw [down64 hp (Nat.le_trans hi hn)] at hb2
      rcases hc.2 with h | h
      · omega
      · exact hb2.1 h
    clear hb1 hb2 hc
    refine loop_of hA (α := { k : Nat // k ≤ i ∧ (0 < k → j.kind = 3) ∧ ∀ q, q < k → ¬ ((g q).key = (g i).key ∧ TouchP (g q).win (g i).win) }) (fun x => stOkt j mark n g i x.1) (fun x => i - x.1) ⟨0, Nat.zero_le _, fun h => absurd h (Nat.lt_irrefl _), fun j h => absurd h (Nat.not_lt_zero _)⟩ ?_ ?_
    · refine cov_of ?_ ?_ ?_
      · cbv; try (repeat' first | apply And.intro | exact True.intro | rfl)
      · cbv; try (subst hA; repeat' first | apply And.intro | exact True.intro | rfl)
      · cbv
    rintro ⟨k, hki, hk3, hkq⟩
    cbv
    repeat' first
      | apply And.intro
      | exact True.intro
      | with_reducible rfl
      | exact same_of hA rfl
      | refine br_of hA (fun _ => ?_) (fun _ => ?_)
      | exact imp_of hA id
      | (refine imp_of hA ?_; subst hA; simp only [real, Bool.true_and]; exact id)
      | (refine ind_of hA ?_; decide +kernel)
      | (refine call_ex hA hM (c_sTouchP _ _ _ _) (fun _ _ => ?_); cbv)
      | (refine inb_of hA fun _ => ?_; subst hA; simp only [real, Bool.and_eq_true, Bool.not_eq_true', Bool.not_eq_false', decide_eq_true_eq, Int.ofNat_eq_natCast, IntKind.wrap_i64] at *; omega)
    · rename_i hl b3 hb3 hc
      subst hA
      refine congrArg (fun b => XA.one (.c (.d (eB b)))) ?_
      simp only [real, bifA, bifB, bifC, bifD, beqB, decide_eq_true_eq, decide_eq_false_iff_not, beqI, bneI, beqIF, bneIF, ne_eq, Bool.and_eq_true, Bool.or_eq_true, Bool.not_eq_true', Bool.not_eq_false', Bool.and_eq_false_iff, Bool.or_eq_false_iff, Bool.false_eq_true, and_false, false_and, or_false, false_or, and_true, true_and, not_true_eq_false, not_false_eq_true, true_iff, false_iff, Int.ofNat_eq_natCast, Int.toNat_natCast] at hl hc
      cases b with
      | false => rfl
      | true =>
        exfalso
        have h : OkAt j mark g i := (hb.1 rfl).2.2.2 i hlt'
        exact h.2.2 hl.2 k (by omega) ⟨hc.1, hb3.1 hc.2⟩
    · rename_i hl b3 hb3 hc
      have hlk : k < i ∧ j.kind = 3 := by subst hA; simp only [real, bifA, bifB, bifC, bifD, beqB, decide_eq_true_eq, decide_eq_false_iff_not, beqI, bneI, beqIF, bneIF, ne_eq, Bool.and_eq_true, Bool.or_eq_true, Bool.not_eq_true', Bool.not_eq_false', Bool.and_eq_false_iff, Bool.or_eq_false_iff, Bool.false_eq_true, and_false, false_and, or_false, false_or, and_true, true_and, not_true_eq_false, not_false_eq_true, true_iff, false_iff, Int.ofNat_eq_natCast, Int.toNat_natCast] at hl; omega
      refine ⟨⟨k + 1, by omega, fun _ => hlk.2, fun q hq => ?_⟩, by simp only; omega, cov_of ?_ ?_ ?_⟩
      · by_cases e : q = k
        · subst e
          subst hA
          simp only [real, bifA, bifB, bifC, bifD, beqB, decide_eq_true_eq, decide_eq_false_iff_not, beqI, bneI, beqIF, bneIF, ne_eq, Bool.and_eq_true, Bool.or_eq_true, Bool.not_eq_true', Bool.not_eq_false', Bool.and_eq_false_iff, Bool.or_eq_false_iff, Bool.false_eq_true, and_false, false_and, or_false, false_or, and_true, true_and, not_true_eq_false, not_false_eq_true, true_iff, false_iff, Int.ofNat_eq_natCast, Int.toNat_natCast] at hc
          intro hh
          rcases hc with h | h
          · exact h hh.1
          · have := hb3.2 hh.2
            rw [h] at this
            cases this
        · exact hkq q (by omega)
      · cbv
        subst hA
        exact ⟨congrArg (fun x => DV.v (.int .i64 x)) (up64 hlk.1 (Nat.le_trans hi hn)), by repeat' first | apply And.intro | exact True.intro | rfl⟩
      · cbv; try (repeat' first | apply And.intro | exact True.intro | rfl)
      · cbv
    · rename_i hl
      refine ⟨⟨i + 1, by omega, fun q hq => ?_⟩, by simp only; omega, cov_of ?_ ?_ ?_⟩
      · by_cases e : q = i
        · subst e
          refine ⟨hrow.1, hrow.2, fun h3 => ?_⟩
          have : k = q := by
            subst hA
            simp only [real, bifA, bifB, bifC, bifD, beqB, decide_eq_true_eq, decide_eq_false_iff_not, beqI, bneI, beqIF, bneIF, ne_eq, Bool.and_eq_true, Bool.or_eq_true, Bool.not_eq_true', Bool.not_eq_false', Bool.and_eq_false_iff, Bool.or_eq_false_iff, Bool.false_eq_true, and_false, false_and, or_false, false_or, and_true, true_and, not_true_eq_false, not_false_eq_true, true_iff, false_iff, Int.ofNat_eq_natCast, Int.toNat_natCast] at hl
            have hl2 : ¬ (k : Int) < q ∨ ¬ j.kind = 3 := hl
            omega
          subst this
          exact hkq
        · exact hk q (by omega)
      · cbv
        subst hA
        exact ⟨congrArg (fun x => DV.v (.int .i64 x)) (up64 hlt' hn), by repeat' first | apply And.intro | exact True.intro | rfl⟩
      · cbv; try (repeat' first | apply And.intro | exact True.intro | rfl)
      · cbv
  · rename_i hge
    refine congrArg (fun b => XA.one (.c (.d (eB b)))) ?_
    refine (hb.2 ⟨hpre.1, hpre.2.1, hpre.2.2, fun k hk' => ?_⟩).symm
    have hk' : k < n := hk'
    exact hk k (by subst hA; simp only [real, decide_eq_false_iff_not, Int.ofNat_eq_natCast] at hge; omega)
end Go.Rk
/- Counts and least numbers. -/
namespace Go.Rk
set_option linter.unusedSimpArgs false
set_option linter.unusedVariables false
def InOkP (j : JobT) (c : TskInT) : Prop := (c.queue.n : Int) ≤ j.room ∧ (0 ≤ c.mark ∧ c.mark ≤ 1000) ∧ ∀ i, i < c.queue.n → ItmOkP (c.queue.g i)
def ToldP (m : Int) (ps : Sl PaneT) (ls : Sl LatT) : Prop := (ps.n : Int) ≤ m ∧ (ls.n : Int) ≤ m ∧ (∀ i, i < ps.n → PaneOkP (ps.g i)) ∧ ∀ i, i < ls.n → LatOkP (ls.g i)
def TxnOkP (x : TxnT) : Prop := (0 ≤ x.n ∧ x.n ≤ 900) ∧ ToldP 1500 x.panes x.lates
theorem nex {b : Bool} {n : Nat} {P : Nat → Prop} (h : b = true ↔ ∃ i, i < n ∧ ¬ P i) : b = false ↔ ∀ i, i < n → P i := by
  rw [← Bool.not_eq_true, h]
  exact ⟨fun h i hi => Classical.byContradiction fun hn => h ⟨i, hi, hn⟩, fun h ⟨i, hi, hn⟩ => hn (h i hi)⟩
def cntB (p : Nat → Bool) : Nat → Nat
  | 0 => 0
  | i + 1 => cntB p i + (if p i = true then 1 else 0)
theorem cntB_le (p : Nat → Bool) : ∀ i, cntB p i ≤ i
  | 0 => Nat.le_refl _
  | i + 1 => by have := cntB_le p i; unfold cntB; split <;> omega
/-- The least of these and 'z'. -/
def LowP (z : Int) (n : Nat) (g : Nat → Int) (x : Int) : Prop := x ≤ z ∧ (∀ i, i < n → x ≤ g i) ∧ (x = z ∨ ∃ i, i < n ∧ x = g i)
theorem lowP_one {z : Int} {n : Nat} {g : Nat → Int} {x y : Int} (h : LowP z n g x) (h' : LowP z n g y) : x = y := by
  have a : x ≤ y := by
    rcases h'.2.2 with e | ⟨i, hi, e⟩
    · rw [e]; exact h.1
    · rw [e]; exact h.2.1 i hi
  have b : y ≤ x := by
    rcases h.2.2 with e | ⟨i, hi, e⟩
    · rw [e]; exact h'.1
    · rw [e]; exact h'.2.1 i hi
  omega
theorem lowP_step {z : Int} {n : Nat} {g : Nat → Int} {x : Int} (h : LowP z n g x) : LowP z (n + 1) g (if g n < x then g n else x) := by
  obtain ⟨h1, h2, h3⟩ := h
  split
  · refine ⟨by omega, fun i hi => ?_, .inr ⟨n, by omega, rfl⟩⟩
    rcases Nat.lt_succ_iff_lt_or_eq.1 hi with hi | rfl
    · have := h2 i hi; omega
    · omega
  · refine ⟨h1, fun i hi => ?_, h3.imp id fun ⟨i, hi, e⟩ => ⟨i, by omega, e⟩⟩
    rcases Nat.lt_succ_iff_lt_or_eq.1 hi with hi | rfl
    · exact h2 i hi
    · omega
theorem lowP_ex (z : Int) (n : Nat) (g : Nat → Int) : ∃ x, LowP z n g x := by
  induction n with
  | zero => exact ⟨z, by omega, fun i hi => absurd hi (Nat.not_lt_zero i), .inl rfl⟩
  | succ n ih => obtain ⟨x, hx⟩ := ih; exact ⟨_, lowP_step hx⟩
/-- The least of these, of which there is one. -/
def MinP (n : Nat) (g : Nat → Int) (x : Int) : Prop := (∀ i, i < n → x ≤ g i) ∧ ∃ i, i < n ∧ x = g i
theorem minP_of {n : Nat} {g : Nat → Int} {x : Int} (h0 : 0 < n) (h : LowP (g 0) n g x) : MinP n g x := ⟨h.2.1, h.2.2.elim (fun e => ⟨0, h0, e⟩) id⟩
theorem minP_one {n : Nat} {g : Nat → Int} {x y : Int} (h : MinP n g x) (h' : MinP n g y) : x = y := by
  obtain ⟨i, hi, e⟩ := h.2
  obtain ⟨j, hj, e'⟩ := h'.2
  have := h.1 j hj
  have := h'.1 i hi
  omega
def TskOkP (j : JobT) (t : TskT) : Prop := OpOkP j t.op ∧ (t.ins.n : Int) = j.srcs ∧ (0 ≤ t.wall ∧ t.wall ≤ 900) ∧ TxnOkP t.pend ∧ t.pend.n = 0 ∧ (∀ i, i < t.ins.n → InOkP j (t.ins.g i)) ∧
  cntB (fun i => (t.ins.g i).held) t.ins.n < t.ins.n ∧ LowP 1000 t.ins.n (fun i => (t.ins.g i).mark) t.op.mark
theorem minP_ofLow {n : Nat} {g h : Nat → Int} {x z : Int} (hg : ∀ i, i < n → h i = g i) (hz : h n = z) (hx : LowP z n g x) : MinP (n + 1) h x := by
  refine ⟨fun i hi => ?_, ?_⟩
  · rcases Nat.lt_succ_iff_lt_or_eq.1 hi with hi | rfl
    · rw [hg i hi]; exact hx.2.1 i hi
    · rw [hz]; exact hx.1
  · rcases hx.2.2 with e | ⟨i, hi, e⟩
    · exact ⟨n, by omega, by rw [hz, e]⟩
    · exact ⟨i, by omega, by rw [hg i hi, e]⟩
theorem low_arg {A : Ar} (hA : real = A) (n : Nat) (f : Nat → Int) (c : Int) : DV.sl 1 (A.add n 1) (A.sub 0 (A.app n (fun i => [eI (f i)]) (A.sub 0 (A.app 1 (A.rep [eI c]) (A.rep [eI 0]))))) =
    .sl 1 (n + 1) fun i => [eI (if i < n then f i else if i = n then c else 0)] := by
  subst hA
  have e : (fun i => (if 0 + i < n then [eI (f (0 + i))] else (if 0 + (0 + i - n) < 1 then [eI c] else [eI 0]))) = fun i => [eI (if i < n then f i else if i = n then c else 0)] := by
    funext i
    simp only [Nat.zero_add]
    by_cases h : i < n
    · simp [h]
    · by_cases h2 : i = n
      · subst h2; simp
      · have : ¬ i - n < 1 := by omega
        simp [h, h2, this]
  exact congrArg (DV.sl 1 (n + 1)) e
theorem room_add {A : Ar} (hA : real = A) {n m b : Nat} (hn : n + m ≤ 1048577) (hb : b ≤ 100000) : A.room (A.add n m) b := by
  subst hA
  have h1 : (n + m) * b ≤ 1048577 * 100000 := Nat.mul_le_mul hn hb
  exact ⟨Nat.le_trans h1 (by omega), Nat.le_trans hn (by omega)⟩
/-- One row more at the end. -/
theorem push_at {A : Ar} (hA : real = A) (n : Nat) (row : Nat → List DV) (x : List DV) (z : Nat → List DV) (k : Nat) (hk : k < n + 1) : A.app n row (A.sub 0 (A.app 1 (A.rep x) z)) k = if k < n then row k else x := by
  subst hA
  show (if k < n then row k else (if 0 + (k - n) < 1 then x else z (0 + (k - n) - 1))) = _
  split
  · rfl
  · rw [if_pos (by omega)]
theorem room_n {A : Ar} (hA : real = A) {n b : Nat} (hn : n ≤ 1048577) (hb : b ≤ 100000) : A.room n b := by
  subst hA
  have h1 : n * b ≤ 1048577 * 100000 := Nat.mul_le_mul hn hb
  exact ⟨by omega, by omega⟩
end Go.Rk
/- Windows of a time, and pairs of records and windows, as lists. -/
namespace Go.Rk
set_option linter.unusedSimpArgs false
set_option linter.unusedVariables false
def zWin : WinT := ⟨0, 0⟩
def zLat : LatT := ⟨⟨0, 0, 0, 0, 0⟩, ⟨0, 0⟩⟩
def slideF (size step t : Int) : Nat → Int → List WinT
  | 0, _ => []
  | k + 1, f => if f ≤ t then (if t < f + size then [⟨f, f + size⟩] else []) ++ slideF size step t k (f + step) else []
theorem slideF_len (size step t : Int) : ∀ k f, (slideF size step t k f).length ≤ k
  | 0, _ => Nat.le_refl _
  | k + 1, f => by
    have := slideF_len size step t k (f + step)
    unfold slideF
    split
    · rw [List.length_append]
      split <;> simp <;> omega
    · simp
theorem slideF_st {size step t : Int} (hs : 1 ≤ step) : ∀ k f, (t + 1 - f).toNat ≤ k → slideF size step t (k + 1) f = slideF size step t k f
  | 0, f, h => by
    unfold slideF
    rw [if_neg (by omega)]
  | k + 1, f, h => by
    have ih := slideF_st (size := size) (t := t) hs k (f + step)
    unfold slideF
    by_cases hf : f ≤ t
    · rw [if_pos hf, if_pos hf, ih (by omega)]
    · rw [if_neg hf, if_neg hf]
/-- One step of it, with room to spare. -/
theorem slideF_go {size step t f : Int} (hs : 1 ≤ step) (h0 : 0 ≤ f) (h1 : t ≤ 60) (hf : f ≤ t) : slideF size step t 100 f = (if t < f + size then [⟨f, f + size⟩] else []) ++ slideF size step t 100 (f + step) := by
  have e : slideF size step t 100 (f + step) = slideF size step t 99 (f + step) := slideF_st hs 99 (f + step) (by omega)
  rw [e]
  show slideF size step t (99 + 1) f = _
  unfold slideF
  rw [if_pos hf]
  rfl
theorem slideF_end {size step t f : Int} (hf : ¬ f ≤ t) : slideF size step t 100 f = [] := by
  show slideF size step t (99 + 1) f = _
  unfold slideF
  rw [if_neg hf]
def winFrom (j : JobT) (t : Int) : Int := if j.kind = 1 then t - t.tmod j.size else if j.kind = 2 then 0 else t
def winStep (j : JobT) : Int := if j.kind = 1 then j.size else if j.kind = 2 then j.step else 1
def winsL (j : JobT) (t : Int) : List WinT := slideF j.size (winStep j) t 100 (winFrom j t)
theorem winsL_len (j : JobT) (t : Int) : (winsL j t).length ≤ 100 := slideF_len _ _ _ _ _
theorem winsL_fixed {j : JobT} {t : Int} (hk : j.kind = 1) (hs : 1 ≤ j.size) (h0 : 0 ≤ t) (h1 : t ≤ 60) : winsL j t = [⟨t - t.tmod j.size, t - t.tmod j.size + j.size⟩] := by
  have a := Int.tmod_nonneg j.size h0
  have b := Int.tmod_lt_of_pos t (show 0 < j.size by omega)
  have c : t.tmod j.size ≤ t := by
    rw [Int.tmod_eq_emod_of_nonneg h0]
    have := Int.emod_add_mul_ediv t j.size
    have := Int.mul_nonneg (show 0 ≤ j.size by omega) (Int.ediv_nonneg h0 (show 0 ≤ j.size by omega))
    omega
  unfold winsL winStep winFrom
  rw [if_pos hk, if_pos hk, slideF_go hs (by omega) h1 (by omega), if_pos (by omega), slideF_end (by omega)]
  rfl
theorem winsL_sess {j : JobT} {t : Int} (hk : j.kind = 3) (hs : 1 ≤ j.size) (h0 : 0 ≤ t) (h1 : t ≤ 60) : winsL j t = [⟨t, t + j.size⟩] := by
  unfold winsL winStep winFrom
  rw [if_neg (by omega), if_neg (by omega), if_neg (by omega), if_neg (by omega), slideF_go (by omega) h0 h1 (by omega), if_pos (by omega), slideF_end (by omega)]
  rfl
def RecP (x : ItmT) : Prop := x.kind = 1 ∧ ItmOkP x
/-- The list that so many rows tell. -/
def Tells {α : Type} (z : α) (e : α → List DV) (l : List α) (n : Nat) (row : Nat → List DV) : Prop := n = l.length ∧ ∀ k, k < n → row k = e (l.getD k z)
theorem tells_snoc {α : Type} {z : α} {e : α → List DV} {l : List α} {n : Nat} {row row' : Nat → List DV} {x : α} (h : Tells z e l n row)
    (h' : ∀ k, k < n + 1 → row' k = if k < n then row k else e x) : Tells z e (l ++ [x]) (n + 1) row' := by
  obtain ⟨rfl, h2⟩ := h
  refine ⟨by simp, fun k hk => ?_⟩
  rw [h' k hk]
  by_cases hl : k < l.length
  · rw [if_pos hl, h2 k hl, List.getD_eq_getElem?_getD, List.getD_eq_getElem?_getD, List.getElem?_append_left hl]
  · have : k = l.length := by omega
    subst this
    rw [if_neg hl]
    simp
theorem take_succ_getD {α : Type} {z : α} {l : List α} {k : Nat} (h : k < l.length) : l.take (k + 1) = l.take k ++ [l.getD k z] := by
  rw [List.take_add_one, List.getElem?_eq_getElem h, List.getD_eq_getElem?_getD, List.getElem?_eq_getElem h]
  rfl
end Go.Rk
/- Rows of a table, as lists. -/
namespace Go.Rk
set_option linter.unusedSimpArgs false
set_option linter.unusedVariables false
def IsRow (key : Int) (w : WinT) (r : TabT) : Prop := r.key = key ∧ (r.win.s = w.s ∧ r.win.e = w.e)
instance (key : Int) (w : WinT) (r : TabT) : Decidable (IsRow key w r) := inferInstanceAs (Decidable (_ ∧ _))
def Ahead (r q : TabT) : Prop := r.key < q.key ∨ (r.key = q.key ∧ (r.win.s < q.win.s ∨ (r.win.s = q.win.s ∧ r.win.e < q.win.e)))
instance (r q : TabT) : Decidable (Ahead r q) := inferInstanceAs (Decidable (_ ∨ _))
/-- A list, by its number and its members. -/
def Lst {α : Type} (z : α) (l : List α) (n : Nat) (g : Nat → α) : Prop := n = l.length ∧ ∀ k, k < n → g k = l.getD k z
theorem lst_self {α : Type} (z : α) (l : List α) : Lst z l l.length (fun k => l.getD k z) := ⟨rfl, fun _ _ => rfl⟩
theorem lst_tells {α : Type} {z : α} {l : List α} {n : Nat} {g : Nat → α} (e : α → List DV) (h : Lst z l n g) : Tells z e l n (fun i => e (g i)) := ⟨h.1, fun k hk => congrArg e (h.2 k hk)⟩
theorem lst_take {α : Type} {z : α} {l : List α} {n : Nat} {g : Nat → α} (h : Lst z l n g) {i : Nat} (hi : i < n) : l.take (i + 1) = l.take i ++ [g i] := by
  rw [h.2 i hi]
  exact take_succ_getD (by rw [← h.1]; exact hi)
theorem lst_all {α : Type} {z : α} {l : List α} {n : Nat} {g : Nat → α} (h : Lst z l n g) : l.take n = l := by rw [h.1, List.take_length]
theorem lst_mem {α : Type} {z : α} {l : List α} {n : Nat} {g : Nat → α} (h : Lst z l n g) {x : α} (hx : x ∈ l) : ∃ k, k < n ∧ g k = x := by
  obtain ⟨k, hk⟩ := List.mem_iff_getElem?.1 hx
  have hl : k < l.length := (List.getElem?_eq_some_iff.1 hk).1
  refine ⟨k, by rw [h.1]; exact hl, ?_⟩
  rw [h.2 k (by rw [h.1]; exact hl), List.getD_eq_getElem?_getD, hk]
  rfl
/-- From a function that has so many members. -/
theorem lst_of {α : Type} (z : α) (n : Nat) (g : Nat → α) : Lst z ((List.range n).map g) n g := by
  refine ⟨by simp, fun k hk => ?_⟩
  rw [List.getD_eq_getElem?_getD, List.getElem?_map, List.getElem?_range hk]
  rfl
theorem room_add2 {A : Ar} (hA : real = A) {n m b : Nat} (hn : n + m ≤ 2000000) (hb : b ≤ 100000) : A.room (A.add n m) b := by
  subst hA
  have h1 : (n + m) * b ≤ 2000000 * 100000 := Nat.mul_le_mul hn hb
  exact ⟨Nat.le_trans h1 (by omega), Nat.le_trans hn (by omega)⟩
theorem lt_of {A : Ar} (hA : real = A) {i n : Nat} (h : A.cmp .lss (Int.ofNat i) (A.int n) = true) : i < n := by
  subst hA
  have h : decide ((i : Int) < (n : Int)) = true := h
  rw [decide_eq_true_eq] at h
  omega
theorem ge_of {A : Ar} (hA : real = A) {i n : Nat} (h : A.cmp .lss (Int.ofNat i) (A.int n) = false) : n ≤ i := by
  subst hA
  have h : decide ((i : Int) < (n : Int)) = false := h
  rw [decide_eq_false_iff_not] at h
  omega
theorem inb_lt {A : Ar} (hA : real = A) {g : Bool} {i n : Nat} (h : i < n) : A.inb g (Int.ofNat i) n := by
  refine inb_of hA fun _ => ?_
  have e : Int.ofNat i = (i : Int) := rfl
  rw [e]
  omega
def zAgg : AggT := ⟨0, 0, 0, 0⟩
end Go.Rk
/- What is known of values, by lists; tables that records lead to. -/
namespace Go.Rk
set_option linter.unusedSimpArgs false
set_option linter.unusedVariables false
def aggB (a b : AggT) : AggT := if a.n = 0 then b else if b.n = 0 then a else ⟨w64 (a.n + b.n), w64 (a.sum + b.sum), if b.least < a.least then b.least else a.least, if a.most < b.most then b.most else a.most⟩
def agg1 (v : Int) : AggT := ⟨1, v, v, v⟩
def aggAdd (a : AggT) (v : Int) : AggT := aggB a (agg1 v)
def sumI : List Int → Int
  | [] => 0
  | x :: l => x + sumI l
/-- What is known of just these values. -/
structure AggIs (a : AggT) (L : List Int) : Prop where
  n : a.n = (L.length : Int)
  sum : a.sum = sumI L
  z : L = [] → a = zAgg
  nz : L ≠ [] → a.least ∈ L ∧ a.most ∈ L ∧ ∀ x, x ∈ L → a.least ≤ x ∧ x ≤ a.most
abbrev Rise (l : List TabT) : Prop := l.Pairwise Ahead
end Go.Rk
/- Tables of pairs of records and windows: what they say, and that they hang on no order. -/
namespace Go.Rk
set_option linter.unusedSimpArgs false
set_option linter.unusedVariables false
def winSpan (a b : WinT) : WinT := ⟨if b.s < a.s then b.s else a.s, if a.e < b.e then b.e else a.e⟩
def valsW (k : Int) (w : WinT) (P : List LatT) : List Int := (P.filter fun l => decide (l.itm.key = k ∧ l.win.s = w.s ∧ l.win.e = w.e)).map (·.itm.v)
def valsS (k : Int) (w : WinT) (P : List LatT) : List Int := (P.filter fun l => decide (l.itm.key = k ∧ w.s ≤ l.win.s ∧ l.win.s < w.e)).map (·.itm.v)
/-! ## Windows that do not grow -/
structure InvW (P : List LatT) (T : List TabT) : Prop where
  rise : Rise T
  row : ∀ r, r ∈ T → valsW r.key r.win P ≠ [] ∧ AggIs r.agg (valsW r.key r.win P)
  has : ∀ l, l ∈ P → ∃ r, r ∈ T ∧ IsRow l.itm.key l.win r
/-! ## Sessions -/
def CovP (P : List LatT) (k p : Int) : Prop := ∃ l, l ∈ P ∧ l.itm.key = k ∧ l.win.s < p ∧ p < l.win.e
structure SessP (P : List LatT) (r : TabT) : Prop where
  lt : r.win.s < r.win.e
  fst : ∃ l, l ∈ P ∧ l.itm.key = r.key ∧ l.win.s = r.win.s
  lst : ∃ l, l ∈ P ∧ l.itm.key = r.key ∧ l.win.e = r.win.e
  mid : ∀ p, r.win.s < p → p < r.win.e → CovP P r.key p
  low : ¬ CovP P r.key r.win.s
  top : ¬ CovP P r.key r.win.e
  agg : AggIs r.agg (valsS r.key r.win P)
structure InvS (P : List LatT) (T : List TabT) : Prop where
  rise : Rise T
  row : ∀ r, r ∈ T → SessP P r
  has : ∀ l, l ∈ P → ∃ r, r ∈ T ∧ r.key = l.itm.key ∧ r.win.s ≤ l.win.s ∧ l.win.e ≤ r.win.e
end Go.Rk
/- Draws. -/
namespace Go.Rk
set_option linter.unusedSimpArgs false
set_option linter.unusedVariables false
theorem br_f {A : Ar} (hA : real = A) {t : Bool} {p q : Prop} (h : t = false) (hq : q) : A.br t p q := by subst hA; exact ⟨fun h2 => (by rw [h] at h2; cases h2), fun _ => hq⟩
abbrev eU (n : Int) : DV := .v (.int .u8 n)
def pickY (m : Nat) (b : Nat → Int) (p : Int) : Int := b (p.tmod m).toNat * 131 + b ((p * 7 + 3).tmod m).toNat * 1117 + p * 29 + p.tdiv m * 53
def pickX (y : Int) : Int := IntKind.i64.wrap (BitVec.ofInt 64 y ^^^ BitVec.ofInt 64 (y.tdiv 64)).toNat
def pickV (m : Nat) (b : Nat → Int) (p n : Int) : Int := if m = 0 then 0 else if p < m then (b p.toNat).tmod n else (pickX (pickY m b p)).tmod n
theorem xor_nn {a b : Int} (h0 : 0 ≤ a ∧ a < 4611686018427387904) (h1 : 0 ≤ b ∧ b < 4611686018427387904) : 0 ≤ ((BitVec.ofInt 64 a ^^^ BitVec.ofInt 64 b).toNat : Int) ∧ ((BitVec.ofInt 64 a ^^^ BitVec.ofInt 64 b).toNat : Int) < 4611686018427387904 := by
  have e : ∀ c : Int, 0 ≤ c ∧ c < 4611686018427387904 → (BitVec.ofInt 64 c).toNat < 2 ^ 62 := fun c hc => by
    rw [BitVec.toNat_ofInt]
    have h64 : ((2 ^ 64 : Nat) : Int) = 18446744073709551616 := by decide
    have h62 : (2 : Nat) ^ 62 = 4611686018427387904 := by decide
    rw [h64, h62]
    omega
  have h := Nat.xor_lt_two_pow (e a h0) (e b h1)
  rw [← BitVec.toNat_xor] at h
  have : (2 : Nat) ^ 62 = 4611686018427387904 := by decide
  exact ⟨by omega, by omega⟩
theorem tmod_in {a n : Int} (ha : 0 ≤ a) (hn : 1 ≤ n) : 0 ≤ a.tmod n ∧ a.tmod n < n := ⟨Int.tmod_nonneg n ha, Int.tmod_lt_of_pos a (by omega)⟩
theorem pickY_in {m : Nat} {b : Nat → Int} {p : Int} (hm : 1 ≤ m) (hb : ∀ i, 0 ≤ b i ∧ b i ≤ 255) (hp : 0 ≤ p ∧ p ≤ 1000000) : 0 ≤ pickY m b p ∧ pickY m b p ≤ 1000000000 := by
  unfold pickY
  have h1 := hb (p.tmod m).toNat
  have h2 := hb ((p * 7 + 3).tmod m).toNat
  have h3 : 0 ≤ p.tdiv m := Int.tdiv_nonneg hp.1 (by omega)
  have h4 : p.tdiv m ≤ p := by
    have := Int.tdiv_le_self (a := p) m hp.1
    exact this
  omega
theorem pickV_in {m : Nat} {b : Nat → Int} {p n : Int} (hb : ∀ i, 0 ≤ b i ∧ b i ≤ 255) (hp : 0 ≤ p ∧ p ≤ 1000000) (hn : 1 ≤ n) : 0 ≤ pickV m b p n ∧ pickV m b p n < n := by
  unfold pickV
  split
  · omega
  · split
    · exact tmod_in (hb _).1 hn
    · refine tmod_in ?_ hn
      have hy := pickY_in (m := m) (p := p) (by omega) hb hp
      have hd : 0 ≤ (pickY m b p).tdiv 64 := Int.tdiv_nonneg hy.1 (by decide)
      have hd2 : (pickY m b p).tdiv 64 ≤ pickY m b p := Int.tdiv_le_self 64 hy.1
      have hx := xor_nn (a := pickY m b p) (b := (pickY m b p).tdiv 64) ⟨hy.1, by omega⟩ ⟨hd, by omega⟩
      unfold pickX
      rw [IntWalk.i64_in _ (by omega)]
      exact hx.1
end Go.Rk
/- Tables of panes. -/
namespace Go.Rk
set_option linter.unusedSimpArgs false
set_option linter.unusedVariables false
theorem sub0r (f : Nat → List DV) : real.sub 0 f = f := sub0 rfl f
/-- A list, given its number and its members. -/
theorem lst_ex {α : Type} (z : α) (l : List α) : ∃ (n : Nat) (g : Nat → α), Lst z l n g := ⟨_, _, lst_self z l⟩
theorem lst_snoc {α : Type} {z : α} {l : List α} {n : Nat} {g : Nat → α} {x : α} (h : Lst z l n g) : Lst z (l ++ [x]) (n + 1) (fun q => if q < n then g q else x) := by
  obtain ⟨rfl, h2⟩ := h
  refine ⟨by simp, fun k hk => ?_⟩
  by_cases hl : k < l.length
  · simp only [if_pos hl]
    rw [h2 k hl, List.getD_eq_getElem?_getD, List.getD_eq_getElem?_getD, List.getElem?_append_left hl]
  · have : k = l.length := by omega
    subst this
    simp
/-- One row more at the end, told by its own shape. -/
theorem push_if {A : Ar} {α : Type} (e : α → List DV) (hA : real = A) (n : Nat) (G : Nat → α) (x : α) (z : Nat → List DV) (k : Nat) (hk : k < n + 1) : A.app n (fun i => e (G i)) (A.sub 0 (A.app 1 (A.rep (e x)) z)) k = e (if k < n then G k else x) := by
  subst hA
  show (if k < n then e (G k) else (if 0 + (k - n) < 1 then e x else z (0 + (k - n) - 1))) = _
  split
  · rfl
  · rw [if_pos (by omega)]
theorem lt2_of {A : Ar} (hA : real = A) {i n : Nat} (h : A.cmp .lss (Int.ofNat i) (Int.ofNat n) = true) : i < n := by
  subst hA
  have h : decide ((i : Int) < (n : Int)) = true := h
  rw [decide_eq_true_eq] at h
  omega
theorem ge2_of {A : Ar} (hA : real = A) {i n : Nat} (h : A.cmp .lss (Int.ofNat i) (Int.ofNat n) = false) : n ≤ i := by
  subst hA
  have h : decide ((i : Int) < (n : Int)) = false := h
  rw [decide_eq_false_iff_not] at h
  omega
theorem eq_of {A : Ar} (hA : real = A) {a b : Int} (h : A.cmp .eql a b = true) : a = b := by subst hA; exact of_decide_eq_true h
theorem ne_of {A : Ar} (hA : real = A) {a b : Int} (h : A.cmp .eql a b = false) : ¬ a = b := by subst hA; exact of_decide_eq_false h
end Go.Rk
/- What a mark does to rows, in plain words. -/
namespace Go.Rk
set_option linter.unusedSimpArgs false
set_option linter.unusedVariables false
def dueB (m : Int) (r : RowT) : Bool := !r.timely && decide (r.win.e ≤ m)
def toldR (r : RowT) : RowT := { r with told := w64 (r.told + 1), timely := true, fresh := zAgg }
def paneP (piece : Bool) (r : RowT) (kind : Int) : PaneT := ⟨r.key, r.win, r.told, kind, if piece = true then r.fresh else r.all⟩
def markR (m : Int) (r : RowT) : RowT := if dueB m r = true then toldR r else r
def overB (late m : Int) (r : RowT) : Bool := decide (m ≥ w64 (r.win.e + late))
def tellL (piece : Bool) (m : Int) (l : List RowT) : List PaneT := (l.filter (dueB m)).map fun r => paneP piece r 1
def zRow : RowT := ⟨0, ⟨0, 0⟩, zAgg, zAgg, 0, false⟩
/-- Of the first 'j', those that are not deleted. -/
def keepN (g : Nat → RowT) (d : RowT → Bool) (j : Nat) : List RowT := ((List.range j).map g).filter fun r => !d r
theorem keepN_succ (g : Nat → RowT) (d : RowT → Bool) (j : Nat) : keepN g d (j + 1) = keepN g d j ++ if d (g j) = true then [] else [g j] := by
  unfold keepN
  rw [List.range_succ, List.map_append, List.filter_append]
  congr 1
  cases hd : d (g j) <;> simp [hd]
theorem keepN_len (g : Nat → RowT) (d : RowT → Bool) (j : Nat) : (keepN g d j).length ≤ j := by
  unfold keepN
  refine Nat.le_trans (List.length_filter_le _ _) ?_
  simp
theorem lst_push {α : Type} {z : α} {l : List α} {i : Nat} {R R' : Nat → α} {x : α} (h : Lst z l i R) (h' : ∀ q, q < i + 1 → R' q = if q = i then x else R q) : Lst z (l ++ [x]) (i + 1) R' := by
  refine ⟨by rw [h.1]; simp, fun k hk => ?_⟩
  rw [h' k hk]
  by_cases e : k = i
  · rw [if_pos e, e, h.1]
    simp [List.getD_eq_getElem?_getD]
  · rw [if_neg e, h.2 k (by omega)]
    have : k < l.length := by rw [← h.1]; omega
    simp [List.getD_eq_getElem?_getD, List.getElem?_append_left this]
theorem flat_row {A : Ar} (hA : real = A) (n : Nat) (G : Nat → RowT) : A.flat n fun i => eRow (G i) := by
  subst hA
  intro i hi x hx
  unfold eRow at hx
  simp only [List.mem_cons, List.not_mem_nil, or_false] at hx
  rcases hx with rfl | rfl | rfl | rfl | rfl | rfl | rfl | rfl | rfl | rfl | rfl | rfl | rfl <;> exact ⟨_, rfl⟩
theorem flat_pane {A : Ar} (hA : real = A) (n : Nat) (G : Nat → PaneT) : A.flat n fun i => ePane (G i) := by
  subst hA
  intro i hi x hx
  unfold ePane at hx
  simp only [List.mem_cons, List.not_mem_nil, or_false] at hx
  rcases hx with rfl | rfl | rfl | rfl | rfl | rfl | rfl | rfl | rfl <;> exact ⟨_, rfl⟩
/-- What is told of the first 'i' rows. -/
def tellN (piece : Bool) (m : Int) (g : Nat → RowT) (i : Nat) : List PaneT := tellL piece m ((List.range i).map g)
theorem tellN_succ (piece : Bool) (m : Int) (g : Nat → RowT) (i : Nat) : tellN piece m g (i + 1) = tellN piece m g i ++ if dueB m (g i) = true then [paneP piece (g i) 1] else [] := by
  unfold tellN tellL
  rw [List.range_succ, List.map_append, List.filter_append, List.map_append]
  congr 1
  cases hd : dueB m (g i) <;> simp [hd]
theorem tellN_len (piece : Bool) (m : Int) (g : Nat → RowT) (i : Nat) : (tellN piece m g i).length ≤ i := by
  unfold tellN tellL
  rw [List.length_map]
  refine Nat.le_trans (List.length_filter_le _ _) ?_
  simp
def zPan : PaneT := ⟨0, ⟨0, 0⟩, 0, 0, zAgg⟩
/-- What OpMark answers: the mark, the rows, and what is told. -/
noncomputable def opMarkL (j : JobT) (s : OpStT) (m : Int) : Int × List RowT × List PaneT :=
  open Classical in
  if ¬ (OpOkP j s ∧ (0 ≤ m ∧ m ≤ 1000)) then (0, [], [])
  else if m ≤ s.mark then (s.mark, (List.range s.rows.n).map s.rows.g, [])
  else (m, keepN (fun i => markR m (s.rows.g i)) (overB j.late m) s.rows.n, tellN j.piece m s.rows.g s.rows.n)
theorem push_ite {α : Type} (R : Nat → α) (x : α) {k q : Nat} (hq : q < k + 1) : (if q < k then R q else x) = if q = k then x else R q := by
  by_cases e : q = k
  · rw [if_pos e, if_neg (by omega)]
  · rw [if_neg e, if_pos (by omega)]
end Go.Rk
/- Marks of operators. -/
namespace Go.Rk
set_option linter.unusedSimpArgs false
set_option linter.unusedVariables false
open Go.Proofs
set_option maxRecDepth 100000
set_option maxHeartbeats 1000000
theorem c_CloneRow (n : Nat) (hn : n ≤ 1080000) (g : Nat → RowT) : Meets Try.prog 119 [.c (.d (.sl 13 n fun i => eRow (g i)))] ⟨.one (.c (.own 13 n fun i => eRow (g i))), [none]⟩ := by
  refine meets_slice (fun h0 ad cap => ?_) (fun h1 => ?_)
  · subst h0
    cases ad with
    | none =>
      refine meets_up (res := .one (.c (.d (.v nilS)))) (UpV.nil 13 fun i => eRow (g i)) ?_
      refine meets_of (H := []) (EX := EXA) ttok mixed Try.func119 rfl (by kernel_rfl) (by decide) ?_
      generalize hA : real = A
      generalize hM : MeetsB Try.prog = M
      cbv
      repeat' first
        | exact absurd (show true = false by assumption) (by decide)
        | exact absurd (show false = true by assumption) (by decide)
        | apply And.intro
        | exact True.intro
        | with_reducible rfl
        | exact same_of hA rfl
        | refine br_of hA (fun _ => ?_) (fun _ => ?_)
        | exact imp_of hA id
        | (refine imp_of hA ?_; subst hA; simp only [real, Bool.true_and]; exact id)
        | (refine ind_of hA ?_; decide +kernel)
    | some ad =>
      refine meets_up (res := .one (.c (.own 13 0 fun i => (real.rep ([0,0,0,0,0,0,0,0,0,0,0,0].map eI ++ [eB false]) i)))) (UpV.row fun i hi => absurd hi (Nat.not_lt_zero i)) ?_
      refine meets_of (H := []) (EX := EXA) ttok mixed Try.func119 rfl (by kernel_rfl) (by decide) ?_
      generalize hA : real = A
      generalize hM : MeetsB Try.prog = M
      cbv
      repeat' first
        | exact absurd (show true = false by assumption) (by decide)
        | exact absurd (show false = true by assumption) (by decide)
        | apply And.intro
        | exact True.intro
        | with_reducible rfl
        | exact same_of hA rfl
        | refine br_of hA (fun _ => ?_) (fun _ => ?_)
        | exact imp_of hA id
        | (refine imp_of hA ?_; subst hA; simp only [real, Bool.true_and]; exact id)
        | (refine ind_of hA ?_; decide +kernel)
        | exact room_z hA (by omega) (by decide)
      exact own_cp hA (by subst hA; rfl)
  · skip
    refine meets_of (H := []) (EX := EXA) ttok mixed Try.func119 rfl (by kernel_rfl) (by decide) ?_
    generalize hA : real = A
    generalize hM : MeetsB Try.prog = M
    cbv
    repeat' first
      | exact absurd (show true = false by assumption) (by decide)
      | exact absurd (show false = true by assumption) (by decide)
      | apply And.intro
      | exact True.intro
      | with_reducible rfl
      | exact same_of hA rfl
      | refine br_of hA (fun _ => ?_) (fun _ => ?_)
      | exact imp_of hA id
      | (refine imp_of hA ?_; subst hA; simp only [real, Bool.true_and]; exact id)
      | (refine ind_of hA ?_; decide +kernel)
      | exact room_z hA (by omega) (by decide)
      | (refine inb_of hA (fun _ => ⟨by omega, by omega⟩))
      | (rename_i hb; cases hb; done)
    exact own_cp hA rfl
theorem c_copied (mk : Int) (n : Nat) (hn : n ≤ 1080000) (g : Nat → RowT) : Meets Try.prog 64 [.agg [.d (eI mk), .d (.sl 13 n fun i => eRow (g i))]] ⟨.one (.agg [.d (eI mk), .own 13 n fun i => eRow (g i)]), [none]⟩ := by
  refine meets_of (H := []) (EX := EXA) ttok mixed Try.func64 rfl (by kernel_rfl) (by decide) ?_
  generalize hA : real = A
  generalize hM : MeetsB Try.prog = M
  cbv
  repeat' first
    | apply And.intro
    | exact True.intro
    | with_reducible rfl
    | exact same_of hA rfl
    | refine br_of hA (fun _ => ?_) (fun _ => ?_)
    | exact imp_of hA id
    | (refine imp_of hA ?_; subst hA; simp only [real, Bool.true_and]; exact id)
    | (refine ind_of hA ?_; decide +kernel)
    | exact room_z hA (by omega) (by decide)
    | (refine call_of2 hA hM _ (c_CloneRow n hn g) rfl ?_; cbv)
theorem c_sCopy (mk : Int) (n : Nat) (hn : n ≤ 1080000) (g : Nat → RowT) : Meets Try.prog 70 [.agg [.d (eI mk), .d (.sl 13 n fun i => eRow (g i))]] ⟨.one (.agg [.d (eI mk), .own 13 n fun i => eRow (g i)]), [none]⟩ := by
  refine meets_of (H := []) (EX := EXA) ttok mixed Try.func70 rfl (by kernel_rfl) (by decide) ?_
  generalize hA : real = A
  generalize hM : MeetsB Try.prog = M
  cbv
  repeat' first
    | apply And.intro
    | exact True.intro
    | with_reducible rfl
    | exact same_of hA rfl
    | refine br_of hA (fun _ => ?_) (fun _ => ?_)
    | exact imp_of hA id
    | (refine imp_of hA ?_; subst hA; simp only [real, Bool.true_and]; exact id)
    | (refine ind_of hA ?_; decide +kernel)
    | exact room_z hA (by omega) (by decide)
    | (refine call_of2 hA hM _ (c_CloneRow n hn g) rfl ?_; cbv)
  exact own_cp2 hA rfl
theorem c_l7Pane (j : JobT) (r : RowT) (kind : Int) (p : PaneT) (hp : p = paneP j.piece r kind) : Meets Try.prog 121 [xd (eJob j), xd (eRow r), .c (.d (eI kind))] ⟨.one (xd (ePane p)), [none, none, none]⟩ := by
  obtain ⟨j0, j1, j2, j3, j4, j5, j6, pc, j8, j9⟩ := j
  obtain ⟨k0, ⟨k1, k2⟩, ⟨k3, k4, k5, k6⟩, ⟨k7, k8, k9, k10⟩, k11, k12⟩ := r
  refine meets_of (H := []) (EX := EXA) ttok mixed Try.func121 rfl (by kernel_rfl) (by decide) ?_
  generalize hA : real = A
  generalize hM : MeetsB Try.prog = M
  cbv
  repeat' first
    | apply And.intro
    | exact True.intro
    | with_reducible rfl
    | exact same_of hA rfl
    | refine br_of hA (fun _ => ?_) (fun _ => ?_)
    | exact imp_of hA id
    | (refine imp_of hA ?_; subst hA; simp only [real, Bool.true_and]; exact id)
    | (refine ind_of hA ?_; decide +kernel)
  all_goals (subst hp; subst hA; rename_i hpc; dsimp only [paneP]; first | rw [if_pos hpc] | rw [if_neg (by rw [hpc]; simp)])
end Go.Rk
/- A mark is taken, whole. -/
namespace Go.Rk
set_option linter.unusedSimpArgs false
set_option linter.unusedVariables false
open Go.Proofs
set_option maxRecDepth 100000
set_option maxHeartbeats 1000000
theorem m_l7Mark0 (j : JobT) (mk m : Int) (n : Nat) (hn : n ≤ 1080000) (g : Nat → RowT) (hmk : m ≤ mk) (P : Nat → PaneT) : Meets Try.prog 69 [xd (eJob j), .agg [.d (eI mk), .own 13 n fun i => eRow (g i)], .c (.d (eI m))] ⟨.tup [.agg [.d (eI mk), .own 13 n fun i => eRow (g i)], .c (.own 9 0 fun i => ePane (P i))], [none, none, none]⟩ := by
  refine meets_up (res := .tup [.agg [.d (eI mk), .own 13 n fun i => eRow (g i)], .c (.own 9 0 fun i => real.rep [eI 0, eI 0, eI 0, eI 0, eI 0, eI 0, eI 0, eI 0, eI 0] i)]) ⟨⟨UpV.refl _, UpV.refl _, trivial⟩, UpV.row fun i hi => absurd hi (Nat.not_lt_zero i), trivial⟩ ?_
  have no2 : ∀ {A : Ar}, real = A → A.cmp .leq m mk = false → False := fun hA h => by subst hA; exact absurd hmk (of_decide_eq_false h)
  refine meets_of (H := []) (EX := EXA) ttok mixed Try.func69 rfl (by kernel_rfl) (by decide) ?_
  generalize hA : real = A
  generalize hM : MeetsB Try.prog = M
  cbv
  repeat' first
    | exact (no2 hA (by assumption)).elim
    | apply And.intro
    | exact True.intro
    | with_reducible rfl
    | exact same_of hA rfl
    | refine br_of hA (fun _ => ?_) (fun _ => ?_)
    | exact imp_of hA id
    | (refine imp_of hA ?_; subst hA; simp only [real, Bool.true_and]; exact id)
    | (refine ind_of hA ?_; decide +kernel)
  all_goals (subst hA; rfl)
def st_sm (j : JobT) (m : Int) (n : Nat) (g : Nat → RowT) (i k : Nat) (R : Nat → RowT) (c : Nat) (P : Nat → PaneT) : St := ⟨[(10, .c (.d (eI i))), (9, .c (.own 1344 0 k 1)), (8, .c (.own 768 0 c 1)), (6, .c (.bp 384 1 0)), (4, .c (.bp 256 1 0)), (3, .c (.bp 192 1 0)), (2, .c (.d (eI m)))],
  [(768, 1, .arr 9 c fun i => ePane (P i)), (1344, 1, .arr 13 k fun i => eRow (R i)), (11, 1, .arr 13 n fun i => eRow (g i)), (384, 1, .box [.d (eI 0), .d (.v nilS)]), (256, 1, .box [.d (eI m), .own 11 0 n 1]), (192, 1, .box [.d (eI j.srcs), .d (eI j.tsks), .d (eI j.kind), .d (eI j.size), .d (eI j.step), .d (eI j.late), .d (eI j.tell), .d (eB j.piece), .d (eI j.least), .d (eI j.room)])]⟩
theorem m_l7Mark1 (j : JobT) (mk m : Int) (n : Nat) (hn : n ≤ 1080000) (g : Nat → RowT) (hmk : mk < m) (k : Nat) (G : Nat → RowT) (hG : Lst zRow (keepN (fun i => markR m (g i)) (overB j.late m) n) k G)
    (c : Nat) (P : Nat → PaneT) (hP : Lst zPan (tellN j.piece m g n) c P) : Meets Try.prog 69 [xd (eJob j), .agg [.d (eI mk), .own 13 n fun i => eRow (g i)], .c (.d (eI m))] ⟨.tup [.agg [.d (eI m), .own 13 k fun i => eRow (G i)], .c (.own 9 c fun i => ePane (P i))], [none, none, none]⟩ := by
  have hnL : n ≤ maxLen := Nat.le_trans hn (by decide)
  have no2 : ∀ {A : Ar}, real = A → A.cmp .leq m mk = true → False := fun hA h => by subst hA; exact absurd (of_decide_eq_true h) (by omega)
  refine meets_of (H := [15, 17]) (EX := EXA) ttok mixed Try.func69 rfl (by kernel_rfl) (by decide) ?_
  generalize hA : real = A
  generalize hM : MeetsB Try.prog = M
  cbv
  repeat' first
    | exact (no2 hA (by assumption)).elim
    | apply And.intro
    | exact True.intro
    | with_reducible rfl
    | exact same_of hA rfl
    | refine br_of hA (fun _ => ?_) (fun _ => ?_)
    | exact imp_of hA id
    | (refine imp_of hA ?_; subst hA; simp only [real, Bool.true_and]; exact id)
    | (refine ind_of hA ?_; decide +kernel)
  refine loop_of hA (α := { y : Nat × Nat × (Nat → RowT) × Nat × (Nat → PaneT) // y.1 ≤ n ∧ Lst zRow (keepN (fun i => markR m (g i)) (overB j.late m) y.1) y.2.1 y.2.2.1 ∧ Lst zPan (tellN j.piece m g y.1) y.2.2.2.1 y.2.2.2.2 }) (fun y => st_sm j m n g y.1.1 y.1.2.1 y.1.2.2.1 y.1.2.2.2.1 y.1.2.2.2.2) (fun y => n - y.1.1) ⟨(0, 0, fun _ => zRow, 0, fun _ => zPan), Nat.zero_le _, ⟨rfl, fun k h => absurd h (Nat.not_lt_zero k)⟩, ⟨rfl, fun k h => absurd h (Nat.not_lt_zero k)⟩⟩ ?_ ?_
  · refine cov_of ?_ ?_ ?_
    · cbv; try (subst hA; repeat' first | apply And.intro | exact True.intro | rfl | fail)
    · cbv; try (subst hA; repeat' first | apply And.intro | exact True.intro | rfl | (intro _ _; rfl) | (intro k hk; exact absurd hk (Nat.not_lt_zero k)) | fail)
    · cbv; try (subst hA; repeat' first | apply And.intro | exact True.intro | rfl | exact .inr trivial | exact .inl trivial)
  rintro ⟨⟨i, k1, R, c1, P1⟩, hi, hK, hL⟩
  have hi : i ≤ n := hi
  have hK : Lst zRow (keepN (fun i => markR m (g i)) (overB j.late m) i) k1 R := hK
  have hL : Lst zPan (tellN j.piece m g i) c1 P1 := hL
  have hk1 : k1 ≤ i := by rw [hK.1]; exact keepN_len _ _ _
  have hc1 : c1 ≤ i := by rw [hL.1]; exact tellN_len _ _ _ _
  cbv
  repeat' first
    | apply And.intro
    | exact True.intro
    | with_reducible rfl
    | exact same_of hA rfl
    | refine br_of hA (fun _ => ?_) (fun _ => ?_)
    | exact imp_of hA id
    | (refine imp_of hA ?_; subst hA; simp only [real, Bool.true_and]; exact id)
    | (refine ind_of hA ?_; decide +kernel)
    | (refine inb_lt hA ?_; first | exact lt2_of hA (by assumption) | exact lt_of hA (by assumption))
  · rename_i hlt hdue
    have hlt' : i < n := lt_of hA hlt
    have eq0 : A.add 0 (A.nat (Int.ofNat i)) = i := by subst hA; exact Nat.zero_add i
    have hh : ∀ q, q = i → A.bite (A.bnot (g q).timely) (A.cmp .geq m (g q).win.e) false = dueB m (g i) := by
      rintro q rfl
      subst hA
      unfold dueB
      show (bif !(g q).timely then decide (m ≥ (g q).win.e) else false) = _
      cases (g q).timely <;> rfl
    obtain ⟨r, hr⟩ : ∃ r, r = markR m (g i) := ⟨_, rfl⟩
    have hd : dueB m (g i) = true := (hh _ eq0).symm.trans hdue
    have hrd : r = toldR (g i) := by rw [hr]; unfold markR; rw [if_pos hd]
    have E : toldR (g (A.add 0 (A.nat (Int.ofNat i)))) = r := by rw [eq0, hrd]
    obtain ⟨pp, hpp⟩ : ∃ p, p = paneP j.piece (g i) 1 := ⟨_, rfl⟩
    have cP := c_l7Pane j (g (A.add 0 (A.nat (Int.ofNat i)))) 1 pp (by rw [eq0]; exact hpp)
    have hL2 : Lst zPan (tellN j.piece m g (i + 1)) (c1 + 1) (fun z => if z < c1 then P1 z else pp) := by
      rw [tellN_succ, if_pos hd, ← hpp]
      refine lst_push hL fun q hq => ?_
      by_cases e : q = c1
      · rw [if_pos e, if_neg (by omega)]
      · rw [if_neg e, if_pos (by omega)]
    refine call_of hA hM _ cP ?_
    cbv
    repeat' first
      | apply And.intro
      | exact True.intro
      | with_reducible rfl
      | exact same_of hA rfl
      | refine br_of hA (fun _ => ?_) (fun _ => ?_)
      | exact imp_of hA id
      | (refine imp_of hA ?_; subst hA; simp only [real, Bool.true_and]; exact id)
      | (refine ind_of hA ?_; decide +kernel)
      | exact room_add2 hA (by omega) (by decide)
    refine stop_of hA ⟨[(11, .c (.bp 704 1 0)), (10, .c (.d (eI i))), (9, .c (.own 1344 0 k1 1)), (8, .c (.own 768 0 (c1 + 1) 1)), (6, .c (.bp 384 1 0)), (4, .c (.bp 256 1 0)), (3, .c (.bp 192 1 0)), (2, .c (.d (eI m)))],
      [(704, 1, .box ((eRow r).map .d)), (768, 1, .arr 9 (c1 + 1) fun z => ePane (if z < c1 then P1 z else pp)), (1344, 1, .arr 13 k1 fun i => eRow (R i)), (11, 1, .arr 13 n fun i => eRow (g i)), (384, 1, .box [.d (eI 0), .d (.v nilS)]), (256, 1, .box [.d (eI m), .own 11 0 n 1]), (192, 1, .box [.d (eI j.srcs), .d (eI j.tsks), .d (eI j.kind), .d (eI j.size), .d (eI j.step), .d (eI j.late), .d (eI j.tell), .d (eB j.piece), .d (eI j.least), .d (eI j.room)])]⟩ (cov_of ?_ ?_ ?_) ?_
    · cbv; try (subst hA; repeat' first | apply And.intro | exact True.intro | rfl)
    · cbv; try (subst hA; repeat' first | apply And.intro | exact True.intro | rfl | (intro _ _; rfl) | (intro z hz; exact push_if (A := real) ePane rfl c1 P1 _ _ z hz) | exact (congrArg (fun x : RowT => DV.v (.int .i64 x.key)) E :) | exact (congrArg (fun x : RowT => DV.v (.int .i64 x.win.s)) E :) | exact (congrArg (fun x : RowT => DV.v (.int .i64 x.win.e)) E :) | exact (congrArg (fun x : RowT => DV.v (.int .i64 x.all.n)) E :) | exact (congrArg (fun x : RowT => DV.v (.int .i64 x.all.sum)) E :) | exact (congrArg (fun x : RowT => DV.v (.int .i64 x.all.least)) E :) | exact (congrArg (fun x : RowT => DV.v (.int .i64 x.all.most)) E :) | exact (congrArg (fun x : RowT => DV.v (.int .i64 x.fresh.n)) E :) | exact (congrArg (fun x : RowT => DV.v (.int .i64 x.fresh.sum)) E :) | exact (congrArg (fun x : RowT => DV.v (.int .i64 x.fresh.least)) E :) | exact (congrArg (fun x : RowT => DV.v (.int .i64 x.fresh.most)) E :) | exact (congrArg (fun x : RowT => DV.v (.int .i64 x.told)) E :) | exact (congrArg (fun x : RowT => DV.v (.bool x.timely)) E :) | exact (congrArg (fun x : RowT => CV.d (DV.v (.int .i64 x.key))) E :) | exact (congrArg (fun x : RowT => CV.d (DV.v (.int .i64 x.win.s))) E :) | exact (congrArg (fun x : RowT => CV.d (DV.v (.int .i64 x.win.e))) E :) | exact (congrArg (fun x : RowT => CV.d (DV.v (.int .i64 x.all.n))) E :) | exact (congrArg (fun x : RowT => CV.d (DV.v (.int .i64 x.all.sum))) E :) | exact (congrArg (fun x : RowT => CV.d (DV.v (.int .i64 x.all.least))) E :) | exact (congrArg (fun x : RowT => CV.d (DV.v (.int .i64 x.all.most))) E :) | exact (congrArg (fun x : RowT => CV.d (DV.v (.int .i64 x.fresh.n))) E :) | exact (congrArg (fun x : RowT => CV.d (DV.v (.int .i64 x.fresh.sum))) E :) | exact (congrArg (fun x : RowT => CV.d (DV.v (.int .i64 x.fresh.least))) E :) | exact (congrArg (fun x : RowT => CV.d (DV.v (.int .i64 x.fresh.most))) E :) | exact (congrArg (fun x : RowT => CV.d (DV.v (.int .i64 x.told))) E :) | exact (congrArg (fun x : RowT => CV.d (DV.v (.bool x.timely))) E :))
    · cbv; try (subst hA; repeat' first | apply And.intro | exact True.intro | rfl | exact .inr trivial | exact .inl trivial)
    · cbv
      repeat' first
        | apply And.intro
        | exact True.intro
        | with_reducible rfl
        | exact same_of hA rfl
        | refine br_of hA (fun _ => ?_) (fun _ => ?_)
        | exact imp_of hA id
        | (refine imp_of hA ?_; subst hA; simp only [real, Bool.true_and]; exact id)
        | (refine ind_of hA ?_; decide +kernel)
        | exact room_add2 hA (by omega) (by decide)
      · rename_i hov
        have hov2 : ¬ overB j.late m r = true := by
          subst hA
          unfold overB w64
          have := of_decide_eq_true hov
          have :  m < IntKind.i64.wrap (r.win.e + j.late) := this
          rw [decide_eq_true_eq]; omega
        rw [hr] at hov2
        refine ⟨⟨(i + 1, k1 + 1, fun z => if z < k1 then R z else r, (c1 + 1), fun z => (if z < c1 then P1 z else pp)), hlt', ?_, hL2⟩, by simp only; omega, cov_of ?_ ?_ ?_⟩
        · show Lst zRow (keepN (fun i => markR m (g i)) (overB j.late m) (i + 1)) _ _
          rw [keepN_succ, if_neg hov2, ← hr]; exact lst_push hK fun q hq => push_ite R r hq
        · cbv; subst hA; repeat' first | apply And.intro | exact True.intro | exact congrArg (fun x => DV.v (.int .i64 x)) (up64 hlt' hnL) | rfl
        · cbv; try (subst hA; repeat' first | apply And.intro | exact True.intro | rfl | (intro _ _; rfl) | (intro z hz; exact push_if (A := real) eRow rfl k1 R _ _ z hz))
        · cbv; try (subst hA; repeat' first | apply And.intro | exact True.intro | rfl | exact .inr trivial | exact .inl trivial)
      · rename_i hov
        have hov2 : overB j.late m r = true := by
          subst hA
          unfold overB w64
          have := of_decide_eq_false hov
          have : ¬ m < IntKind.i64.wrap (r.win.e + j.late) := this
          rw [decide_eq_true_eq]; omega
        rw [hr] at hov2
        refine ⟨⟨(i + 1, k1, R, (c1 + 1), fun z => (if z < c1 then P1 z else pp)), hlt', ?_, hL2⟩, by simp only; omega, cov_of ?_ ?_ ?_⟩
        · show Lst zRow (keepN (fun i => markR m (g i)) (overB j.late m) (i + 1)) _ _
          rw [keepN_succ, if_pos hov2, List.append_nil]; exact hK
        · cbv; subst hA; repeat' first | apply And.intro | exact True.intro | exact congrArg (fun x => DV.v (.int .i64 x)) (up64 hlt' hnL) | rfl
        · cbv; try (subst hA; repeat' first | apply And.intro | exact True.intro | rfl | (intro _ _; rfl) | (intro z hz; exact push_if (A := real) eRow rfl k1 R _ _ z hz))
        · cbv; try (subst hA; repeat' first | apply And.intro | exact True.intro | rfl | exact .inr trivial | exact .inl trivial)
  · rename_i hlt hdue
    have hlt' : i < n := lt_of hA hlt
    have eq0 : A.add 0 (A.nat (Int.ofNat i)) = i := by subst hA; exact Nat.zero_add i
    have hh : ∀ q, q = i → A.bite (A.bnot (g q).timely) (A.cmp .geq m (g q).win.e) false = dueB m (g i) := by
      rintro q rfl
      subst hA
      unfold dueB
      show (bif !(g q).timely then decide (m ≥ (g q).win.e) else false) = _
      cases (g q).timely <;> rfl
    obtain ⟨r, hr⟩ : ∃ r, r = markR m (g i) := ⟨_, rfl⟩
    have hd : ¬ dueB m (g i) = true := by
      intro h
      have := (hh _ eq0).symm.trans hdue
      rw [h] at this; cases this
    have hrd : r = g i := by rw [hr]; unfold markR; rw [if_neg hd]
    have E : g (A.add 0 (A.nat (Int.ofNat i))) = r := by rw [eq0, hrd]
    have hL2 : Lst zPan (tellN j.piece m g (i + 1)) c1 P1 := by
      rw [tellN_succ, if_neg hd, List.append_nil]; exact hL
    refine stop_of hA ⟨[(11, .c (.bp 704 1 0)), (10, .c (.d (eI i))), (9, .c (.own 1344 0 k1 1)), (8, .c (.own 768 0 c1 1)), (6, .c (.bp 384 1 0)), (4, .c (.bp 256 1 0)), (3, .c (.bp 192 1 0)), (2, .c (.d (eI m)))],
      [(704, 1, .box ((eRow r).map .d)), (768, 1, .arr 9 c1 fun z => ePane (P1 z)), (1344, 1, .arr 13 k1 fun i => eRow (R i)), (11, 1, .arr 13 n fun i => eRow (g i)), (384, 1, .box [.d (eI 0), .d (.v nilS)]), (256, 1, .box [.d (eI m), .own 11 0 n 1]), (192, 1, .box [.d (eI j.srcs), .d (eI j.tsks), .d (eI j.kind), .d (eI j.size), .d (eI j.step), .d (eI j.late), .d (eI j.tell), .d (eB j.piece), .d (eI j.least), .d (eI j.room)])]⟩ (cov_of ?_ ?_ ?_) ?_
    · cbv; try (subst hA; repeat' first | apply And.intro | exact True.intro | rfl)
    · cbv; try (subst hA; repeat' first | apply And.intro | exact True.intro | rfl | (intro _ _; rfl) | (intro z hz; exact push_if (A := real) ePane rfl c1 P1 _ _ z hz) | exact (congrArg (fun x : RowT => DV.v (.int .i64 x.key)) E :) | exact (congrArg (fun x : RowT => DV.v (.int .i64 x.win.s)) E :) | exact (congrArg (fun x : RowT => DV.v (.int .i64 x.win.e)) E :) | exact (congrArg (fun x : RowT => DV.v (.int .i64 x.all.n)) E :) | exact (congrArg (fun x : RowT => DV.v (.int .i64 x.all.sum)) E :) | exact (congrArg (fun x : RowT => DV.v (.int .i64 x.all.least)) E :) | exact (congrArg (fun x : RowT => DV.v (.int .i64 x.all.most)) E :) | exact (congrArg (fun x : RowT => DV.v (.int .i64 x.fresh.n)) E :) | exact (congrArg (fun x : RowT => DV.v (.int .i64 x.fresh.sum)) E :) | exact (congrArg (fun x : RowT => DV.v (.int .i64 x.fresh.least)) E :) | exact (congrArg (fun x : RowT => DV.v (.int .i64 x.fresh.most)) E :) | exact (congrArg (fun x : RowT => DV.v (.int .i64 x.told)) E :) | exact (congrArg (fun x : RowT => DV.v (.bool x.timely)) E :) | exact (congrArg (fun x : RowT => CV.d (DV.v (.int .i64 x.key))) E :) | exact (congrArg (fun x : RowT => CV.d (DV.v (.int .i64 x.win.s))) E :) | exact (congrArg (fun x : RowT => CV.d (DV.v (.int .i64 x.win.e))) E :) | exact (congrArg (fun x : RowT => CV.d (DV.v (.int .i64 x.all.n))) E :) | exact (congrArg (fun x : RowT => CV.d (DV.v (.int .i64 x.all.sum))) E :) | exact (congrArg (fun x : RowT => CV.d (DV.v (.int .i64 x.all.least))) E :) | exact (congrArg (fun x : RowT => CV.d (DV.v (.int .i64 x.all.most))) E :) | exact (congrArg (fun x : RowT => CV.d (DV.v (.int .i64 x.fresh.n))) E :) | exact (congrArg (fun x : RowT => CV.d (DV.v (.int .i64 x.fresh.sum))) E :) | exact (congrArg (fun x : RowT => CV.d (DV.v (.int .i64 x.fresh.least))) E :) | exact (congrArg (fun x : RowT => CV.d (DV.v (.int .i64 x.fresh.most))) E :) | exact (congrArg (fun x : RowT => CV.d (DV.v (.int .i64 x.told))) E :) | exact (congrArg (fun x : RowT => CV.d (DV.v (.bool x.timely))) E :))
    · cbv; try (subst hA; repeat' first | apply And.intro | exact True.intro | rfl | exact .inr trivial | exact .inl trivial)
    · cbv
      repeat' first
        | apply And.intro
        | exact True.intro
        | with_reducible rfl
        | exact same_of hA rfl
        | refine br_of hA (fun _ => ?_) (fun _ => ?_)
        | exact imp_of hA id
        | (refine imp_of hA ?_; subst hA; simp only [real, Bool.true_and]; exact id)
        | (refine ind_of hA ?_; decide +kernel)
        | exact room_add2 hA (by omega) (by decide)
      · rename_i hov
        have hov2 : ¬ overB j.late m r = true := by
          subst hA
          unfold overB w64
          have := of_decide_eq_true hov
          have :  m < IntKind.i64.wrap (r.win.e + j.late) := this
          rw [decide_eq_true_eq]; omega
        rw [hr] at hov2
        refine ⟨⟨(i + 1, k1 + 1, fun z => if z < k1 then R z else r, c1, fun z => (P1 z)), hlt', ?_, hL2⟩, by simp only; omega, cov_of ?_ ?_ ?_⟩
        · show Lst zRow (keepN (fun i => markR m (g i)) (overB j.late m) (i + 1)) _ _
          rw [keepN_succ, if_neg hov2, ← hr]; exact lst_push hK fun q hq => push_ite R r hq
        · cbv; subst hA; repeat' first | apply And.intro | exact True.intro | exact congrArg (fun x => DV.v (.int .i64 x)) (up64 hlt' hnL) | rfl
        · cbv; try (subst hA; repeat' first | apply And.intro | exact True.intro | rfl | (intro _ _; rfl) | (intro z hz; exact push_if (A := real) eRow rfl k1 R _ _ z hz))
        · cbv; try (subst hA; repeat' first | apply And.intro | exact True.intro | rfl | exact .inr trivial | exact .inl trivial)
      · rename_i hov
        have hov2 : overB j.late m r = true := by
          subst hA
          unfold overB w64
          have := of_decide_eq_false hov
          have : ¬ m < IntKind.i64.wrap (r.win.e + j.late) := this
          rw [decide_eq_true_eq]; omega
        rw [hr] at hov2
        refine ⟨⟨(i + 1, k1, R, c1, fun z => (P1 z)), hlt', ?_, hL2⟩, by simp only; omega, cov_of ?_ ?_ ?_⟩
        · show Lst zRow (keepN (fun i => markR m (g i)) (overB j.late m) (i + 1)) _ _
          rw [keepN_succ, if_pos hov2, List.append_nil]; exact hK
        · cbv; subst hA; repeat' first | apply And.intro | exact True.intro | exact congrArg (fun x => DV.v (.int .i64 x)) (up64 hlt' hnL) | rfl
        · cbv; try (subst hA; repeat' first | apply And.intro | exact True.intro | rfl | (intro _ _; rfl) | (intro z hz; exact push_if (A := real) eRow rfl k1 R _ _ z hz))
        · cbv; try (subst hA; repeat' first | apply And.intro | exact True.intro | rfl | exact .inr trivial | exact .inl trivial)
  · rename_i hge
    have hin : i = n := by have := ge_of hA hge; omega
    subst hin
    have hcc : c1 = c := hL.1.trans hP.1.symm
    have hkk : k1 = k := hK.1.trans hG.1.symm
    subst hcc hkk
    refine stop_of hA ⟨[(9, .c (.own 1344 0 k1 1)), (8, .c (.own 768 0 c1 1)), (6, .c (.bp 384 1 0)), (4, .c (.bp 256 1 0))], [(768, 1, .arr 9 c1 fun q => ePane (P q)), (1344, 1, .arr 13 k1 fun i => eRow (G i)), (384, 1, .box [.d (eI 0), .d (.v nilS)]), (11, 1, .arr 13 i fun i => eRow (g i)), (256, 1, .box [.d (eI m), .own 11 0 i 1])]⟩ (cov_of ?_ ?_ ?_) ?_
    · cbv; try (subst hA; repeat' first | apply And.intro | exact True.intro | rfl)
    · cbv
      refine ⟨fun q hq => congrArg ePane ((hL.2 q hq).trans (hP.2 q hq).symm), fun q hq => congrArg eRow ((hK.2 q hq).trans (hG.2 q hq).symm), ?_⟩
      try (subst hA; repeat' first | apply And.intro | exact True.intro | rfl | (intro _ _; rfl))
    · cbv; try (subst hA; repeat' first | apply And.intro | exact True.intro | rfl | exact .inr trivial | exact .inl trivial)
    · cbv
      repeat' first
        | apply And.intro
        | exact True.intro
        | with_reducible rfl
        | exact same_of hA rfl
        | refine br_of hA (fun _ => ?_) (fun _ => ?_)
        | exact imp_of hA id
        | (refine imp_of hA ?_; subst hA; simp only [real, Bool.true_and]; exact id)
        | (refine ind_of hA ?_; decide +kernel)
end Go.Rk
/- A mark is taken, whole. -/
namespace Go.Rk
set_option linter.unusedSimpArgs false
set_option linter.unusedVariables false
open Go.Proofs
set_option maxRecDepth 100000
set_option maxHeartbeats 1000000
def EXM : FuncId → List Nat × Bool := fun f => bif nbeq f 69 then ([1], false) else ([], false)
theorem c_sOpMark (j : JobT) (s : OpStT) (hn : s.rows.n ≤ 1080000) (m : Int) (x : Int × List RowT × List PaneT) (hx : x = opMarkL j s m) (k : Nat) (G : Nat → RowT) (hG : Lst zRow x.2.1 k G) (c : Nat) (P : Nat → PaneT) (hP : Lst zPan x.2.2 c P) :
    Meets Try.prog 23 [xd (eJob j), .agg [.d (eI s.mark), .d (.sl 13 s.rows.n fun i => eRow (s.rows.g i))], .c (.d (eI m))] ⟨.tup [.agg [.d (eI x.1), .own 13 k fun i => eRow (G i)], .c (.own 9 c fun i => ePane (P i))], [none, none, none]⟩ := by
  obtain ⟨mk, n, g, hnL⟩ := s
  have hn : n ≤ 1080000 := hn
  unfold opMarkL at hx
  by_cases hok : OpOkP j ⟨mk, ⟨n, g, hnL⟩⟩ ∧ (0 ≤ m ∧ m ≤ 1000)
  · rw [if_neg (fun h => h hok)] at hx
    by_cases hmk : m ≤ mk
    · rw [if_pos hmk] at hx
      subst hx
      have hall : Lst zRow ((List.range n).map g) n g := lst_of _ _ _
      have hkn : k = n := hG.1.trans hall.1.symm
      subst hkn
      have hc0 : c = 0 := hP.1
      subst hc0
      refine meets_up (res := .tup [.agg [.d (eI mk), .own 13 k fun i => eRow (g i)], .c (.own 9 0 fun i => ePane (P i))]) ⟨⟨UpV.refl _, UpV.row fun i hi => congrArg eRow ((hall.2 i hi).trans (hG.2 i hi).symm), trivial⟩, UpV.refl _, trivial⟩ ?_
      have cM := m_l7Mark0 j mk m k hn g hmk P
      obtain ⟨b1, hb1, cO⟩ := c_sOpOk j ⟨mk, ⟨k, g, hnL⟩⟩
      obtain ⟨b2, hb2, cT⟩ := c_l1In m 0 1000
      have hb1' : b1 = true := hb1.2 hok.1
      have hb2' : b2 = true := by rw [hb2, decide_eq_true_eq]; exact hok.2
      subst hb1'
      rw [hb2'] at cT
      have no1 : ∀ {A : Ar}, real = A → A.bite (A.bnot true) true (A.bnot true) = true → False := fun hA h => by subst hA; exact absurd h (by decide)
      have no2 : ∀ {A : Ar}, real = A → A.cmp .leq m mk = false → False := fun hA h => by subst hA; exact absurd hmk (of_decide_eq_false h)
      refine meets_of (H := []) (EX := EXM) ttok mixed Try.func23 rfl (by kernel_rfl) (by decide) ?_
      generalize hA : real = A
      generalize hM : MeetsB Try.prog = M
      cbv
      repeat' first
        | exact (no1 hA (by assumption)).elim
        | exact (no2 hA (by assumption)).elim
        | apply And.intro
        | exact True.intro
        | with_reducible rfl
        | exact same_of hA rfl
        | refine br_of hA (fun _ => ?_) (fun _ => ?_)
        | exact imp_of hA id
        | (refine imp_of hA ?_; subst hA; simp only [real, Bool.true_and]; exact id)
        | (refine ind_of hA ?_; decide +kernel)
        | (refine call_of hA hM _ cO ?_; cbv)
        | (refine call_of hA hM _ cT ?_; cbv)
        | (refine call_of2 hA hM _ (c_sCopy mk k hn g) (by subst hA; rfl) ?_; cbv)
        | (refine call_of2 hA hM _ cM (by (subst hA; first | rfl | (simp only [sub0r]; try rfl))) ?_; cbv)
        | exact flat_row hA _ _
      all_goals trace_state
    · rw [if_neg hmk] at hx
      subst hx
      have cM := m_l7Mark1 j mk m n hn g (by omega) k G hG c P hP
      obtain ⟨b1, hb1, cO⟩ := c_sOpOk j ⟨mk, ⟨n, g, hnL⟩⟩
      obtain ⟨b2, hb2, cT⟩ := c_l1In m 0 1000
      have hb1' : b1 = true := hb1.2 hok.1
      have hb2' : b2 = true := by rw [hb2, decide_eq_true_eq]; exact hok.2
      subst hb1'
      rw [hb2'] at cT
      have no1 : ∀ {A : Ar}, real = A → A.bite (A.bnot true) true (A.bnot true) = true → False := fun hA h => by subst hA; exact absurd h (by decide)
      refine meets_of (H := []) (EX := EXM) ttok mixed Try.func23 rfl (by kernel_rfl) (by decide) ?_
      generalize hA : real = A
      generalize hM : MeetsB Try.prog = M
      cbv
      repeat' first
        | exact (no1 hA (by assumption)).elim
        | apply And.intro
        | exact True.intro
        | with_reducible rfl
        | exact same_of hA rfl
        | refine br_of hA (fun _ => ?_) (fun _ => ?_)
        | exact imp_of hA id
        | (refine imp_of hA ?_; subst hA; simp only [real, Bool.true_and]; exact id)
        | (refine ind_of hA ?_; decide +kernel)
        | (refine call_of hA hM _ cO ?_; cbv)
        | (refine call_of hA hM _ cT ?_; cbv)
        | (refine call_of2 hA hM _ (c_sCopy mk n hn g) (by subst hA; rfl) ?_; cbv)
        | (refine call_of2 hA hM _ cM (by (subst hA; first | rfl | (simp only [sub0r]; try rfl))) ?_; cbv)
        | exact flat_row hA _ _
      all_goals trace_state
  · rw [if_pos hok] at hx
    subst hx
    have hk0 : k = 0 := hG.1
    have hc0 : c = 0 := hP.1
    subst hk0 hc0
    refine meets_up (res := .tup [.agg [.d (eI 0), .d (.v nilS)], .c (.own 9 0 fun i => real.rep [eI 0, eI 0, eI 0, eI 0, eI 0, eI 0, eI 0, eI 0, eI 0] i)]) ⟨⟨UpV.refl _, UpV.nil 13 fun i => eRow (G i), trivial⟩, UpV.row fun i hi => absurd hi (Nat.not_lt_zero i), trivial⟩ ?_
    obtain ⟨b1, hb1, cO⟩ := c_sOpOk j ⟨mk, ⟨n, g, hnL⟩⟩
    obtain ⟨b2, hb2, cT⟩ := c_l1In m 0 1000
    have hbb : ¬ (b1 = true ∧ b2 = true) := fun h => hok ⟨hb1.1 h.1, by have := h.2; rw [hb2, decide_eq_true_eq] at this; exact this⟩
    have no3 : ∀ {A : Ar}, real = A → A.bite (A.bnot b1) true (A.bnot b2) = false → False := fun hA h => by
      subst hA
      have h : (bif !b1 then true else !b2) = false := h
      cases b1 <;> cases b2 <;> simp at h hbb
    refine meets_of (H := []) (EX := EXM) ttok mixed Try.func23 rfl (by kernel_rfl) (by decide) ?_
    generalize hA : real = A
    generalize hM : MeetsB Try.prog = M
    cbv
    repeat' first
      | exact (no3 hA (by assumption)).elim
      | apply And.intro
      | exact True.intro
      | with_reducible rfl
      | exact same_of hA rfl
      | refine br_of hA (fun _ => ?_) (fun _ => ?_)
      | exact imp_of hA id
      | (refine imp_of hA ?_; subst hA; simp only [real, Bool.true_and]; exact id)
      | (refine ind_of hA ?_; decide +kernel)
      | (refine call_of hA hM _ cO ?_; cbv)
      | (refine call_of hA hM _ cT ?_; cbv)
    all_goals (subst hA; rfl)
end Go.Rk
/- What is known of values, put together. -/
namespace Go.Rk
set_option linter.unusedSimpArgs false
set_option linter.unusedVariables false
open Go.Proofs
set_option maxRecDepth 100000
set_option maxHeartbeats 1000000
theorem c_sAggBoth (a b c : AggT) (hc : c = aggB a b) : Meets Try.prog 159 [xd (eAgg a), xd (eAgg b)] ⟨.one (xd (eAgg c)), [none, none]⟩ := by
  obtain ⟨n, s, l, m⟩ := a; obtain ⟨n2, s2, l2, m2⟩ := b; obtain ⟨n3, s3, l3, m3⟩ := c
  refine meets_of (H := []) (EX := EXA) ttok mixed Try.func159 rfl (by kernel_rfl) (by decide) ?_
  generalize hA : real = A
  generalize hM : MeetsB Try.prog = M
  cbv
  repeat' first
    | apply And.intro
    | exact True.intro
    | with_reducible rfl
    | exact same_of hA rfl
    | refine br_of hA (fun _ => ?_) (fun _ => ?_)
    | exact imp_of hA id
    | (refine imp_of hA ?_; subst hA; simp only [real, Bool.true_and]; exact id)
    | (refine ind_of hA ?_; decide +kernel)
  all_goals
    subst hA
    simp only [aggB, w64] at hc
    simp only [real, bifA, bifB, bifC, bifD, beqI, beqIF, decide_eq_true_eq, decide_eq_false_iff_not, gt_iff_lt] at *
    simp_all
theorem c_sAggAdd (a : AggT) (v : Int) (c : AggT) (hc : c = aggAdd a v) : Meets Try.prog 157 [xd (eAgg a), .c (.d (eI v))] ⟨.one (xd (eAgg c)), [none, none]⟩ := by
  have h := c_sAggBoth a (agg1 v) c hc
  obtain ⟨n, s, l, m⟩ := a
  refine meets_of (H := []) (EX := EXA) ttok mixed Try.func157 rfl (by kernel_rfl) (by decide) ?_
  generalize hA : real = A
  generalize hM : MeetsB Try.prog = M
  cbv
  repeat' first
    | apply And.intro
    | exact True.intro
    | with_reducible rfl
    | exact same_of hA rfl
    | refine br_of hA (fun _ => ?_) (fun _ => ?_)
    | exact imp_of hA id
    | (refine imp_of hA ?_; subst hA; simp only [real, Bool.true_and]; exact id)
    | (refine ind_of hA ?_; decide +kernel)
    | (refine call_of hA hM _ h ?_; cbv)
theorem c_sWinSpan (a b c : WinT) (hc : c = winSpan a b) : Meets Try.prog 158 [xd (eWin a), xd (eWin b)] ⟨.one (xd (eWin c)), [none, none]⟩ := by
  obtain ⟨n, s⟩ := a; obtain ⟨n2, s2⟩ := b; obtain ⟨n3, s3⟩ := c
  refine meets_of (H := []) (EX := EXA) ttok mixed Try.func158 rfl (by kernel_rfl) (by decide) ?_
  generalize hA : real = A
  generalize hM : MeetsB Try.prog = M
  cbv
  repeat' first
    | apply And.intro
    | exact True.intro
    | with_reducible rfl
    | exact same_of hA rfl
    | refine br_of hA (fun _ => ?_) (fun _ => ?_)
    | exact imp_of hA id
    | (refine imp_of hA ?_; subst hA; simp only [real, Bool.true_and]; exact id)
    | (refine ind_of hA ?_; decide +kernel)
  all_goals
    subst hA
    simp only [winSpan] at hc
    simp only [real, bifA, bifB, bifC, bifD, beqI, beqIF, decide_eq_true_eq, decide_eq_false_iff_not, gt_iff_lt] at *
    simp_all
end Go.Rk
/- How much a mark leaves and tells. -/
namespace Go.Rk
set_option linter.unusedSimpArgs false
set_option linter.unusedVariables false
theorem opMarkL_len (j : JobT) (s : OpStT) (m : Int) : (opMarkL j s m).2.1.length ≤ s.rows.n ∧ (opMarkL j s m).2.2.length ≤ s.rows.n := by
  unfold opMarkL
  split
  · exact ⟨Nat.zero_le _, Nat.zero_le _⟩
  · split
    · exact ⟨by simp, Nat.zero_le _⟩
    · exact ⟨keepN_len _ _ _, tellN_len _ _ _ _⟩
end Go.Rk
/- What a record does to rows, in plain words. -/
namespace Go.Rk
set_option linter.unusedSimpArgs false
set_option linter.unusedVariables false
theorem win_ext {a b : WinT} (h1 : a.s = b.s) (h2 : a.e = b.e) : a = b := by cases a; cases b; simp_all
def IsR (k : Int) (w : WinT) (r : RowT) : Prop := r.key = k ∧ (r.win.s = w.s ∧ r.win.e = w.e)
instance (k : Int) (w : WinT) (r : RowT) : Decidable (IsR k w r) := inferInstanceAs (Decidable (_ ∧ _))
def RA (r q : RowT) : Prop := AheadP r.key r.win q.key q.win
instance (r q : RowT) : Decidable (RA r q) := inferInstanceAs (Decidable (_ ∨ (_ ∧ (_ ∨ (_ ∧ _)))))
def rOut (k : Int) (w : WinT) (l : List RowT) : List RowT := l.filter fun r => !decide (IsR k w r)
def rIns (r : RowT) : List RowT → List RowT
  | [] => [r]
  | q :: l => if RA r q then r :: q :: l else q :: rIns r l
def rPut (r : RowT) (l : List RowT) : List RowT := rIns r (rOut r.key r.win l)
def rFind (k : Int) (w : WinT) (l : List RowT) : Option RowT := l.find? fun r => decide (IsR k w r)
def kindT (r : RowT) : Int := if r.timely = true then 2 else 1
def tellS (j : JobT) (m : Int) (r : RowT) : RowT × List PaneT := if m < r.win.e then (r, []) else (toldR r, [paneP j.piece r (kindT r)])
def addR (r : RowT) (v : Int) : RowT := { r with all := aggAdd r.all v, fresh := aggAdd r.fresh v }
def nrow (k : Int) (w : WinT) : RowT := ⟨k, w, zAgg, zAgg, 0, false⟩
/-- A value put into a window that does not grow. -/
def intoL (j : JobT) (m : Int) (k v : Int) (w : WinT) (l : List RowT) : Option (List RowT × List PaneT) :=
  if w64 (w.e + j.late) ≤ m then none
  else some (rPut (tellS j m (addR ((rFind k w l).getD (nrow k w)) v)).1 l, (tellS j m (addR ((rFind k w l).getD (nrow k w)) v)).2)
def tchR (k : Int) (w : WinT) (r : RowT) : Bool := decide (r.key = k ∧ (r.win.s < w.e ∧ w.s < r.win.e))
def spanL (w : WinT) (l : List RowT) : WinT := l.foldl (fun s r => winSpan s r.win) w
def goneP (r : RowT) : PaneT := ⟨r.key, r.win, r.told, 3, zAgg⟩
def goneL (l : List RowT) : List PaneT := (l.filter fun r => decide (0 < r.told)).map goneP
def oneB (w : WinT) : List RowT → Bool
  | [o] => decide (o.win.s = w.s ∧ o.win.e = w.e)
  | _ => false
def oldL (k : Int) (w : WinT) (l : List RowT) : List RowT := l.filter (tchR k w)
def restL (k : Int) (w : WinT) (l : List RowT) : List RowT := l.filter fun r => !tchR k w r
/-- A value put into a session. -/
def sessL (j : JobT) (m : Int) (k v : Int) (w : WinT) (l : List RowT) : Option (List RowT × List PaneT) :=
  if w64 ((spanL w (oldL k w l)).e + j.late) ≤ m then none
  else if oneB (spanL w (oldL k w l)) (oldL k w l) = true then intoL j m k v (spanL w (oldL k w l)) l
  else some (rPut (tellS j m ⟨k, spanL w (oldL k w l), ((oldL k w l).map (·.all)).foldl aggB (agg1 v), ((oldL k w l).map (·.all)).foldl aggB (agg1 v), 0, false⟩).1 (restL k w l),
    goneL (oldL k w l) ++ (tellS j m ⟨k, spanL w (oldL k w l), ((oldL k w l).map (·.all)).foldl aggB (agg1 v), ((oldL k w l).map (·.all)).foldl aggB (agg1 v), 0, false⟩).2)
def stepT (j : JobT) (m : Int) (x : ItmT) (w : WinT) (l : List RowT) : Option (List RowT × List PaneT) := if j.kind = 3 then sessL j m x.key x.v w l else intoL j m x.key x.v w l
def takeS (j : JobT) (m : Int) (x : ItmT) (a : List RowT × List PaneT × List LatT) (w : WinT) : List RowT × List PaneT × List LatT :=
  match stepT j m x w a.1 with
  | some q => (q.1, a.2.1 ++ q.2, a.2.2)
  | none => (a.1, a.2.1, a.2.2 ++ [⟨x, w⟩])
def takeL (j : JobT) (m : Int) (x : ItmT) (ws : List WinT) (l : List RowT) : List RowT × List PaneT × List LatT := ws.foldl (takeS j m x) (l, [], [])
def rowsL (s : OpStT) : List RowT := (List.range s.rows.n).map s.rows.g
/-- What OpTake answers: the mark, the rows, what is told, and what came too late. -/
noncomputable def opTakeL (j : JobT) (s : OpStT) (x : ItmT) : Int × List RowT × List PaneT × List LatT :=
  open Classical in
  if OpOkP j s ∧ RecP x ∧ s.rows.n ≤ 280 then (s.mark, takeL j s.mark x (winsL j x.t) (rowsL s)) else (0, [], [], [])

theorem rIns_len (r : RowT) : ∀ l, (rIns r l).length = l.length + 1
  | [] => rfl
  | q :: l => by
    have := rIns_len r l
    show (if RA r q then r :: q :: l else q :: rIns r l).length = _
    split <;> simp <;> omega
theorem rPut_len (r : RowT) (l : List RowT) : (rPut r l).length ≤ l.length + 1 := by
  unfold rPut rOut
  rw [rIns_len]
  have := List.length_filter_le (fun q => !decide (IsR r.key r.win q)) l
  omega
theorem lst_at {α : Type} {z : α} {l : List α} {n : Nat} {g : Nat → α} (h : Lst z l n g) {i : Nat} (hi : i < n) : l[i]? = some (g i) := by
  have hl : i < l.length := by rw [← h.1]; exact hi
  rw [h.2 i hi, List.getD_eq_getElem?_getD, List.getElem?_eq_getElem hl]; rfl
theorem rfind_some {k : Int} {w : WinT} {i : Nat} {l : List RowT} {n : Nat} {R : Nat → RowT} (hL : Lst zRow l n R) (hi : i < n) (he : IsR k w (R i)) (hb : ∀ q, q < i → ¬ IsR k w (R q)) : rFind k w l = some (R i) := by
  unfold rFind
  rw [List.find?_eq_some_iff_getElem]
  refine ⟨by simp [he], i, by rw [← hL.1]; exact hi, ?_, fun q hq => ?_⟩
  · have := lst_at hL hi
    rw [List.getElem?_eq_getElem (by rw [← hL.1]; exact hi)] at this
    simpa using this
  · have := lst_at hL (show q < n by omega)
    rw [List.getElem?_eq_getElem (by rw [← hL.1]; omega)] at this
    simp at this
    simp [this, hb q hq]
theorem rfind_none {k : Int} {w : WinT} {l : List RowT} {n : Nat} {R : Nat → RowT} (hL : Lst zRow l n R) (hb : ∀ q, q < n → ¬ IsR k w (R q)) : rFind k w l = none := by
  unfold rFind
  rw [List.find?_eq_none]
  intro q hq
  obtain ⟨t, ht, rfl⟩ := lst_mem hL hq
  simp [hb t ht]
theorem isR_eq {k : Int} {w : WinT} {r : RowT} (h : IsR k w r) : r.key = k ∧ r.win = w := ⟨h.1, win_ext h.2.1 h.2.2⟩
theorem nrow_is (k : Int) (w : WinT) : IsR k w (nrow k w) := ⟨rfl, rfl, rfl⟩
theorem getD_is {k : Int} {w : WinT} {l : List RowT} : IsR k w ((rFind k w l).getD (nrow k w)) := by
  cases h : rFind k w l with
  | none => exact nrow_is k w
  | some r =>
    unfold rFind at h
    have := List.find?_some h
    simpa using this
theorem into_len {j : JobT} {m k v : Int} {w : WinT} {l : List RowT} {q : List RowT × List PaneT} (he : intoL j m k v w l = some q) : q.1.length ≤ l.length + 1 ∧ q.2.length ≤ 1 := by
  unfold intoL at he
  split at he
  · cases he
  · cases he
    refine ⟨rPut_len _ _, ?_⟩
    unfold tellS; split <;> simp
theorem gone_len (l : List RowT) : (goneL l).length ≤ l.length := by unfold goneL; rw [List.length_map]; exact List.length_filter_le _ _
theorem sess_len {j : JobT} {m k v : Int} {w : WinT} {l : List RowT} {q : List RowT × List PaneT} (he : sessL j m k v w l = some q) : q.1.length ≤ l.length + 1 ∧ q.2.length ≤ l.length + 1 := by
  unfold sessL at he
  split at he
  · cases he
  · split at he
    · obtain ⟨h1, h2⟩ := into_len he
      exact ⟨h1, by omega⟩
    · cases he
      have h1 := List.length_filter_le (fun r => !tchR k w r) l
      have h2 := gone_len (oldL k w l)
      have h3 : (oldL k w l).length ≤ l.length := List.length_filter_le _ _
      refine ⟨Nat.le_trans (rPut_len _ _) (Nat.succ_le_succ h1), ?_⟩
      show (goneL (oldL k w l) ++ _).length ≤ _
      rw [List.length_append]
      have : ∀ r, (tellS j m r).2.length ≤ 1 := fun r => by unfold tellS; split <;> simp
      have := this ⟨k, spanL w (oldL k w l), ((oldL k w l).map (·.all)).foldl aggB (agg1 v), ((oldL k w l).map (·.all)).foldl aggB (agg1 v), 0, false⟩
      omega
theorem takeS_len {j : JobT} {m : Int} {x : ItmT} {a : List RowT × List PaneT × List LatT} {w : WinT} : (takeS j m x a w).1.length ≤ a.1.length + 1 ∧ (takeS j m x a w).2.1.length ≤ a.2.1.length + a.1.length + 1 ∧ (takeS j m x a w).2.2.length ≤ a.2.2.length + 1 := by
  unfold takeS
  split
  · rename_i q hq
    unfold stepT at hq
    rw [List.length_append]
    split at hq
    · have := sess_len hq; refine ⟨by first | omega | (dsimp only; omega), by first | omega | (dsimp only; omega), by first | omega | (dsimp only; omega)⟩
    · have := into_len hq; refine ⟨by first | omega | (dsimp only; omega), by first | omega | (dsimp only; omega), by first | omega | (dsimp only; omega)⟩
  · rw [List.length_append]
    refine ⟨by first | omega | (dsimp only; omega), by first | omega | (dsimp only; omega), by simp⟩
theorem takeL_snoc (j : JobT) (m : Int) (x : ItmT) (ws : List WinT) (w : WinT) (l : List RowT) : takeL j m x (ws ++ [w]) l = takeS j m x (takeL j m x ws l) w := by
  unfold takeL; rw [List.foldl_append]; rfl
theorem snocInd {α : Type} {P : List α → Prop} (h0 : P []) (h1 : ∀ l x, P l → P (l ++ [x])) : ∀ l, P l := by
  intro l
  rw [← List.reverse_reverse l]
  induction l.reverse with
  | nil => exact h0
  | cons x r ih => rw [List.reverse_cons]; exact h1 _ _ ih
theorem takeL_len {j : JobT} {m : Int} {x : ItmT} {l : List RowT} : ∀ (ws : List WinT), (takeL j m x ws l).1.length ≤ l.length + ws.length ∧ (takeL j m x ws l).2.1.length ≤ ws.length * (l.length + ws.length + 1) ∧ (takeL j m x ws l).2.2.length ≤ ws.length := by
  refine snocInd (by simp [takeL]) fun ws w ih => ?_
  · rw [takeL_snoc]
    have := takeS_len (j := j) (m := m) (x := x) (a := takeL j m x ws l) (w := w)
    obtain ⟨h1, h2, h3⟩ := ih
    obtain ⟨g1, g2, g3⟩ := this
    refine ⟨by simp; omega, ?_, by simp; omega⟩
    have e : (ws ++ [w]).length = ws.length + 1 := by simp
    rw [e, Nat.succ_mul]
    have : ws.length * (l.length + ws.length + 1) ≤ ws.length * (l.length + (ws.length + 1) + 1) := Nat.mul_le_mul_left _ (by omega)
    omega
end Go.Rk
/- What is known of sessions that become one, in either order. -/
namespace Go.Rk
set_option linter.unusedSimpArgs false
set_option linter.unusedVariables false
theorem spanL_app (w : WinT) (l : List RowT) (r : RowT) : spanL w (l ++ [r]) = winSpan (spanL w l) r.win := by unfold spanL; rw [List.foldl_append]; rfl
end Go.Rk
/- Small things that a record needs. -/
namespace Go.Rk
set_option linter.unusedSimpArgs false
set_option linter.unusedVariables false
open Go.Proofs
set_option maxRecDepth 100000
set_option maxHeartbeats 1000000
theorem c_ItmOkP (x : ItmT) : ∃ b, (b = true ↔ ItmOkP x) ∧ Meets Try.prog 129 [xd (eItm x)] ⟨.one (.c (.d (eB b))), [none]⟩ := by
  obtain ⟨b, hb, hm⟩ := c_ItmOk x.kind x.t x.key x.v x.n
  exact ⟨b, by rw [hb, decide_eq_true_eq]; exact Iff.rfl, hm⟩
theorem c_sItmOkP (x : ItmT) : ∃ b, (b = true ↔ ItmOkP x) ∧ Meets Try.prog 50 [xd (eItm x)] ⟨.one (.c (.d (eB b))), [none]⟩ := by
  obtain ⟨b, hb, hm⟩ := c_sItmOk x.kind x.t x.key x.v x.n
  exact ⟨b, by rw [hb, decide_eq_true_eq]; exact Iff.rfl, hm⟩
set_option maxRecDepth 100000 in
theorem c_isRec (kind t key v n : Int) : ∃ b, b = decide (kind = 1 ∧ (0 ≤ t ∧ t ≤ 60) ∧ (0 ≤ key ∧ key ≤ 3) ∧ (-9 ≤ v ∧ v ≤ 9) ∧ n = 0) ∧ Meets Try.prog 87 [.agg [.d (eI kind), .d (eI t), .d (eI key), .d (eI v), .d (eI n)]] ⟨.one (.c (.d (eB b))), [none]⟩ := by
  obtain ⟨b, hb⟩ : ∃ b, b = decide (kind = 1 ∧ (0 ≤ t ∧ t ≤ 60) ∧ (0 ≤ key ∧ key ≤ 3) ∧ (-9 ≤ v ∧ v ≤ 9) ∧ n = 0) := ⟨_, rfl⟩
  refine ⟨b, hb, ?_⟩
  refine meets_of (H := []) (EX := EXA) ttok mixed Try.func87 rfl (by kernel_rfl) (by decide) ?_
  generalize hA : real = A
  generalize hM : MeetsB Try.prog = M
  cbv
  repeat' first
    | apply And.intro
    | exact True.intro
    | with_reducible rfl
    | exact same_of hA rfl
    | refine br_of hA (fun _ => ?_) (fun _ => ?_)
    | exact imp_of hA id
    | (refine imp_of hA ?_; subst hA; simp only [real, Bool.true_and]; exact id)
    | (refine ind_of hA ?_; decide +kernel)
    | (refine call_ex hA hM (c_ItmOk _ _ _ _ _) (fun _ _ => ?_); cbv)
  all_goals subst hA
  all_goals refine congrArg (fun b => XA.one (.c (.d (eB b)))) (Bool.eq_iff_iff.2 ?_)
  all_goals subst_vars
  all_goals try simp only [real, bifA, bifB, bifC, bifD, decide_eq_true_eq, decide_eq_false_iff_not, beq_iff_eq, bne_iff_ne, beq_eq_false_iff_ne, bne_eq_false_iff_eq, ne_eq, Bool.and_eq_true, Bool.or_eq_true, Bool.not_eq_true', Bool.not_eq_false', Bool.and_eq_false_iff, Bool.or_eq_false_iff, Bool.false_eq_true, and_false, false_and, or_false, false_or, and_true, true_and, not_true_eq_false, not_false_eq_true, true_iff, false_iff, IntKind.wrap_i64] at *
  all_goals first
    | omega
    | skip
end Go.Rk
/- Lists that grow at their end, by number and members. -/
namespace Go.Rk
set_option linter.unusedSimpArgs false
set_option linter.unusedVariables false
theorem oldL_snoc (k : Int) (w : WinT) (l : List RowT) (r : RowT) : oldL k w (l ++ [r]) = oldL k w l ++ if tchR k w r = true then [r] else [] := by
  unfold oldL; rw [List.filter_append]; congr 1
  cases h : tchR k w r <;> simp [h]
theorem goneL_snoc (l : List RowT) (r : RowT) : goneL (l ++ [r]) = goneL l ++ if 0 < r.told then [goneP r] else [] := by
  unfold goneL; rw [List.filter_append, List.map_append]; congr 1
  by_cases h : 0 < r.told <;> simp [h]
theorem oldL_len (k : Int) (w : WinT) (l : List RowT) : (oldL k w l).length ≤ l.length := List.length_filter_le _ _
theorem restL_len (k : Int) (w : WinT) (l : List RowT) : (restL k w l).length ≤ l.length := List.length_filter_le _ _
theorem one_iff {w : WinT} {l : List RowT} {k : Nat} {G : Nat → RowT} (h : Lst zRow l k G) : oneB w l = true ↔ k = 1 ∧ (G 0).win.s = w.s ∧ (G 0).win.e = w.e := by
  obtain ⟨rfl, h2⟩ := h
  match l, h2 with
  | [], _ => simp [oneB]
  | [o], h2 =>
    have e : G 0 = o := h2 0 (by simp)
    simp [oneB, e]
  | a :: b :: r, _ => simp [oneB]
end Go.Rk
/- The windows of a time. -/
namespace Go.Rk
set_option linter.unusedSimpArgs false
set_option linter.unusedVariables false
open Go.Proofs
theorem c_sJobOkP (j : JobT) : ∃ b, (b = true ↔ JobOkP j) ∧ Meets Try.prog 71 [xd (eJob j)] ⟨.one (.c (.d (eB b))), [none]⟩ := by
  obtain ⟨b, hb, hm⟩ := c_sJobOk j.srcs j.tsks j.kind j.size j.step j.late j.tell j.piece j.least j.room
  exact ⟨b, by rw [hb, decide_eq_true_eq]; exact Iff.rfl, hm⟩


theorem nz_of {A : Ar} (hA : real = A) {g : Bool} {n : Int} (h : n ≠ 0) : A.nz g n := by subst hA; exact fun _ => h
def st_l4 (j : JobT) (t sp f : Int) (n : Nat) (row : Nat → List DV) : St := ⟨[(6, .c (.d (eI f))), (1, .c (.d (eI t))), (2, .c (.bp 128 1 0)), (5, .c (.own 2368 0 n 1))], [(128, 1, .box ((eJob j).map .d)), (2368, 1, .arr 2 n row)]⟩
set_option maxRecDepth 100000 in
theorem m_l4Of1 (j : JobT) (t : Int) (hs : 1 ≤ j.size) (hk : j.kind = 1) (row : Nat → List DV) (hrow : row = real.app 1 (real.rep [eI (IntKind.i64.wrap (t - t.tmod j.size)), eI (IntKind.i64.wrap (IntKind.i64.wrap (t - t.tmod j.size) + j.size))]) (real.rep [eI 0, eI 0])) : Meets Try.prog 142 [xd (eJob j), .c (.d (eI t))] ⟨.one (.c (.own 2 1 row)), [none, none]⟩ := by
  refine meets_of (H := []) (EX := EXA) ttok mixed Try.func142 rfl (by kernel_rfl) (by decide) ?_
  generalize hA : real = A
  generalize hM : MeetsB Try.prog = M
  cbv
  repeat' first
    | apply And.intro
    | exact True.intro
    | with_reducible rfl
    | exact same_of hA rfl
    | refine br_of hA (fun _ => ?_) (fun _ => ?_)
    | exact imp_of hA id
    | (refine imp_of hA ?_; subst hA; simp only [real, Bool.true_and]; exact id)
    | (refine ind_of hA ?_; decide +kernel)
    | exact nz_of hA (show j.size ≠ 0 by omega)
  · subst hA; rw [hrow]; rfl
  · exfalso
    rename_i h1 h2
    subst hA
    have h : (j.kind == 1) = false := h1
    rw [hk] at h
    cases h
  · exfalso
    rename_i h1 h2
    subst hA
    have h : (j.kind == 1) = false := h1
    rw [hk] at h
    cases h
set_option maxRecDepth 100000 in
theorem m_l4Of3 (j : JobT) (t : Int) (hs : 1 ≤ j.size) (hk : j.kind = 3) (row : Nat → List DV) (hrow : row = real.app 1 (real.rep [eI t, eI (IntKind.i64.wrap (t + j.size))]) (real.rep [eI 0, eI 0])) : Meets Try.prog 142 [xd (eJob j), .c (.d (eI t))] ⟨.one (.c (.own 2 1 row)), [none, none]⟩ := by
  refine meets_of (H := []) (EX := EXA) ttok mixed Try.func142 rfl (by kernel_rfl) (by decide) ?_
  generalize hA : real = A
  generalize hM : MeetsB Try.prog = M
  cbv
  repeat' first
    | apply And.intro
    | exact True.intro
    | with_reducible rfl
    | exact same_of hA rfl
    | refine br_of hA (fun _ => ?_) (fun _ => ?_)
    | exact imp_of hA id
    | (refine imp_of hA ?_; subst hA; simp only [real, Bool.true_and]; exact id)
    | (refine ind_of hA ?_; decide +kernel)
    | exact nz_of hA (show j.size ≠ 0 by omega)
  · exfalso
    rename_i h1
    subst hA
    have h : (j.kind == 1) = true := h1
    rw [hk] at h
    cases h
  · subst hA; rw [hrow]; rfl
  · exfalso
    rename_i h1 h2
    subst hA
    have h : (j.kind == 3) = false := h2
    rw [hk] at h
    cases h
set_option maxRecDepth 100000 in
theorem m_l4Of2 (j : JobT) (t : Int) (hsz : 1 ≤ j.size ∧ j.size ≤ 20) (hsp : 1 ≤ j.step) (hsp2 : j.step ≤ 20) (hk : j.kind = 2) (ht : 0 ≤ t ∧ t ≤ 60) (n : Nat) (g : Nat → WinT) (hl : Tells zWin eWin (winsL j t) n (fun i => eWin (g i))) : Meets Try.prog 142 [xd (eJob j), .c (.d (eI t))] ⟨.one (.c (.own 2 n fun i => eWin (g i))), [none, none]⟩ := by
  refine meets_of (H := [12]) (EX := EXA) ttok mixed Try.func142 rfl (by kernel_rfl) (by decide) ?_
  generalize hA : real = A
  generalize hM : MeetsB Try.prog = M
  cbv
  repeat' first
    | apply And.intro
    | exact True.intro
    | with_reducible rfl
    | exact same_of hA rfl
    | refine br_of hA (fun _ => ?_) (fun _ => ?_)
    | exact imp_of hA id
    | (refine imp_of hA ?_; subst hA; simp only [real, Bool.true_and]; exact id)
    | (refine ind_of hA ?_; decide +kernel)
    | exact nz_of hA (show j.size ≠ 0 by omega)
  · exfalso
    rename_i h1
    subst hA
    have h : (j.kind == 1) = true := h1
    rw [hk] at h
    cases h
  · exfalso
    rename_i h1 h2
    subst hA
    have h : (j.kind == 3) = true := h2
    rw [hk] at h
    cases h
  have hf0 : (0 : Int) = 0 := rfl
  have hs0 : j.step = j.step := rfl
  have hall : [] ++ slideF j.size j.step t 100 0 = winsL j t := by unfold winsL winStep winFrom; rw [if_neg (by omega), if_pos hk, if_neg (by omega), if_pos hk]; rfl
  refine loop_of hA (α := { q : Int × Nat × (Nat → List DV) × List WinT // (0 ≤ q.1 ∧ q.1 ≤ 80) ∧ Tells zWin eWin q.2.2.2 q.2.1 q.2.2.1 ∧ q.2.2.2 ++ slideF j.size j.step t 100 q.1 = winsL j t }) (fun y => st_l4 j t j.step y.1.1 y.1.2.1 y.1.2.2.1) (fun y => (61 - y.1.1).toNat) ⟨(0, 0, fun _ => [], []), ⟨by simp only; omega, by simp only; omega⟩, ⟨rfl, fun k h => absurd h (Nat.not_lt_zero k)⟩, hall⟩ ?_ ?_
  · refine cov_of ?_ ?_ ?_
    · cbv; try (subst hA; repeat' first | apply And.intro | exact True.intro | exact congrArg (fun x => DV.v (.int .i64 x)) hf0 | exact congrArg (fun x => DV.v (.int .i64 x)) hs0 | rfl)
    · cbv; try (subst hA; repeat' first | apply And.intro | exact True.intro | rfl | exact (fun _ _ => rfl) | (intro k hk; exact absurd hk (Nat.not_lt_zero k)))
    · cbv
  rintro ⟨⟨f, n1, row, l⟩, hf, hT, hw⟩
  have hf : 0 ≤ f ∧ f ≤ 80 := hf
  have hT : Tells zWin eWin l n1 row := hT
  have hw : l ++ slideF j.size j.step t 100 f = winsL j t := hw
  have hn1 : n1 ≤ 100 := by
    have := congrArg List.length hw
    rw [List.length_append] at this
    have := winsL_len j t
    have := hT.1
    omega
  have hws : IntKind.i64.wrap (f + j.size) = f + j.size := IntWalk.i64_in _ (by omega)
  have hwp : IntKind.i64.wrap (f + j.step) = f + j.step := IntWalk.i64_in _ (by omega)
  cbv
  repeat' first
    | apply And.intro
    | exact True.intro
    | with_reducible rfl
    | exact same_of hA rfl
    | refine br_of hA (fun _ => ?_) (fun _ => ?_)
    | exact imp_of hA id
    | (refine imp_of hA ?_; subst hA; simp only [real, Bool.true_and]; exact id)
    | (refine ind_of hA ?_; decide +kernel)
    | exact room_add hA (by omega) (by decide)
  · rename_i hlt hin
    have hlt : f ≤ t := by subst hA; exact of_decide_eq_true hlt
    have hin : t < f + j.size := by
      subst hA
      have h : t < IntKind.i64.wrap (f + j.size) := of_decide_eq_true hin
      rw [hws] at h; exact h
    have hg := slideF_go (size := j.size) (step := j.step) (t := t) (f := f) hsp hf.1 ht.2 hlt
    rw [if_pos hin] at hg
    refine ⟨⟨(f + j.step, n1 + 1, fun k => if k < n1 then row k else eWin ⟨f, f + j.size⟩, l ++ [⟨f, f + j.size⟩]), ⟨by simp only; omega, by simp only; omega⟩, tells_snoc hT (fun k _ => rfl), by rw [List.append_assoc, ← hw, hg]⟩, by simp only; omega, cov_of ?_ ?_ ?_⟩
    · cbv
      subst hA
      repeat' first | apply And.intro | exact True.intro | exact congrArg (fun x => DV.v (.int .i64 x)) hwp | rfl | (intro k hk; exact push_at rfl _ _ _ _ k hk)
    · cbv
      subst hA
      repeat' first | apply And.intro | exact True.intro | rfl | (intro k hk; exact (push_at rfl _ _ _ _ k hk).trans (congrArg (fun x => if k < n1 then row k else [eI f, eI x]) hws))
    · cbv
  · rename_i hlt hin
    have hlt : f ≤ t := by subst hA; exact of_decide_eq_true hlt
    have hin : ¬ t < f + j.size := by
      subst hA
      have h : ¬ t < IntKind.i64.wrap (f + j.size) := of_decide_eq_false hin
      rw [hws] at h; exact h
    have hg := slideF_go (size := j.size) (step := j.step) (t := t) (f := f) hsp hf.1 ht.2 hlt
    rw [if_neg hin] at hg
    refine ⟨⟨(f + j.step, n1, row, l), ⟨by simp only; omega, by simp only; omega⟩, hT, by rw [← hw, hg]; rfl⟩, by simp only; omega, cov_of ?_ ?_ ?_⟩
    · cbv
      subst hA
      repeat' first | apply And.intro | exact True.intro | exact congrArg (fun x => DV.v (.int .i64 x)) hwp | rfl | (intro k hk; exact push_at rfl _ _ _ _ k hk)
    · cbv; try (subst hA; repeat' first | apply And.intro | exact True.intro | rfl | (intro _ _; rfl))
    · cbv
  · rename_i hlt
    have hlt : ¬ f ≤ t := by subst hA; exact of_decide_eq_false hlt
    rw [slideF_end hlt, List.append_nil] at hw
    subst hw
    have hnn : n1 = n := hT.1.trans hl.1.symm
    subst hnn
    refine stop_of hA ⟨[(5, .c (.own 2368 0 n1 1))], [(2368, 1, .arr 2 n1 fun i => eWin (g i))]⟩ (cov_of ?_ ?_ ?_) ?_
    · cbv
    · cbv
      exact ⟨fun q hq => (hT.2 q hq).trans (hl.2 q hq).symm, trivial⟩
    · cbv
    · cbv
      repeat' first
        | apply And.intro
        | exact True.intro
        | with_reducible rfl
        | exact same_of hA rfl
        | refine br_of hA (fun _ => ?_) (fun _ => ?_)
        | exact imp_of hA id
        | (refine imp_of hA ?_; subst hA; simp only [real, Bool.true_and]; exact id)
        | (refine ind_of hA ?_; decide +kernel)
theorem c_l4Of (j : JobT) (t : Int) (hj : JobOkP j) (ht : 0 ≤ t ∧ t ≤ 60) (n : Nat) (g : Nat → WinT) (hl : Tells zWin eWin (winsL j t) n (fun i => eWin (g i))) : Meets Try.prog 142 [xd (eJob j), .c (.d (eI t))] ⟨.one (.c (.own 2 n fun i => eWin (g i))), [none, none]⟩ := by
  have hsz : 1 ≤ j.size ∧ j.size ≤ 20 := hj.2.2.2.1
  have hst := hj.2.2.2.2.1
  have hkk : 1 ≤ j.kind ∧ j.kind ≤ 3 := hj.2.2.1
  by_cases k2 : j.kind = 2
  · exact m_l4Of2 j t hsz (by omega) (by omega) k2 ht n g hl
  have a := Int.tmod_nonneg j.size ht.1
  have b := Int.tmod_lt_of_pos t (show 0 < j.size by omega)
  by_cases k1 : j.kind = 1
  · have e := winsL_fixed k1 hsz.1 ht.1 ht.2
    rw [e] at hl
    have hn : n = 1 := hl.1
    subst hn
    refine meets_rows (fun i hi => ?_) (m_l4Of1 j t hsz.1 k1 _ rfl)
    have hi0 : i = 0 := Nat.lt_one_iff.1 hi
    subst hi0
    refine Eq.trans ?_ (hl.2 0 hi).symm
    show [eI (IntKind.i64.wrap (t - t.tmod j.size)), eI (IntKind.i64.wrap (IntKind.i64.wrap (t - t.tmod j.size) + j.size))] = [eI (t - t.tmod j.size), eI (t - t.tmod j.size + j.size)]
    rw [IntWalk.i64_in (t - t.tmod j.size) (by omega), IntWalk.i64_in (t - t.tmod j.size + j.size) (by omega)]
  · have k3 : j.kind = 3 := by omega
    have e := winsL_sess k3 hsz.1 ht.1 ht.2
    rw [e] at hl
    have hn : n = 1 := hl.1
    subst hn
    refine meets_rows (fun i hi => ?_) (m_l4Of3 j t hsz.1 k3 _ rfl)
    have hi0 : i = 0 := Nat.lt_one_iff.1 hi
    subst hi0
    refine Eq.trans ?_ (hl.2 0 hi).symm
    show [eI t, eI (IntKind.i64.wrap (t + j.size))] = [eI t, eI (t + j.size)]
    rw [IntWalk.i64_in (t + j.size) (by omega)]
end Go.Rk
/- What a record does, step by step, at rows that rise. -/
namespace Go.Rk
set_option linter.unusedSimpArgs false
set_option linter.unusedVariables false
theorem takeS_some {j : JobT} {m : Int} {x : ItmT} {a : List RowT × List PaneT × List LatT} {w : WinT} {q : List RowT × List PaneT} (h : stepT j m x w a.1 = some q) : takeS j m x a w = (q.1, a.2.1 ++ q.2, a.2.2) := by
  unfold takeS; rw [h]
theorem takeS_none {j : JobT} {m : Int} {x : ItmT} {a : List RowT × List PaneT × List LatT} {w : WinT} (h : stepT j m x w a.1 = none) : takeS j m x a w = (a.1, a.2.1, a.2.2 ++ [⟨x, w⟩]) := by
  unfold takeS; rw [h]
end Go.Rk
/- A row put in its place, step by step. -/
namespace Go.Rk
set_option linter.unusedSimpArgs false
set_option linter.unusedVariables false
theorem rIns_app {r : RowT} : ∀ {l : List RowT} (m : List RowT), (∃ q, q ∈ l ∧ RA r q) → rIns r (l ++ m) = rIns r l ++ m
  | [], _, ⟨_, h, _⟩ => by simp at h
  | q :: l, m, ⟨p, hp, ha⟩ => by
    show (if RA r q then r :: q :: (l ++ m) else q :: rIns r (l ++ m)) = (if RA r q then r :: q :: l else q :: rIns r l) ++ m
    by_cases h : RA r q
    · rw [if_pos h, if_pos h]; rfl
    · rw [if_neg h, if_neg h, rIns_app m ⟨p, (List.mem_cons.1 hp).resolve_left (fun e => h (e ▸ ha)), ha⟩]; rfl
theorem rIns_none {r : RowT} : ∀ {l : List RowT}, (∀ q, q ∈ l → ¬ RA r q) → rIns r l = l ++ [r]
  | [], _ => rfl
  | q :: l, h => by
    show (if RA r q then r :: q :: l else q :: rIns r l) = _
    rw [if_neg (h q (by simp)), rIns_none fun x hx => h x (List.mem_cons_of_mem _ hx)]; rfl
theorem rIns_hit {r x : RowT} : ∀ {l : List RowT}, (∀ q, q ∈ l → ¬ RA r q) → RA r x → rIns r (l ++ [x]) = (l ++ [r]) ++ [x]
  | [], _, hx => by
    show (if RA r x then r :: x :: [] else _) = _
    rw [if_pos hx]; rfl
  | q :: l, h, hx => by
    show (if RA r q then _ else q :: rIns r (l ++ [x])) = _
    rw [if_neg (h q (by simp)), rIns_hit (fun y hy => h y (List.mem_cons_of_mem _ hy)) hx]; rfl
/-- Behind so many rows: what is gathered, and whether the row was put. -/
def PutAt (r : RowT) (l : List RowT) (dn : Bool) (out : List RowT) : Prop :=
  (dn = false ∧ out = rOut r.key r.win l ∧ ∀ q, q ∈ out → ¬ RA r q) ∨ (dn = true ∧ out = rIns r (rOut r.key r.win l) ∧ ∃ q, q ∈ rOut r.key r.win l ∧ RA r q)
theorem rOut_snoc (k : Int) (w : WinT) (l : List RowT) (x : RowT) : rOut k w (l ++ [x]) = rOut k w l ++ if IsR k w x then [] else [x] := by
  unfold rOut; rw [List.filter_append]; congr 1
  by_cases h : IsR k w x <;> simp [h]
theorem putAt_same {r x : RowT} {l out : List RowT} {dn : Bool} (h : PutAt r l dn out) (hx : IsR r.key r.win x) : PutAt r (l ++ [x]) dn out := by
  unfold PutAt; rw [rOut_snoc, if_pos hx, List.append_nil]; exact h
theorem putAt_hit {r x : RowT} {l out : List RowT} (h : PutAt r l false out) (hx : ¬ IsR r.key r.win x) (ha : RA r x) : PutAt r (l ++ [x]) true ((out ++ [r]) ++ [x]) := by
  rcases h with ⟨_, rfl, h2⟩ | ⟨h, _⟩
  · refine .inr ⟨rfl, ?_, x, ?_, ha⟩
    · rw [rOut_snoc, if_neg hx, rIns_hit h2 ha]
    · rw [rOut_snoc, if_neg hx]; simp
  · cases h
theorem putAt_on {r x : RowT} {l out : List RowT} {dn : Bool} (h : PutAt r l dn out) (hx : ¬ IsR r.key r.win x) (ha : ¬ (dn = false ∧ RA r x)) : PutAt r (l ++ [x]) dn (out ++ [x]) := by
  rcases h with ⟨rfl, rfl, h2⟩ | ⟨rfl, rfl, h2⟩
  · refine .inl ⟨rfl, by rw [rOut_snoc, if_neg hx], fun q hq => ?_⟩
    rcases List.mem_append.1 hq with h | h
    · exact h2 q h
    · simp at h; subst h; exact fun hr => ha ⟨rfl, hr⟩
  · obtain ⟨q, hq, hqa⟩ := h2
    refine .inr ⟨rfl, ?_, q, ?_, hqa⟩
    · rw [rOut_snoc, if_neg hx, rIns_app _ ⟨q, hq, hqa⟩]
    · rw [rOut_snoc]; exact List.mem_append_left _ hq
theorem putAt_end {r : RowT} {l out : List RowT} {dn : Bool} (h : PutAt r l dn out) : rPut r l = if dn = true then out else out ++ [r] := by
  unfold rPut
  rcases h with ⟨rfl, rfl, h2⟩ | ⟨rfl, rfl, h2⟩
  · rw [if_neg (by simp), rIns_none h2]
  · rw [if_pos rfl]
theorem putAt_len {r : RowT} {l out : List RowT} {dn : Bool} (h : PutAt r l dn out) : out.length ≤ l.length + 1 := by
  have h1 : (rOut r.key r.win l).length ≤ l.length := List.length_filter_le _ _
  rcases h with ⟨_, rfl, _⟩ | ⟨_, rfl, _⟩
  · omega
  · rw [rIns_len]; omega
theorem room_add3 {A : Ar} (hA : real = A) {n m k b : Nat} (hn : n + m + k ≤ 2000000) (hb : b ≤ 100000) : A.room (A.add (A.add n m) k) b := by
  have e : A.add n m = n + m := by subst hA; rfl
  rw [e]
  exact room_add2 hA hn hb
theorem push2_if {α : Type} (e : α → List DV) (n : Nat) (G : Nat → α) (x y : α) (z z' : Nat → List DV) (k : Nat) (hk : k < n + 1 + 1) : real.app (real.add n 1) (real.app n (fun i => e (G i)) (real.sub 0 (real.app 1 (real.rep (e x)) z))) (real.sub 0 (real.app 1 (real.rep (e y)) z')) k = e (if k < n + 1 then (if k < n then G k else x) else y) := by
  show (if k < n + 1 then (if k < n then e (G k) else (if 0 + (k - n) < 1 then e x else z (0 + (k - n) - 1))) else (if 0 + (k - (n + 1)) < 1 then e y else z' (0 + (k - (n + 1)) - 1))) = _
  by_cases a : k < n + 1
  · rw [if_pos a, if_pos a]
    by_cases b : k < n
    · rw [if_pos b, if_pos b]
    · rw [if_neg b, if_neg b, if_pos (by omega)]
  · rw [if_neg a, if_neg a, if_pos (by omega)]
theorem restL_snoc (k : Int) (w : WinT) (l : List RowT) (r : RowT) : restL k w (l ++ [r]) = restL k w l ++ if tchR k w r = true then [] else [r] := by
  unfold restL; rw [List.filter_append]; congr 1
  cases h : tchR k w r <;> simp [h]
theorem app_if {α : Type} {z : α} (e : α → List DV) {l m : List α} {n k : Nat} {G H : Nat → α} (h1 : Lst z l n G) (h2 : Lst z m k H) (i : Nat) (hi : i < n + k) : real.app n (fun i => e (G i)) (real.sub 0 fun i => e (H i)) i = e ((l ++ m).getD i z) := by
  show (if i < n then e (G i) else e (H (0 + (i - n)))) = _
  by_cases a : i < n
  · rw [if_pos a, h1.2 i a, List.getD_eq_getElem?_getD, List.getD_eq_getElem?_getD, List.getElem?_append_left (by rw [← h1.1]; exact a)]
  · rw [if_neg a, Nat.zero_add, h2.2 (i - n) (by omega), List.getD_eq_getElem?_getD, List.getD_eq_getElem?_getD, List.getElem?_append_right (by rw [← h1.1]; omega), ← h1.1]
theorem app_if2 {α : Type} (e : α → List DV) {n : Nat} {G H : Nat → α} (i : Nat) : real.app n (fun i => e (G i)) (fun i => e (H i)) i = e (if i < n then G i else H (i - n)) := by
  show (if i < n then e (G i) else e (H (i - n))) = _
  by_cases a : i < n
  · rw [if_pos a, if_pos a]
  · rw [if_neg a, if_neg a]
theorem lst_app {α : Type} {z : α} {l m : List α} {n k : Nat} {G H : Nat → α} (h1 : Lst z l n G) (h2 : Lst z m k H) : Lst z (l ++ m) (n + k) (fun i => if i < n then G i else H (i - n)) := by
  refine ⟨by rw [List.length_append, h1.1, h2.1], fun i hi => ?_⟩
  show (if i < n then G i else H (i - n)) = _
  by_cases a : i < n
  · rw [if_pos a, h1.2 i a, List.getD_eq_getElem?_getD, List.getD_eq_getElem?_getD, List.getElem?_append_left (by rw [← h1.1]; exact a)]
  · rw [if_neg a, h2.2 (i - n) (by omega), List.getD_eq_getElem?_getD, List.getD_eq_getElem?_getD, List.getElem?_append_right (by rw [← h1.1]; omega), ← h1.1]
end Go.Rk
