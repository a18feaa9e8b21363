/- The walk over this seat's functions, part 5: what each of them answers, at all data. -/
import Derived.Test.YtaceckhmclddeaaM1
import Derived.Test.YtaceckhmclddeaaM2
import Derived.Test.YtaceckhmclddeaaM3
import Derived.Test.YtaceckhmclddeaaM4
import Derived.IntWalk
import Derived.Shelf.Spec.SlicesInsertGrow
/- Small functions: what they answer. -/
namespace Go.Rk
set_option linter.unusedSimpArgs false
set_option linter.unusedVariables false
open Go.Proofs
def EXA : FuncId → List Nat × Bool := fun _ => ([], false)
theorem mixed : Try.prog.follows .mixedOrders = true := by kernel_rfl
set_option maxRecDepth 100000 in
theorem c_in (n lo hi : Int) : ∃ b, b = decide (lo ≤ n ∧ n ≤ hi) ∧ Meets Try.prog 94 [.c (.d (eI n)), .c (.d (eI lo)), .c (.d (eI hi))] ⟨.one (.c (.d (eB b))), [none, none, none]⟩ := by
  obtain ⟨b, hb⟩ : ∃ b, b = decide (lo ≤ n ∧ n ≤ hi) := ⟨_, rfl⟩
  refine ⟨b, hb, ?_⟩
  refine meets_of (H := []) (EX := EXA) ttok mixed Try.func94 rfl (by kernel_rfl) (by decide) ?_
  generalize hA : real = A
  generalize hM : MeetsB Try.prog = M
  cbv
  repeat' first
    | apply And.intro
    | exact True.intro
    | with_reducible rfl
    | exact same_of hA rfl
    | refine br_of hA (fun _ => ?_) (fun _ => ?_)
    | exact imp_of hA id
    | (refine imp_of hA ?_; subst hA; simp only [real, Bool.true_and]; exact id)
    | (refine ind_of hA ?_; decide +kernel)
  all_goals subst hA
  all_goals refine congrArg (fun b => XA.one (.c (.d (eB b)))) (Bool.eq_iff_iff.2 ?_)
  all_goals subst_vars
  all_goals try simp only [real, bifA, bifB, bifC, bifD, decide_eq_true_eq, decide_eq_false_iff_not, beq_iff_eq, bne_iff_ne, beq_eq_false_iff_ne, bne_eq_false_iff_eq, ne_eq, Bool.and_eq_true, Bool.or_eq_true, Bool.not_eq_true', Bool.not_eq_false', Bool.and_eq_false_iff, Bool.or_eq_false_iff, Bool.false_eq_true, and_false, false_and, or_false, false_or, and_true, true_and, not_true_eq_false, not_false_eq_true, true_iff, false_iff, IntKind.wrap_i64] at *
  all_goals first
    | omega
    | skip
set_option maxRecDepth 100000 in
theorem c_WinOk (s e : Int) : ∃ b, b = decide ((0 ≤ s ∧ s ≤ 60) ∧ IntKind.i64.wrap (s + 1) ≤ e ∧ e ≤ 120) ∧ Meets Try.prog 61 [.agg [.d (eI s), .d (eI e)]] ⟨.one (.c (.d (eB b))), [none]⟩ := by
  obtain ⟨b, hb⟩ : ∃ b, b = decide ((0 ≤ s ∧ s ≤ 60) ∧ IntKind.i64.wrap (s + 1) ≤ e ∧ e ≤ 120) := ⟨_, rfl⟩
  refine ⟨b, hb, ?_⟩
  refine meets_of (H := []) (EX := EXA) ttok mixed Try.func61 rfl (by kernel_rfl) (by decide) ?_
  generalize hA : real = A
  generalize hM : MeetsB Try.prog = M
  cbv
  repeat' first
    | apply And.intro
    | exact True.intro
    | with_reducible rfl
    | exact same_of hA rfl
    | refine br_of hA (fun _ => ?_) (fun _ => ?_)
    | exact imp_of hA id
    | (refine imp_of hA ?_; subst hA; simp only [real, Bool.true_and]; exact id)
    | (refine ind_of hA ?_; decide +kernel)
    | (refine call_ex hA hM (c_in _ _ _) (fun _ _ => ?_); cbv)
  all_goals subst hA
  all_goals refine congrArg (fun b => XA.one (.c (.d (eB b)))) (Bool.eq_iff_iff.2 ?_)
  all_goals subst_vars
  all_goals try simp only [real, bifA, bifB, bifC, bifD, decide_eq_true_eq, decide_eq_false_iff_not, beq_iff_eq, bne_iff_ne, beq_eq_false_iff_ne, bne_eq_false_iff_eq, ne_eq, Bool.and_eq_true, Bool.or_eq_true, Bool.not_eq_true', Bool.not_eq_false', Bool.and_eq_false_iff, Bool.or_eq_false_iff, Bool.false_eq_true, and_false, false_and, or_false, false_or, and_true, true_and, not_true_eq_false, not_false_eq_true, true_iff, false_iff, IntKind.wrap_i64] at *
  all_goals first
    | omega
    | skip
set_option maxRecDepth 100000 in
theorem c_tells (n : Int) : ∃ b, b = decide (1 ≤ n ∧ n ≤ 4) ∧ Meets Try.prog 127 [.c (.d (eI n))] ⟨.one (.c (.d (eB b))), [none]⟩ := by
  obtain ⟨b, hb⟩ : ∃ b, b = decide (1 ≤ n ∧ n ≤ 4) := ⟨_, rfl⟩
  refine ⟨b, hb, ?_⟩
  refine meets_of (H := []) (EX := EXA) ttok mixed Try.func127 rfl (by kernel_rfl) (by decide) ?_
  generalize hA : real = A
  generalize hM : MeetsB Try.prog = M
  cbv
  repeat' first
    | apply And.intro
    | exact True.intro
    | with_reducible rfl
    | exact same_of hA rfl
    | refine br_of hA (fun _ => ?_) (fun _ => ?_)
    | exact imp_of hA id
    | (refine imp_of hA ?_; subst hA; simp only [real, Bool.true_and]; exact id)
    | (refine ind_of hA ?_; decide +kernel)
    | (refine call_ex hA hM (c_in _ _ _) (fun _ _ => ?_); cbv)
  all_goals subst hA
  all_goals refine congrArg (fun b => XA.one (.c (.d (eB b)))) (Bool.eq_iff_iff.2 ?_)
  all_goals subst_vars
  all_goals try simp only [real, bifA, bifB, bifC, bifD, decide_eq_true_eq, decide_eq_false_iff_not, beq_iff_eq, bne_iff_ne, beq_eq_false_iff_ne, bne_eq_false_iff_eq, ne_eq, Bool.and_eq_true, Bool.or_eq_true, Bool.not_eq_true', Bool.not_eq_false', Bool.and_eq_false_iff, Bool.or_eq_false_iff, Bool.false_eq_true, and_false, false_and, or_false, false_or, and_true, true_and, not_true_eq_false, not_false_eq_true, true_iff, false_iff, IntKind.wrap_i64] at *
  all_goals first
    | omega
    | skip
set_option maxRecDepth 100000 in
theorem c_ItmOk (kind t key v n : Int) : ∃ b, b = decide ((kind = 1 ∧ (0 ≤ t ∧ t ≤ 60) ∧ (0 ≤ key ∧ key ≤ 3) ∧ (-9 ≤ v ∧ v ≤ 9) ∧ n = 0) ∨ (kind = 2 ∧ ((1 ≤ t ∧ t ≤ 60) ∨ t = 1000) ∧ key = 0 ∧ v = 0 ∧ n = 0) ∨ (kind = 3 ∧ t = 0 ∧ key = 0 ∧ v = 0 ∧ (1 ≤ n ∧ n ≤ 900))) ∧ Meets Try.prog 129 [.agg [.d (eI kind), .d (eI t), .d (eI key), .d (eI v), .d (eI n)]] ⟨.one (.c (.d (eB b))), [none]⟩ := by
  obtain ⟨b, hb⟩ : ∃ b, b = decide ((kind = 1 ∧ (0 ≤ t ∧ t ≤ 60) ∧ (0 ≤ key ∧ key ≤ 3) ∧ (-9 ≤ v ∧ v ≤ 9) ∧ n = 0) ∨ (kind = 2 ∧ ((1 ≤ t ∧ t ≤ 60) ∨ t = 1000) ∧ key = 0 ∧ v = 0 ∧ n = 0) ∨ (kind = 3 ∧ t = 0 ∧ key = 0 ∧ v = 0 ∧ (1 ≤ n ∧ n ≤ 900))) := ⟨_, rfl⟩
  refine ⟨b, hb, ?_⟩
  refine meets_of (H := []) (EX := EXA) ttok mixed Try.func129 rfl (by kernel_rfl) (by decide) ?_
  generalize hA : real = A
  generalize hM : MeetsB Try.prog = M
  cbv
  repeat' first
    | apply And.intro
    | exact True.intro
    | with_reducible rfl
    | exact same_of hA rfl
    | refine br_of hA (fun _ => ?_) (fun _ => ?_)
    | exact imp_of hA id
    | (refine imp_of hA ?_; subst hA; simp only [real, Bool.true_and]; exact id)
    | (refine ind_of hA ?_; decide +kernel)
    | (refine call_ex hA hM (c_in _ _ _) (fun _ _ => ?_); cbv)
  all_goals subst hA
  all_goals refine congrArg (fun b => XA.one (.c (.d (eB b)))) (Bool.eq_iff_iff.2 ?_)
  all_goals subst_vars
  all_goals try simp only [real, bifA, bifB, bifC, bifD, decide_eq_true_eq, decide_eq_false_iff_not, beq_iff_eq, bne_iff_ne, beq_eq_false_iff_ne, bne_eq_false_iff_eq, ne_eq, Bool.and_eq_true, Bool.or_eq_true, Bool.not_eq_true', Bool.not_eq_false', Bool.and_eq_false_iff, Bool.or_eq_false_iff, Bool.false_eq_true, and_false, false_and, or_false, false_or, and_true, true_and, not_true_eq_false, not_false_eq_true, true_iff, false_iff, IntKind.wrap_i64] at *
  all_goals first
    | omega
    | skip
set_option maxRecDepth 100000 in
theorem c_JobOk (a b1 kind size step late tell : Int) (p : Bool) (least room : Int) : ∃ b, b = decide ((1 ≤ a ∧ a ≤ 3) ∧ (1 ≤ b1 ∧ b1 ≤ 2) ∧ (1 ≤ kind ∧ kind ≤ 3) ∧ (1 ≤ size ∧ size ≤ 20) ∧ ((kind = 2 ∧ (1 ≤ step ∧ step ≤ size) ∧ size ≤ 4 * step) ∨ (kind ≠ 2 ∧ step = 0)) ∧ (0 ≤ late ∧ late ≤ 20) ∧ (1 ≤ tell ∧ tell ≤ 4) ∧ (-9 ≤ least ∧ least ≤ 9) ∧ (1 ≤ room ∧ room ≤ 4)) ∧ Meets Try.prog 84 [.agg [.d (eI a), .d (eI b1), .d (eI kind), .d (eI size), .d (eI step), .d (eI late), .d (eI tell), .d (eB p), .d (eI least), .d (eI room)]] ⟨.one (.c (.d (eB b))), [none]⟩ := by
  obtain ⟨b, hb⟩ : ∃ b, b = decide ((1 ≤ a ∧ a ≤ 3) ∧ (1 ≤ b1 ∧ b1 ≤ 2) ∧ (1 ≤ kind ∧ kind ≤ 3) ∧ (1 ≤ size ∧ size ≤ 20) ∧ ((kind = 2 ∧ (1 ≤ step ∧ step ≤ size) ∧ size ≤ 4 * step) ∨ (kind ≠ 2 ∧ step = 0)) ∧ (0 ≤ late ∧ late ≤ 20) ∧ (1 ≤ tell ∧ tell ≤ 4) ∧ (-9 ≤ least ∧ least ≤ 9) ∧ (1 ≤ room ∧ room ≤ 4)) := ⟨_, rfl⟩
  refine ⟨b, hb, ?_⟩
  refine meets_of (H := []) (EX := EXA) ttok mixed Try.func84 rfl (by kernel_rfl) (by decide) ?_
  generalize hA : real = A
  generalize hM : MeetsB Try.prog = M
  cbv
  repeat' first
    | apply And.intro
    | exact True.intro
    | with_reducible rfl
    | exact same_of hA rfl
    | refine br_of hA (fun _ => ?_) (fun _ => ?_)
    | exact imp_of hA id
    | (refine imp_of hA ?_; subst hA; simp only [real, Bool.true_and]; exact id)
    | (refine ind_of hA ?_; decide +kernel)
    | (refine call_ex hA hM (c_in _ _ _) (fun _ _ => ?_); cbv)
    | (refine call_ex hA hM (c_tells _) (fun _ _ => ?_); cbv)
  all_goals subst hA
  all_goals refine congrArg (fun b => XA.one (.c (.d (eB b)))) (Bool.eq_iff_iff.2 ?_)
  all_goals subst_vars
  all_goals try simp only [real, bifA, bifB, bifC, bifD, decide_eq_true_eq, decide_eq_false_iff_not, beq_iff_eq, bne_iff_ne, beq_eq_false_iff_ne, bne_eq_false_iff_eq, ne_eq, Bool.and_eq_true, Bool.or_eq_true, Bool.not_eq_true', Bool.not_eq_false', Bool.and_eq_false_iff, Bool.or_eq_false_iff, Bool.false_eq_true, and_false, false_and, or_false, false_or, and_true, true_and, not_true_eq_false, not_false_eq_true, true_iff, false_iff, IntKind.wrap_i64] at *
  all_goals first
    | omega
    | skip
set_option maxRecDepth 100000 in
theorem c_isTime (n : Int) : ∃ b, b = decide (0 ≤ n ∧ n ≤ 1000) ∧ Meets Try.prog 63 [.c (.d (eI n))] ⟨.one (.c (.d (eB b))), [none]⟩ := by
  obtain ⟨b, hb⟩ : ∃ b, b = decide (0 ≤ n ∧ n ≤ 1000) := ⟨_, rfl⟩
  refine ⟨b, hb, ?_⟩
  refine meets_of (H := []) (EX := EXA) ttok mixed Try.func63 rfl (by kernel_rfl) (by decide) ?_
  generalize hA : real = A
  generalize hM : MeetsB Try.prog = M
  cbv
  repeat' first
    | apply And.intro
    | exact True.intro
    | with_reducible rfl
    | exact same_of hA rfl
    | refine br_of hA (fun _ => ?_) (fun _ => ?_)
    | exact imp_of hA id
    | (refine imp_of hA ?_; subst hA; simp only [real, Bool.true_and]; exact id)
    | (refine ind_of hA ?_; decide +kernel)
    | (refine call_ex hA hM (c_in _ _ _) (fun _ _ => ?_); cbv)
  all_goals subst hA
  all_goals refine congrArg (fun b => XA.one (.c (.d (eB b)))) (Bool.eq_iff_iff.2 ?_)
  all_goals subst_vars
  all_goals try simp only [real, bifA, bifB, bifC, bifD, decide_eq_true_eq, decide_eq_false_iff_not, beq_iff_eq, bne_iff_ne, beq_eq_false_iff_ne, bne_eq_false_iff_eq, ne_eq, Bool.and_eq_true, Bool.or_eq_true, Bool.not_eq_true', Bool.not_eq_false', Bool.and_eq_false_iff, Bool.or_eq_false_iff, Bool.false_eq_true, and_false, false_and, or_false, false_or, and_true, true_and, not_true_eq_false, not_false_eq_true, true_iff, false_iff, IntKind.wrap_i64] at *
  all_goals first
    | omega
    | skip
set_option maxRecDepth 100000 in
theorem c_isKey (n : Int) : ∃ b, b = decide (0 ≤ n ∧ n ≤ 3) ∧ Meets Try.prog 108 [.c (.d (eI n))] ⟨.one (.c (.d (eB b))), [none]⟩ := by
  obtain ⟨b, hb⟩ : ∃ b, b = decide (0 ≤ n ∧ n ≤ 3) := ⟨_, rfl⟩
  refine ⟨b, hb, ?_⟩
  refine meets_of (H := []) (EX := EXA) ttok mixed Try.func108 rfl (by kernel_rfl) (by decide) ?_
  generalize hA : real = A
  generalize hM : MeetsB Try.prog = M
  cbv
  repeat' first
    | apply And.intro
    | exact True.intro
    | with_reducible rfl
    | exact same_of hA rfl
    | refine br_of hA (fun _ => ?_) (fun _ => ?_)
    | exact imp_of hA id
    | (refine imp_of hA ?_; subst hA; simp only [real, Bool.true_and]; exact id)
    | (refine ind_of hA ?_; decide +kernel)
    | (refine call_ex hA hM (c_in _ _ _) (fun _ _ => ?_); cbv)
  all_goals subst hA
  all_goals refine congrArg (fun b => XA.one (.c (.d (eB b)))) (Bool.eq_iff_iff.2 ?_)
  all_goals subst_vars
  all_goals try simp only [real, bifA, bifB, bifC, bifD, decide_eq_true_eq, decide_eq_false_iff_not, beq_iff_eq, bne_iff_ne, beq_eq_false_iff_ne, bne_eq_false_iff_eq, ne_eq, Bool.and_eq_true, Bool.or_eq_true, Bool.not_eq_true', Bool.not_eq_false', Bool.and_eq_false_iff, Bool.or_eq_false_iff, Bool.false_eq_true, and_false, false_and, or_false, false_or, and_true, true_and, not_true_eq_false, not_false_eq_true, true_iff, false_iff, IntKind.wrap_i64] at *
  all_goals first
    | omega
    | skip
end Go.Rk
/- Small functions: what they answer. -/
namespace Go.Rk
set_option linter.unusedSimpArgs false
set_option linter.unusedVariables false
open Go.Proofs
set_option maxRecDepth 100000 in
theorem c_isNaN (n : Int) : ∃ b, b = decide (False) ∧ Meets Try.prog 154 [.c (.d (eI n))] ⟨.one (.c (.d (eB b))), [none]⟩ := by
  obtain ⟨b, hb⟩ : ∃ b, b = decide (False) := ⟨_, rfl⟩
  refine ⟨b, hb, ?_⟩
  refine meets_of (H := []) (EX := EXA) ttok mixed Try.func154 rfl (by kernel_rfl) (by decide) ?_
  generalize hA : real = A
  generalize hM : MeetsB Try.prog = M
  cbv
  repeat' first
    | apply And.intro
    | exact True.intro
    | with_reducible rfl
    | exact same_of hA rfl
    | refine br_of hA (fun _ => ?_) (fun _ => ?_)
    | exact imp_of hA id
    | (refine imp_of hA ?_; subst hA; simp only [real, Bool.true_and]; exact id)
    | (refine ind_of hA ?_; decide +kernel)
  all_goals subst hA
  all_goals refine congrArg (fun b => XA.one (.c (.d (eB b)))) (Bool.eq_iff_iff.2 ?_)
  all_goals subst_vars
  all_goals try simp only [real, bifA, bifB, bifC, bifD, decide_eq_true_eq, decide_eq_false_iff_not, beq_iff_eq, bne_iff_ne, beq_eq_false_iff_ne, bne_eq_false_iff_eq, ne_eq, Bool.and_eq_true, Bool.or_eq_true, Bool.not_eq_true', Bool.not_eq_false', Bool.and_eq_false_iff, Bool.or_eq_false_iff, Bool.false_eq_true, and_false, false_and, or_false, false_or, and_true, true_and, not_true_eq_false, not_false_eq_true, true_iff, false_iff, IntKind.wrap_i64] at *
  all_goals first
    | omega
    | skip
set_option maxRecDepth 100000 in
theorem c_Compare (a b : Int) : ∃ x : Int, x = (if a < b then -1 else if b < a then 1 else 0) ∧ Meets Try.prog 136 [.c (.d (eI a)), .c (.d (eI b))] ⟨.one (.c (.d (eI x))), [none, none]⟩ := by
  obtain ⟨x, hx⟩ : ∃ x : Int, x = (if a < b then -1 else if b < a then 1 else 0) := ⟨_, rfl⟩
  refine ⟨x, hx, ?_⟩
  refine meets_of (H := []) (EX := EXA) ttok mixed Try.func136 rfl (by kernel_rfl) (by decide) ?_
  generalize hA : real = A
  generalize hM : MeetsB Try.prog = M
  cbv
  repeat' first
    | apply And.intro
    | exact True.intro
    | with_reducible rfl
    | exact same_of hA rfl
    | refine br_of hA (fun _ => ?_) (fun _ => ?_)
    | exact imp_of hA id
    | (refine imp_of hA ?_; subst hA; simp only [real, Bool.true_and]; exact id)
    | (refine ind_of hA ?_; decide +kernel)
    | (refine call_ex hA hM (c_isNaN _) (fun _ _ => ?_); cbv)
  all_goals subst hA
  all_goals refine congrArg (fun x => XA.one (.c (.d (eI x)))) ?_
  all_goals subst_vars
  all_goals try simp only [real, bifA, bifB, bifC, bifD, decide_eq_true_eq, decide_eq_false_iff_not, beq_iff_eq, bne_iff_ne, beq_eq_false_iff_ne, bne_eq_false_iff_eq, ne_eq, Bool.and_eq_true, Bool.or_eq_true, Bool.not_eq_true', Bool.not_eq_false', Bool.and_eq_false_iff, Bool.or_eq_false_iff, Bool.false_eq_true, reduceCtorEq] at *
  all_goals first
    | omega
    | skip
/-- The first that is not 0. -/
inductive FirstNz (n : Nat) (g : Nat → Int) : Int → Prop
  | at (i : Nat) (h : i < n) (hi : g i ≠ 0) (hb : ∀ j, j < i → g j = 0) : FirstNz n g (g i)
  | none (hb : ∀ j, j < n → g j = 0) : FirstNz n g 0
theorem firstNz_ex (n : Nat) (g : Nat → Int) : ∃ x, FirstNz n g x := by
  by_cases h : ∃ i, i < n ∧ g i ≠ 0
  · obtain ⟨i, hi⟩ := h
    induction i using Nat.strongRecOn with
    | _ i ih =>
      by_cases hm : ∃ j, j < i ∧ g j ≠ 0
      · obtain ⟨j, hj1, hj2⟩ := hm
        exact ih j hj1 ⟨by omega, hj2⟩
      · exact ⟨_, .at i hi.1 hi.2 fun j hj => Classical.not_not.1 fun e => hm ⟨j, hj, e⟩⟩
  · exact ⟨0, .none fun j hj => Classical.not_not.1 fun e => h ⟨j, hj, e⟩⟩
theorem firstNz_one {n : Nat} {g : Nat → Int} {x y : Int} (h : FirstNz n g x) (h' : FirstNz n g y) : x = y := by
  cases h with
  | «at» i hi hh hb =>
    cases h' with
    | «at» j hj hh' hb' =>
      have : i = j := by
        rcases Nat.lt_trichotomy i j with h | h | h
        · exact absurd (hb' i h) hh
        · exact h
        · exact absurd (hb j h) hh'
      rw [this]
    | none hb' => exact absurd (hb' i hi) hh
  | none hb =>
    cases h' with
    | «at» j hj hh' hb' => exact absurd (hb j hj) hh'
    | none hb' => rfl
theorem firstNz_two {g : Nat → Int} {x : Int} (h : FirstNz 2 g x) : x = if g 0 = 0 then g 1 else g 0 := by
  refine firstNz_one h ?_
  by_cases h0 : g 0 = 0
  · rw [if_pos h0]
    by_cases h1 : g 1 = 0
    · rw [h1]; exact .none fun j hj => by rcases j with _ | _ | j; exact h0; exact h1; omega
    · exact .at 1 (by omega) h1 fun j hj => by rcases j with _ | j; exact h0; omega
  · rw [if_neg h0]; exact .at 0 (by omega) h0 fun j hj => by omega
def stOr (n : Nat) (g : Nat → Int) (i : Nat) : St := ⟨[(8, .c (.d (eI i))), (7, .c (.d (eI n))), (6, .c (.d (.sl 1 n fun i => [eI (g i)]))), (3, .c (.d (eI 0)))], []⟩
set_option maxRecDepth 100000 in
theorem m_Or (n : Nat) (hn : n ≤ maxLen) (g : Nat → Int) (x : Int) (hx : FirstNz n g x) : Meets Try.prog 135 [.c (.d (.sl 1 n fun i => [eI (g i)]))] ⟨.one (.c (.d (eI x))), [none]⟩ := by
  refine meets_of (H := []) (EX := EXA) ttok mixed Try.func135 rfl (by kernel_rfl) (by decide) ?_
  generalize hA : real = A
  generalize hM : MeetsB Try.prog = M
  cbv
  repeat' first
    | apply And.intro
    | exact True.intro
    | with_reducible rfl
    | exact same_of hA rfl
    | refine br_of hA (fun _ => ?_) (fun _ => ?_)
    | exact imp_of hA id
    | (refine imp_of hA ?_; subst hA; simp only [real, Bool.true_and]; exact id)
    | (refine ind_of hA ?_; decide +kernel)
  refine loop_of hA (α := { i : Nat // i ≤ n ∧ ∀ j, j < i → g j = 0 }) (fun x => stOr n g x.1) (fun x => n - x.1) ⟨0, Nat.zero_le _, fun j h => absurd h (Nat.not_lt_zero _)⟩ ?_ ?_
  · refine cov_of ?_ ?_ ?_
    · cbv; subst hA; exact ⟨rfl, rfl, trivial⟩
    · cbv
    · cbv
  rintro ⟨i, hi, hb⟩
  cbv
  repeat' first
    | apply And.intro
    | exact True.intro
    | with_reducible rfl
    | exact same_of hA rfl
    | refine br_of hA (fun _ => ?_) (fun _ => ?_)
    | exact imp_of hA id
    | (refine imp_of hA ?_; subst hA; simp only [real, Bool.true_and]; exact id)
    | (refine ind_of hA ?_; decide +kernel)
    | (refine inb_of hA fun _ => ?_; subst hA; simp only [real, decide_eq_true_eq, Int.ofNat_eq_natCast] at *; omega)
  · rename_i hlt hne
    subst hA
    simp only [real, decide_eq_true_eq, Int.ofNat_eq_natCast, Int.toNat_natCast, bne_iff_ne] at *
    obtain rfl := firstNz_one hx (.at i (by omega) hne hb)
    rfl
  · rename_i hlt hne
    have hlt' : i < n := by subst hA; simp only [real, decide_eq_true_eq, Int.ofNat_eq_natCast] at hlt; omega
    refine ⟨⟨i + 1, by omega, fun j hj => ?_⟩, by simp only; omega, cov_of ?_ ?_ ?_⟩
    · by_cases e : j = i
      · subst e
        subst hA
        simpa [real] using hne
      · exact hb j (by omega)
    · cbv
      subst hA
      exact ⟨congrArg (fun x => DV.v (.int .i64 x)) (up64 hlt' hn), trivial⟩
    · cbv
    · cbv
  · subst hA
    simp only [real, decide_eq_false_iff_not, Int.ofNat_eq_natCast] at *
    obtain rfl := firstNz_one hx (.none fun j hj => hb j (by omega))
    rfl
theorem two_of {A : Ar} (hA : real = A) (a b : Int) : A.sub 0 (A.app 1 (A.rep [eI a]) (A.app 1 (A.rep [eI b]) (A.rep [eI 0]))) = fun i => [eI (if i = 0 then a else if i = 1 then b else 0)] := by
  subst hA
  funext i
  rcases i with _ | _ | i
  · rfl
  · rfl
  · simp [real]
theorem c_Or (a b : Int) : ∃ x : Int, x = (if a = 0 then b else a) ∧ Meets Try.prog 135 [.c (.d (.sl 1 2 fun i => [eI (if i = 0 then a else if i = 1 then b else 0)]))] ⟨.one (.c (.d (eI x))), [none]⟩ := by
  obtain ⟨x, hx⟩ := firstNz_ex 2 fun i => if i = 0 then a else if i = 1 then b else 0
  exact ⟨x, firstNz_two hx, m_Or 2 (by decide) _ x hx⟩
set_option maxRecDepth 100000 in
theorem c_wcompare (s e s2 e2 : Int) : ∃ x : Int, x = (if s < s2 then -1 else if s2 < s then 1 else if e < e2 then -1 else if e2 < e then 1 else 0) ∧ Meets Try.prog 137 [.agg [.d (eI s), .d (eI e)], .agg [.d (eI s2), .d (eI e2)]] ⟨.one (.c (.d (eI x))), [none, none]⟩ := by
  obtain ⟨x, hx⟩ : ∃ x : Int, x = (if s < s2 then -1 else if s2 < s then 1 else if e < e2 then -1 else if e2 < e then 1 else 0) := ⟨_, rfl⟩
  refine ⟨x, hx, ?_⟩
  refine meets_of (H := []) (EX := EXA) ttok mixed Try.func137 rfl (by kernel_rfl) (by decide) ?_
  generalize hA : real = A
  generalize hM : MeetsB Try.prog = M
  cbv
  repeat' first
    | apply And.intro
    | exact True.intro
    | with_reducible rfl
    | exact same_of hA rfl
    | refine br_of hA (fun _ => ?_) (fun _ => ?_)
    | exact imp_of hA id
    | (refine imp_of hA ?_; subst hA; simp only [real, Bool.true_and]; exact id)
    | (refine ind_of hA ?_; decide +kernel)
    | (refine call_ex hA hM (c_Compare _ _) (fun _ _ => ?_); cbv)
    | (refine call_ex2 hA hM (c_Or _ _) (congrArg (fun f => [XT.c (.d (.sl 1 2 f))]) (two_of hA _ _)) (fun _ _ => ?_); cbv)
  all_goals subst hA
  all_goals refine congrArg (fun x => XA.one (.c (.d (eI x)))) ?_
  all_goals subst_vars
  all_goals try simp only [real, bifA, bifB, bifC, bifD, decide_eq_true_eq, decide_eq_false_iff_not, beq_iff_eq, bne_iff_ne, beq_eq_false_iff_ne, bne_eq_false_iff_eq, ne_eq, Bool.and_eq_true, Bool.or_eq_true, Bool.not_eq_true', Bool.not_eq_false', Bool.and_eq_false_iff, Bool.or_eq_false_iff, Bool.false_eq_true, reduceCtorEq] at *
  all_goals first
    | omega
    | skip
set_option maxRecDepth 100000 in
theorem c_rcompare (r q : RowT) : ∃ x : Int, x = (if r.key < q.key then -1 else if q.key < r.key then 1 else if r.win.s < q.win.s then -1 else if q.win.s < r.win.s then 1 else if r.win.e < q.win.e then -1 else if q.win.e < r.win.e then 1 else 0) ∧ Meets Try.prog 99 [xd (eRow r), xd (eRow q)] ⟨.one (.c (.d (eI x))), [none, none]⟩ := by
  obtain ⟨x, hx⟩ : ∃ x : Int, x = (if r.key < q.key then -1 else if q.key < r.key then 1 else if r.win.s < q.win.s then -1 else if q.win.s < r.win.s then 1 else if r.win.e < q.win.e then -1 else if q.win.e < r.win.e then 1 else 0) := ⟨_, rfl⟩
  refine ⟨x, hx, ?_⟩
  refine meets_of (H := []) (EX := EXA) ttok mixed Try.func99 rfl (by kernel_rfl) (by decide) ?_
  generalize hA : real = A
  generalize hM : MeetsB Try.prog = M
  cbv
  repeat' first
    | apply And.intro
    | exact True.intro
    | with_reducible rfl
    | exact same_of hA rfl
    | refine br_of hA (fun _ => ?_) (fun _ => ?_)
    | exact imp_of hA id
    | (refine imp_of hA ?_; subst hA; simp only [real, Bool.true_and]; exact id)
    | (refine ind_of hA ?_; decide +kernel)
    | (refine call_ex hA hM (c_Compare _ _) (fun _ _ => ?_); cbv)
    | (refine call_ex hA hM (c_wcompare _ _ _ _) (fun _ _ => ?_); cbv)
    | (refine call_ex2 hA hM (c_Or _ _) (congrArg (fun f => [XT.c (.d (.sl 1 2 f))]) (two_of hA _ _)) (fun _ _ => ?_); cbv)
  all_goals subst hA
  all_goals refine congrArg (fun x => XA.one (.c (.d (eI x)))) ?_
  all_goals subst_vars
  all_goals try simp only [real, bifA, bifB, bifC, bifD, decide_eq_true_eq, decide_eq_false_iff_not, beq_iff_eq, bne_iff_ne, beq_eq_false_iff_ne, bne_eq_false_iff_eq, ne_eq, Bool.and_eq_true, Bool.or_eq_true, Bool.not_eq_true', Bool.not_eq_false', Bool.and_eq_false_iff, Bool.or_eq_false_iff, Bool.false_eq_true, reduceCtorEq] at *
  all_goals first
    | omega
    | skip
set_option maxRecDepth 100000 in
theorem c_WinTouch (s e s2 e2 : Int) : ∃ b, b = decide (s < e2 ∧ s2 < e) ∧ Meets Try.prog 79 [.agg [.d (eI s), .d (eI e)], .agg [.d (eI s2), .d (eI e2)]] ⟨.one (.c (.d (eB b))), [none, none]⟩ := by
  obtain ⟨b, hb⟩ : ∃ b, b = decide (s < e2 ∧ s2 < e) := ⟨_, rfl⟩
  refine ⟨b, hb, ?_⟩
  refine meets_of (H := []) (EX := EXA) ttok mixed Try.func79 rfl (by kernel_rfl) (by decide) ?_
  generalize hA : real = A
  generalize hM : MeetsB Try.prog = M
  cbv
  repeat' first
    | apply And.intro
    | exact True.intro
    | with_reducible rfl
    | exact same_of hA rfl
    | refine br_of hA (fun _ => ?_) (fun _ => ?_)
    | exact imp_of hA id
    | (refine imp_of hA ?_; subst hA; simp only [real, Bool.true_and]; exact id)
    | (refine ind_of hA ?_; decide +kernel)
  all_goals subst hA
  all_goals refine congrArg (fun b => XA.one (.c (.d (eB b)))) (Bool.eq_iff_iff.2 ?_)
  all_goals subst_vars
  all_goals try simp only [real, bifA, bifB, bifC, bifD, decide_eq_true_eq, decide_eq_false_iff_not, beq_iff_eq, bne_iff_ne, beq_eq_false_iff_ne, bne_eq_false_iff_eq, ne_eq, Bool.and_eq_true, Bool.or_eq_true, Bool.not_eq_true', Bool.not_eq_false', Bool.and_eq_false_iff, Bool.or_eq_false_iff, Bool.false_eq_true, and_false, false_and, or_false, false_or, and_true, true_and, not_true_eq_false, not_false_eq_true, true_iff, false_iff, IntKind.wrap_i64] at *
  all_goals first
    | omega
    | skip
set_option maxRecDepth 100000 in
theorem c_AggOk (n sum least most : Int) : ∃ b, b = decide ((n = 0 ∧ sum = 0 ∧ least = 0 ∧ most = 0) ∨ (n ≠ 0 ∧ (1 ≤ n ∧ n ≤ 1000) ∧ (-9 ≤ least ∧ least ≤ 9) ∧ (least ≤ most ∧ most ≤ 9) ∧ (IntKind.i64.wrap (n * least) ≤ sum ∧ sum ≤ IntKind.i64.wrap (n * most)))) ∧ Meets Try.prog 109 [.agg [.d (eI n), .d (eI sum), .d (eI least), .d (eI most)]] ⟨.one (.c (.d (eB b))), [none]⟩ := by
  obtain ⟨b, hb⟩ : ∃ b, b = decide ((n = 0 ∧ sum = 0 ∧ least = 0 ∧ most = 0) ∨ (n ≠ 0 ∧ (1 ≤ n ∧ n ≤ 1000) ∧ (-9 ≤ least ∧ least ≤ 9) ∧ (least ≤ most ∧ most ≤ 9) ∧ (IntKind.i64.wrap (n * least) ≤ sum ∧ sum ≤ IntKind.i64.wrap (n * most)))) := ⟨_, rfl⟩
  refine ⟨b, hb, ?_⟩
  refine meets_of (H := []) (EX := EXA) ttok mixed Try.func109 rfl (by kernel_rfl) (by decide) ?_
  generalize hA : real = A
  generalize hM : MeetsB Try.prog = M
  cbv
  repeat' first
    | apply And.intro
    | exact True.intro
    | with_reducible rfl
    | exact same_of hA rfl
    | refine br_of hA (fun _ => ?_) (fun _ => ?_)
    | exact imp_of hA id
    | (refine imp_of hA ?_; subst hA; simp only [real, Bool.true_and]; exact id)
    | (refine ind_of hA ?_; decide +kernel)
    | (refine call_ex hA hM (c_in _ _ _) (fun _ _ => ?_); cbv)
  all_goals subst hA
  all_goals refine congrArg (fun b => XA.one (.c (.d (eB b)))) (Bool.eq_iff_iff.2 ?_)
  all_goals subst_vars
  all_goals try simp only [real, bifA, bifB, bifC, bifD, decide_eq_true_eq, decide_eq_false_iff_not, beq_iff_eq, bne_iff_ne, beq_eq_false_iff_ne, bne_eq_false_iff_eq, ne_eq, Bool.and_eq_true, Bool.or_eq_true, Bool.not_eq_true', Bool.not_eq_false', Bool.and_eq_false_iff, Bool.or_eq_false_iff, Bool.false_eq_true, and_false, false_and, or_false, false_or, and_true, true_and, not_true_eq_false, not_false_eq_true, true_iff, false_iff, IntKind.wrap_i64] at *
  all_goals first
    | omega
    | skip
end Go.Rk
/- First places. -/
namespace Go.Rk
set_option linter.unusedSimpArgs false
set_option linter.unusedVariables false
open Go.Proofs
def stIxRow1 (n : Nat) (g : Nat → RowT) (F : FuncId) (c0 : DV) (i : Nat) : St := ⟨[(8, .c (.d (eI i))), (7, .c (.d (eI n))), (0, .c (.d (.sl 13 n fun i => eRow (g i)))), (1, .c (.d (.fn F [c0])))], []⟩
set_option maxRecDepth 100000 in
theorem c_IndexRow1 (n : Nat) (hn : n ≤ maxLen) (g : Nat → RowT) (F : FuncId) (c0 : DV) (Q : RowT → Prop) (hc : ∀ r, ∃ b, (b = true ↔ Q r) ∧ Meets Try.prog F [xd (eRow r), .c (.d c0)] ⟨.one (.c (.d (eB b))), [none, none]⟩) : ∃ x, FirstIx n (fun i => Q (g i)) x ∧ Meets Try.prog 120 [.c (.d (.sl 13 n fun i => eRow (g i))), .c (.d (.fn F [c0]))] ⟨.one (.c (.d (eI x))), [none, none]⟩ := by
  obtain ⟨x, hx⟩ := firstIx_ex n fun i => Q (g i)
  refine ⟨x, hx, ?_⟩
  refine meets_of (H := []) (EX := EXA) ttok mixed Try.func120 rfl (by kernel_rfl) (by decide) ?_
  generalize hA : real = A
  generalize hM : MeetsB Try.prog = M
  cbv
  repeat' first
    | apply And.intro
    | exact True.intro
    | with_reducible rfl
    | exact same_of hA rfl
    | refine br_of hA (fun _ => ?_) (fun _ => ?_)
    | exact imp_of hA id
    | (refine imp_of hA ?_; subst hA; simp only [real, Bool.true_and]; exact id)
    | (refine ind_of hA ?_; decide +kernel)
  refine loop_of hA (α := { i : Nat // i ≤ n ∧ ∀ j, j < i → ¬ Q (g j) }) (fun x => stIxRow1 n g F c0 x.1) (fun x => n - x.1) ⟨0, Nat.zero_le _, fun j h => absurd h (Nat.not_lt_zero _)⟩ ?_ ?_
  · refine cov_of ?_ ?_ ?_
    · cbv; subst hA; exact ⟨rfl, rfl, trivial⟩
    · cbv
    · cbv
  rintro ⟨i, hi, hb⟩
  cbv
  repeat' first
    | apply And.intro
    | exact True.intro
    | with_reducible rfl
    | exact same_of hA rfl
    | refine br_of hA (fun _ => ?_) (fun _ => ?_)
    | exact imp_of hA id
    | (refine imp_of hA ?_; subst hA; simp only [real, Bool.true_and]; exact id)
    | (refine ind_of hA ?_; decide +kernel)
    | (refine inb_of hA fun _ => ?_; subst hA; simp only [real, decide_eq_true_eq, Int.ofNat_eq_natCast] at *; omega)
  · refine call_ex hA hM (hc (g (A.nat (Int.ofNat i)))) (fun b hbb => ?_)
    cbv
    repeat' first
      | apply And.intro
      | exact True.intro
      | with_reducible rfl
      | exact same_of hA rfl
      | refine br_of hA (fun _ => ?_) (fun _ => ?_)
      | exact imp_of hA id
      | (refine imp_of hA ?_; subst hA; simp only [real, Bool.true_and]; exact id)
      | (refine ind_of hA ?_; decide +kernel)
    · rename_i hlt ht
      subst hA
      simp only [real, decide_eq_true_eq, Int.ofNat_eq_natCast, Int.toNat_natCast] at *
      obtain rfl := firstIx_one hx (.at i (by omega) (hbb.1 ht) hb)
      rfl
    · rename_i hlt ht
      have hlt' : i < n := by subst hA; simp only [real, decide_eq_true_eq, Int.ofNat_eq_natCast] at hlt; omega
      refine ⟨⟨i + 1, by omega, fun j hj => ?_⟩, by simp only; omega, cov_of ?_ ?_ ?_⟩
      · by_cases e : j = i
        · subst e
          subst hA
          intro hq
          have := hbb.2 hq
          rw [ht] at this
          cases this
        · exact hb j (by omega)
      · cbv
        subst hA
        exact ⟨congrArg (fun x => DV.v (.int .i64 x)) (up64 hlt' hn), trivial⟩
      · cbv
      · cbv
  · subst hA
    simp only [real, decide_eq_false_iff_not, Int.ofNat_eq_natCast] at *
    obtain rfl := firstIx_one hx (.none fun j hj => hb j (by omega))
    rfl
set_option maxRecDepth 100000 in
theorem c_ContainsRow1 (n : Nat) (hn : n ≤ maxLen) (g : Nat → RowT) (F : FuncId) (c0 : DV) (Q : RowT → Prop) (hc : ∀ r, ∃ b, (b = true ↔ Q r) ∧ Meets Try.prog F [xd (eRow r), .c (.d c0)] ⟨.one (.c (.d (eB b))), [none, none]⟩) : ∃ b, (b = true ↔ ∃ i, i < n ∧ Q (g i)) ∧ Meets Try.prog 101 [.c (.d (.sl 13 n fun i => eRow (g i))), .c (.d (.fn F [c0]))] ⟨.one (.c (.d (eB b))), [none, none]⟩ := by
  obtain ⟨x, hx, hm⟩ := c_IndexRow1 n hn g F c0 Q hc
  obtain ⟨b, hb⟩ : ∃ b, b = decide (0 ≤ x) := ⟨_, rfl⟩
  have hxx := firstIx_neg hx
  refine ⟨b, by rw [hb, decide_eq_true_eq]; exact hxx.1, ?_⟩
  refine meets_of (H := []) (EX := EXA) ttok mixed Try.func101 rfl (by kernel_rfl) (by decide) ?_
  generalize hA : real = A
  generalize hM : MeetsB Try.prog = M
  cbv
  repeat' first
    | apply And.intro
    | exact True.intro
    | with_reducible rfl
    | exact same_of hA rfl
    | refine br_of hA (fun _ => ?_) (fun _ => ?_)
    | exact imp_of hA id
    | (refine imp_of hA ?_; subst hA; simp only [real, Bool.true_and]; exact id)
    | (refine ind_of hA ?_; decide +kernel)
    | (refine call_of hA hM _ hm ?_; cbv)
  all_goals subst hA
  all_goals refine congrArg (fun b => XA.one (.c (.d (eB b)))) (Bool.eq_iff_iff.2 ?_)
  all_goals subst_vars
  all_goals try simp only [real, bifA, bifB, bifC, bifD, decide_eq_true_eq, decide_eq_false_iff_not, beq_iff_eq, bne_iff_ne, beq_eq_false_iff_ne, bne_eq_false_iff_eq, ne_eq, Bool.and_eq_true, Bool.or_eq_true, Bool.not_eq_true', Bool.not_eq_false', Bool.and_eq_false_iff, Bool.or_eq_false_iff, Bool.false_eq_true, and_false, false_and, or_false, false_or, and_true, true_and, not_true_eq_false, not_false_eq_true, true_iff, false_iff, IntKind.wrap_i64] at *
  all_goals first
    | omega
    | skip
end Go.Rk
/- Rows. -/
namespace Go.Rk
set_option linter.unusedSimpArgs false
set_option linter.unusedVariables false
open Go.Proofs
theorem beqB (a b : Bool) : ((a == b) = true) = (a = true ↔ b = true) := by cases a <;> cases b <;> simp
theorem beqI (a b : Int) : ((a == b) = true) = (a = b) := by simp
theorem bneI (a b : Int) : ((a != b) = true) = ¬ (a = b) := by simp
theorem beqIF (a b : Int) : ((a == b) = false) = ¬ (a = b) := by simp
theorem bneIF (a b : Int) : ((a != b) = false) = (a = b) := by simp
open Classical in
set_option maxRecDepth 100000 in
theorem c_rowOk (j : JobT) (r : RowT) (mark : Int) : ∃ b, (b = true ↔ RowOkP j r mark) ∧ Meets Try.prog 98 [xd (eRow r), xd (eJob j), .c (.d (eI mark))] ⟨.one (.c (.d (eB b))), [none, none, none]⟩ := by
  obtain ⟨b, hb⟩ : ∃ b, b = decide (RowOkP j r mark) := ⟨_, rfl⟩
  refine ⟨b, by rw [hb, decide_eq_true_eq], ?_⟩
  refine meets_of (H := []) (EX := EXA) ttok mixed Try.func98 rfl (by kernel_rfl) (by decide) ?_
  generalize hA : real = A
  generalize hM : MeetsB Try.prog = M
  cbv
  repeat' first
    | apply And.intro
    | exact True.intro
    | with_reducible rfl
    | exact same_of hA rfl
    | refine br_of hA (fun _ => ?_) (fun _ => ?_)
    | exact imp_of hA id
    | (refine imp_of hA ?_; subst hA; simp only [real, Bool.true_and]; exact id)
    | (refine ind_of hA ?_; decide +kernel)
    | (refine call_ex hA hM (c_in _ _ _) (fun _ _ => ?_); cbv)
    | (refine call_ex hA hM (c_isKey _) (fun _ _ => ?_); cbv)
    | (refine call_ex hA hM (c_WinOk _ _) (fun _ _ => ?_); cbv)
    | (refine call_ex hA hM (c_AggOk _ _ _ _) (fun _ _ => ?_); cbv)
  all_goals obtain ⟨key, ⟨s, e⟩, ⟨n1, sum1, least1, most1⟩, ⟨n2, sum2, least2, most2⟩, told, timely⟩ := r
  all_goals obtain ⟨_, _, _, _, _, late, _, _, _, _⟩ := j
  all_goals subst hA
  all_goals refine congrArg (fun b => XA.one (.c (.d (eB b)))) (Bool.eq_iff_iff.2 ?_)
  all_goals subst_vars
  all_goals simp only [real, bifA, bifB, bifC, bifD, beqB, decide_eq_true_eq, decide_eq_false_iff_not, beqI, bneI, beqIF, bneIF, ne_eq, Bool.and_eq_true, Bool.or_eq_true, Bool.not_eq_true', Bool.not_eq_false', Bool.and_eq_false_iff, Bool.or_eq_false_iff, Bool.false_eq_true, and_false, false_and, or_false, false_or, and_true, true_and, not_true_eq_false, not_false_eq_true, true_iff, false_iff, IntKind.wrap_i64, RowOkP, WinOkP, AggOkP] at *
  all_goals first
    | omega
    | (cases timely <;> simp only [true_iff, false_iff, iff_true, iff_false, Bool.false_eq_true, not_true_eq_false, not_false_eq_true, reduceCtorEq] at * <;> omega)
end Go.Rk
/- Operators. -/
namespace Go.Rk
set_option linter.unusedSimpArgs false
set_option linter.unusedVariables false
open Go.Proofs
def OkAt (j : JobT) (mark : Int) (g : Nat → RowT) (i : Nat) : Prop := RowOkP j (g i) mark ∧ (0 < i → AheadP (g (i - 1)).key (g (i - 1)).win (g i).key (g i).win) ∧
    (j.kind = 3 → ∀ k, k < i → ¬ ((g k).key = (g i).key ∧ TouchP (g k).win (g i).win))
theorem down64 {i : Nat} (h : 0 < i) (hn : i ≤ maxLen) : (IntKind.i64.wrap ((i : Int) - 1)).toNat = i - 1 := by
  have hm : maxLen = 9223372036854775807 := by decide
  rw [hm] at hn
  rw [IntWalk.i64_in _ (by omega)]
  omega
theorem c_rcmpA (r q : RowT) : ∃ x : Int, (x < 0 ↔ AheadP r.key r.win q.key q.win) ∧ Meets Try.prog 99 [xd (eRow r), xd (eRow q)] ⟨.one (.c (.d (eI x))), [none, none]⟩ := by
  obtain ⟨x, hx, hm⟩ := c_rcompare r q
  refine ⟨x, ?_, hm⟩
  unfold AheadP WinLt
  omega
set_option maxRecDepth 100000 in
theorem c_OpOk1 (r q : RowT) : ∃ b, (b = true ↔ q.key = r.key ∧ TouchP q.win r.win) ∧ Meets Try.prog 100 [xd (eRow q), .c (.d (.p (eRow r)))] ⟨.one (.c (.d (eB b))), [none, none]⟩ := by
  obtain ⟨b, hb⟩ : ∃ b, b = decide (q.key = r.key ∧ q.win.s < r.win.e ∧ r.win.s < q.win.e) := ⟨_, rfl⟩
  refine ⟨b, by rw [hb, decide_eq_true_eq]; exact Iff.rfl, ?_⟩
  refine meets_of (H := []) (EX := EXA) ttok mixed Try.func100 rfl (by kernel_rfl) (by decide) ?_
  generalize hA : real = A
  generalize hM : MeetsB Try.prog = M
  cbv
  repeat' first
    | apply And.intro
    | exact True.intro
    | with_reducible rfl
    | exact same_of hA rfl
    | refine br_of hA (fun _ => ?_) (fun _ => ?_)
    | exact imp_of hA id
    | (refine imp_of hA ?_; subst hA; simp only [real, Bool.true_and]; exact id)
    | (refine ind_of hA ?_; decide +kernel)
    | (refine call_ex hA hM (c_WinTouch _ _ _ _) (fun _ _ => ?_); cbv)
  all_goals subst hA
  all_goals refine congrArg (fun b => XA.one (.c (.d (eB b)))) (Bool.eq_iff_iff.2 ?_)
  all_goals subst_vars
  all_goals try simp only [real, bifA, bifB, bifC, bifD, decide_eq_true_eq, decide_eq_false_iff_not, beq_iff_eq, bne_iff_ne, beq_eq_false_iff_ne, bne_eq_false_iff_eq, ne_eq, Bool.and_eq_true, Bool.or_eq_true, Bool.not_eq_true', Bool.not_eq_false', Bool.and_eq_false_iff, Bool.or_eq_false_iff, Bool.false_eq_true, and_false, false_and, or_false, false_or, and_true, true_and, not_true_eq_false, not_false_eq_true, true_iff, false_iff, IntKind.wrap_i64] at *
  all_goals first
    | omega
    | skip
def stOk (j : JobT) (mark : Int) (n : Nat) (g : Nat → RowT) (i : Nat) : St := ⟨[(26, .c (.d (eI i))), (25, .c (.d (eI n))), (24, .c (.d (.sl 13 n fun i => eRow (g i)))), (2, .c (.bp 128 1 0)), (3, .c (.bp 192 1 0))], [(128, 1, .box ((eJob j).map .d)), (192, 1, .box ([eI mark, .sl 13 n fun i => eRow (g i)].map .d))]⟩
open Classical in
set_option maxRecDepth 100000 in
theorem c_OpOk (j : JobT) (s : OpStT) : ∃ b, (b = true ↔ OpOkP j s) ∧ Meets Try.prog 46 [xd (eJob j), xd (eOpSt s)] ⟨.one (.c (.d (eB b))), [none, none]⟩ := by
  obtain ⟨b, hb⟩ : ∃ b : Bool, (b = true ↔ OpOkP j s) := ⟨decide (OpOkP j s), by rw [decide_eq_true_eq]⟩
  refine ⟨b, hb, ?_⟩
  obtain ⟨mark, n, g, hn⟩ := s
  show Meets Try.prog 46 [xd (eJob j), xd [eI mark, .sl 13 n fun i => eRow (g i)]] _
  refine meets_of (H := []) (EX := EXA) ttok mixed Try.func46 rfl (by kernel_rfl) (by decide) ?_
  generalize hA : real = A
  generalize hM : MeetsB Try.prog = M
  cbv
  repeat' first
    | apply And.intro
    | exact True.intro
    | with_reducible rfl
    | exact same_of hA rfl
    | refine br_of hA (fun _ => ?_) (fun _ => ?_)
    | exact imp_of hA id
    | (refine imp_of hA ?_; subst hA; simp only [real, Bool.true_and]; exact id)
    | (refine ind_of hA ?_; decide +kernel)
    | (refine call_ex hA hM (c_JobOk _ _ _ _ _ _ _ _ _ _) (fun _ _ => ?_); cbv)
    | (refine call_ex hA hM (c_isTime _) (fun _ _ => ?_); cbv)
  · rename_i hbad
    subst hA; subst_vars
    refine congrArg (fun b => XA.one (.c (.d (eB b)))) ?_
    simp only [real, bifA, bifB, bifC, bifD, beqB, decide_eq_true_eq, decide_eq_false_iff_not, beqI, bneI, beqIF, bneIF, ne_eq, Bool.and_eq_true, Bool.or_eq_true, Bool.not_eq_true', Bool.not_eq_false', Bool.and_eq_false_iff, Bool.or_eq_false_iff, Bool.false_eq_true, and_false, false_and, or_false, false_or, and_true, true_and, not_true_eq_false, not_false_eq_true, true_iff, false_iff, Int.ofNat_eq_natCast, Int.toNat_natCast] at hbad
    cases b with
    | false => rfl
    | true =>
      exfalso
      obtain ⟨h1, h2, h3, _⟩ := hb.1 rfl
      unfold JobOkP at h1
      simp only at h2 h3
      omega
  rename_i hgood
  have hpre : JobOkP j ∧ (0 ≤ mark ∧ mark ≤ 1000) ∧ n ≤ 300 := by
    subst hA; subst_vars
    simp only [real, bifA, bifB, bifC, bifD, beqB, decide_eq_true_eq, decide_eq_false_iff_not, beqI, bneI, beqIF, bneIF, ne_eq, Bool.and_eq_true, Bool.or_eq_true, Bool.not_eq_true', Bool.not_eq_false', Bool.and_eq_false_iff, Bool.or_eq_false_iff, Bool.false_eq_true, and_false, false_and, or_false, false_or, and_true, true_and, not_true_eq_false, not_false_eq_true, true_iff, false_iff, Int.ofNat_eq_natCast, Int.toNat_natCast] at hgood
    unfold JobOkP
    omega
  clear hgood
  refine loop_of hA (α := { i : Nat // i ≤ n ∧ ∀ k, k < i → OkAt j mark g k }) (fun x => stOk j mark n g x.1) (fun x => n - x.1) ⟨0, Nat.zero_le _, fun j h => absurd h (Nat.not_lt_zero _)⟩ ?_ ?_
  · refine cov_of ?_ ?_ ?_
    · cbv; subst hA; repeat' first | apply And.intro | exact True.intro | rfl
    · cbv; try (repeat' first | apply And.intro | exact True.intro | rfl)
    · cbv
  rintro ⟨i, hi, hk⟩
  cbv
  repeat' first
    | apply And.intro
    | exact True.intro
    | with_reducible rfl
    | exact same_of hA rfl
    | refine br_of hA (fun _ => ?_) (fun _ => ?_)
    | exact imp_of hA id
    | (refine imp_of hA ?_; subst hA; simp only [real, Bool.true_and]; exact id)
    | (refine ind_of hA ?_; decide +kernel)
    | (refine call_ex hA hM (c_rowOk _ _ _) (fun _ _ => ?_); cbv)
    | (refine call_ex hA hM (c_rcmpA _ _) (fun _ _ => ?_); cbv)
    | (refine inb_of hA fun _ => ?_; subst hA; simp only [real, Bool.and_eq_true, Bool.not_eq_true', Bool.not_eq_false', decide_eq_true_eq, Int.ofNat_eq_natCast, IntKind.wrap_i64] at *; omega)
    | (refine cut_of hA ?_; subst hA; simp only [real, decide_eq_true_eq, Int.ofNat_eq_natCast] at *; omega)
    | (refine call_ex2 hA hM (c_ContainsRow1 i (Nat.le_trans hi hn) g 100 (.p (eRow (g (A.nat (Int.ofNat i))))) _ (fun q => c_OpOk1 (g (A.nat (Int.ofNat i))) q)) (congrArg (fun d => [XT.c (.d d), XT.c (.d (.fn 100 [.p (eRow (g (A.nat (Int.ofNat i))))]))]) (sl0 hA _ _ _)) (fun _ _ => ?_); cbv)
  · rename_i hlt b1 hb1 x hx hc
    subst hA
    refine congrArg (fun b => XA.one (.c (.d (eB b)))) ?_
    simp only [real, bifA, bifB, bifC, bifD, beqB, decide_eq_true_eq, decide_eq_false_iff_not, beqI, bneI, beqIF, bneIF, ne_eq, Bool.and_eq_true, Bool.or_eq_true, Bool.not_eq_true', Bool.not_eq_false', Bool.and_eq_false_iff, Bool.or_eq_false_iff, Bool.false_eq_true, and_false, false_and, or_false, false_or, and_true, true_and, not_true_eq_false, not_false_eq_true, true_iff, false_iff, Int.ofNat_eq_natCast, Int.toNat_natCast] at hlt hb1 hx hc
    cases b with
    | false => rfl
    | true =>
      exfalso
      have h : OkAt j mark g i := (hb.1 rfl).2.2.2 i (show i < n by omega)
      rcases hc with hc | hc
      · have := hb1.2 h.1; rw [hc] at this; cases this
      · rw [down64 (by omega) (Nat.le_trans hi hn)] at hx
        have := hx.2 (h.2.1 (by omega)); omega
  · rename_i hlt b1 hb1 x hx hc b2 hb2 hc2
    subst hA
    refine congrArg (fun b => XA.one (.c (.d (eB b)))) ?_
    simp only [real, bifA, bifB, bifC, bifD, beqB, decide_eq_true_eq, decide_eq_false_iff_not, beqI, bneI, beqIF, bneIF, ne_eq, Bool.and_eq_true, Bool.or_eq_true, Bool.not_eq_true', Bool.not_eq_false', Bool.and_eq_false_iff, Bool.or_eq_false_iff, Bool.false_eq_true, and_false, false_and, or_false, false_or, and_true, true_and, not_true_eq_false, not_false_eq_true, true_iff, false_iff, Int.ofNat_eq_natCast, Int.toNat_natCast] at hlt hb2 hc2
    cases b with
    | false => rfl
    | true =>
      exfalso
      have h : OkAt j mark g i := (hb.1 rfl).2.2.2 i (show i < n by omega)
      obtain ⟨k, hk1, hk2⟩ := hb2.1 hc2.2
      exact h.2.2 hc2.1 k hk1 hk2
  · rename_i hlt b1 hb1 x hx hc b2 hb2 hc2
    have hlt' : i < n := by subst hA; simp only [real, decide_eq_true_eq, Int.ofNat_eq_natCast] at hlt; omega
    refine ⟨⟨i + 1, by omega, fun k hk' => ?_⟩, by simp only; omega, cov_of ?_ ?_ ?_⟩
    · by_cases e : k = i
      · subst e
        subst hA
        simp only [real, bifA, bifB, bifC, bifD, beqB, decide_eq_true_eq, decide_eq_false_iff_not, beqI, bneI, beqIF, bneIF, ne_eq, Bool.and_eq_true, Bool.or_eq_true, Bool.not_eq_true', Bool.not_eq_false', Bool.and_eq_false_iff, Bool.or_eq_false_iff, Bool.false_eq_true, and_false, false_and, or_false, false_or, and_true, true_and, not_true_eq_false, not_false_eq_true, true_iff, false_iff, Int.ofNat_eq_natCast, Int.toNat_natCast] at hlt hb1 hx hc hb2 hc2
        refine ⟨hb1.1 (by cases b1 <;> simp_all), fun hp => ?_, fun h3 q hq hqq => ?_⟩
        · rw [down64 hp (Nat.le_trans hi hn)] at hx
          refine hx.1 ?_
          rcases hc.2 with h | h <;> omega
        · rcases hc2 with h | h
          · exact h h3
          · have := hb2.2 ⟨q, hq, hqq⟩; rw [h] at this; cases this
      · exact hk k (by omega)
    · cbv
      subst hA
      exact ⟨congrArg (fun x => DV.v (.int .i64 x)) (up64 hlt' hn), trivial⟩
    · cbv; try (repeat' first | apply And.intro | exact True.intro | rfl)
    · cbv
  · rename_i hge
    refine congrArg (fun b => XA.one (.c (.d (eB b)))) ?_
    refine (hb.2 ⟨hpre.1, hpre.2.1, hpre.2.2, fun k hk' => ?_⟩).symm
    have hk' : k < n := hk'
    exact hk k (by subst hA; simp only [real, decide_eq_false_iff_not, Int.ofNat_eq_natCast] at hge; omega)
end Go.Rk
/- Counts and least numbers. -/
namespace Go.Rk
set_option linter.unusedSimpArgs false
set_option linter.unusedVariables false
theorem nex {b : Bool} {n : Nat} {P : Nat → Prop} (h : b = true ↔ ∃ i, i < n ∧ ¬ P i) : b = false ↔ ∀ i, i < n → P i := by
  rw [← Bool.not_eq_true, h]
  exact ⟨fun h i hi => Classical.byContradiction fun hn => h ⟨i, hi, hn⟩, fun h ⟨i, hi, hn⟩ => hn (h i hi)⟩
theorem room_add {A : Ar} (hA : real = A) {n m b : Nat} (hn : n + m ≤ 1048577) (hb : b ≤ 100000) : A.room (A.add n m) b := by
  subst hA
  have h1 : (n + m) * b ≤ 1048577 * 100000 := Nat.mul_le_mul hn hb
  exact ⟨Nat.le_trans h1 (by omega), Nat.le_trans hn (by omega)⟩
/-- One row more at the end. -/
theorem push_at {A : Ar} (hA : real = A) (n : Nat) (row : Nat → List DV) (x : List DV) (z : Nat → List DV) (k : Nat) (hk : k < n + 1) : A.app n row (A.sub 0 (A.app 1 (A.rep x) z)) k = if k < n then row k else x := by
  subst hA
  show (if k < n then row k else (if 0 + (k - n) < 1 then x else z (0 + (k - n) - 1))) = _
  split
  · rfl
  · rw [if_pos (by omega)]
theorem room_n {A : Ar} (hA : real = A) {n b : Nat} (hn : n ≤ 1048577) (hb : b ≤ 100000) : A.room n b := by
  subst hA
  have h1 : n * b ≤ 1048577 * 100000 := Nat.mul_le_mul hn hb
  exact ⟨by omega, by omega⟩
end Go.Rk
/- Windows of a time, and pairs of records and windows, as lists. -/
namespace Go.Rk
set_option linter.unusedSimpArgs false
set_option linter.unusedVariables false
def zWin : WinT := ⟨0, 0⟩
def zLat : LatT := ⟨⟨0, 0, 0, 0, 0⟩, ⟨0, 0⟩⟩
def slideF (size step t : Int) : Nat → Int → List WinT
  | 0, _ => []
  | k + 1, f => if f ≤ t then (if t < f + size then [⟨f, f + size⟩] else []) ++ slideF size step t k (f + step) else []
theorem slideF_len (size step t : Int) : ∀ k f, (slideF size step t k f).length ≤ k
  | 0, _ => Nat.le_refl _
  | k + 1, f => by
    have := slideF_len size step t k (f + step)
    unfold slideF
    split
    · rw [List.length_append]
      split <;> simp <;> omega
    · simp
theorem slideF_st {size step t : Int} (hs : 1 ≤ step) : ∀ k f, (t + 1 - f).toNat ≤ k → slideF size step t (k + 1) f = slideF size step t k f
  | 0, f, h => by
    unfold slideF
    rw [if_neg (by omega)]
  | k + 1, f, h => by
    have ih := slideF_st (size := size) (t := t) hs k (f + step)
    unfold slideF
    by_cases hf : f ≤ t
    · rw [if_pos hf, if_pos hf, ih (by omega)]
    · rw [if_neg hf, if_neg hf]
/-- One step of it, with room to spare. -/
theorem slideF_go {size step t f : Int} (hs : 1 ≤ step) (h0 : 0 ≤ f) (h1 : t ≤ 60) (hf : f ≤ t) : slideF size step t 100 f = (if t < f + size then [⟨f, f + size⟩] else []) ++ slideF size step t 100 (f + step) := by
  have e : slideF size step t 100 (f + step) = slideF size step t 99 (f + step) := slideF_st hs 99 (f + step) (by omega)
  rw [e]
  show slideF size step t (99 + 1) f = _
  unfold slideF
  rw [if_pos hf]
  rfl
theorem slideF_end {size step t f : Int} (hf : ¬ f ≤ t) : slideF size step t 100 f = [] := by
  show slideF size step t (99 + 1) f = _
  unfold slideF
  rw [if_neg hf]
def winFrom (j : JobT) (t : Int) : Int := if j.kind = 1 then t - t.tmod j.size else if j.kind = 2 then 0 else t
def winStep (j : JobT) : Int := if j.kind = 1 then j.size else if j.kind = 2 then j.step else 1
def winsL (j : JobT) (t : Int) : List WinT := slideF j.size (winStep j) t 100 (winFrom j t)
theorem winsL_len (j : JobT) (t : Int) : (winsL j t).length ≤ 100 := slideF_len _ _ _ _ _
theorem winsL_fixed {j : JobT} {t : Int} (hk : j.kind = 1) (hs : 1 ≤ j.size) (h0 : 0 ≤ t) (h1 : t ≤ 60) : winsL j t = [⟨t - t.tmod j.size, t - t.tmod j.size + j.size⟩] := by
  have a := Int.tmod_nonneg j.size h0
  have b := Int.tmod_lt_of_pos t (show 0 < j.size by omega)
  have c : t.tmod j.size ≤ t := by
    rw [Int.tmod_eq_emod_of_nonneg h0]
    have := Int.emod_add_mul_ediv t j.size
    have := Int.mul_nonneg (show 0 ≤ j.size by omega) (Int.ediv_nonneg h0 (show 0 ≤ j.size by omega))
    omega
  unfold winsL winStep winFrom
  rw [if_pos hk, if_pos hk, slideF_go hs (by omega) h1 (by omega), if_pos (by omega), slideF_end (by omega)]
  rfl
theorem winsL_sess {j : JobT} {t : Int} (hk : j.kind = 3) (hs : 1 ≤ j.size) (h0 : 0 ≤ t) (h1 : t ≤ 60) : winsL j t = [⟨t, t + j.size⟩] := by
  unfold winsL winStep winFrom
  rw [if_neg (by omega), if_neg (by omega), if_neg (by omega), if_neg (by omega), slideF_go (by omega) h0 h1 (by omega), if_pos (by omega), slideF_end (by omega)]
  rfl
def pairsL (j : JobT) (g : Nat → ItmT) : Nat → List LatT
  | 0 => []
  | i + 1 => pairsL j g i ++ (winsL j (g i).t).map fun w => ⟨g i, w⟩
theorem pairsL_len (j : JobT) (g : Nat → ItmT) : ∀ i, (pairsL j g i).length ≤ 100 * i
  | 0 => Nat.le_refl _
  | i + 1 => by
    have := pairsL_len j g i
    have := winsL_len j (g i).t
    unfold pairsL
    rw [List.length_append, List.length_map]
    omega
def RecP (x : ItmT) : Prop := x.kind = 1 ∧ ItmOkP x
theorem recP_t {x : ItmT} (h : RecP x) : 0 ≤ x.t ∧ x.t ≤ 60 := by
  obtain ⟨h1, h2⟩ := h
  unfold ItmOkP at h2
  omega
def SpcOkP (j : JobT) (m : Nat) (g : Nat → ItmT) : Prop := JobOkP j ∧ m ≤ 120 ∧ ∀ i, i < m → RecP (g i)
open Classical in
noncomputable def spcL (j : JobT) (m : Nat) (g : Nat → ItmT) : List LatT := if SpcOkP j m g then pairsL j g m else []
/-- The list that so many rows tell. -/
def Tells {α : Type} (z : α) (e : α → List DV) (l : List α) (n : Nat) (row : Nat → List DV) : Prop := n = l.length ∧ ∀ k, k < n → row k = e (l.getD k z)
theorem tells_snoc {α : Type} {z : α} {e : α → List DV} {l : List α} {n : Nat} {row row' : Nat → List DV} {x : α} (h : Tells z e l n row)
    (h' : ∀ k, k < n + 1 → row' k = if k < n then row k else e x) : Tells z e (l ++ [x]) (n + 1) row' := by
  obtain ⟨rfl, h2⟩ := h
  refine ⟨by simp, fun k hk => ?_⟩
  rw [h' k hk]
  by_cases hl : k < l.length
  · rw [if_pos hl, h2 k hl, List.getD_eq_getElem?_getD, List.getD_eq_getElem?_getD, List.getElem?_append_left hl]
  · have : k = l.length := by omega
    subst this
    rw [if_neg hl]
    simp
theorem take_succ_getD {α : Type} {z : α} {l : List α} {k : Nat} (h : k < l.length) : l.take (k + 1) = l.take k ++ [l.getD k z] := by
  rw [List.take_add_one, List.getElem?_eq_getElem h, List.getD_eq_getElem?_getD, List.getElem?_eq_getElem h]
  rfl
end Go.Rk
/- Rows of a table, as lists. -/
namespace Go.Rk
set_option linter.unusedSimpArgs false
set_option linter.unusedVariables false
def zTab : TabT := ⟨0, ⟨0, 0⟩, ⟨0, 0, 0, 0⟩⟩
def IsRow (key : Int) (w : WinT) (r : TabT) : Prop := r.key = key ∧ (r.win.s = w.s ∧ r.win.e = w.e)
instance (key : Int) (w : WinT) (r : TabT) : Decidable (IsRow key w r) := inferInstanceAs (Decidable (_ ∧ _))
def Ahead (r q : TabT) : Prop := r.key < q.key ∨ (r.key = q.key ∧ (r.win.s < q.win.s ∨ (r.win.s = q.win.s ∧ r.win.e < q.win.e)))
instance (r q : TabT) : Decidable (Ahead r q) := inferInstanceAs (Decidable (_ ∨ _))
/-- A list, by its number and its members. -/
def Lst {α : Type} (z : α) (l : List α) (n : Nat) (g : Nat → α) : Prop := n = l.length ∧ ∀ k, k < n → g k = l.getD k z
theorem lst_self {α : Type} (z : α) (l : List α) : Lst z l l.length (fun k => l.getD k z) := ⟨rfl, fun _ _ => rfl⟩
theorem lst_tells {α : Type} {z : α} {l : List α} {n : Nat} {g : Nat → α} (e : α → List DV) (h : Lst z l n g) : Tells z e l n (fun i => e (g i)) := ⟨h.1, fun k hk => congrArg e (h.2 k hk)⟩
theorem lst_take {α : Type} {z : α} {l : List α} {n : Nat} {g : Nat → α} (h : Lst z l n g) {i : Nat} (hi : i < n) : l.take (i + 1) = l.take i ++ [g i] := by
  rw [h.2 i hi]
  exact take_succ_getD (by rw [← h.1]; exact hi)
theorem lst_all {α : Type} {z : α} {l : List α} {n : Nat} {g : Nat → α} (h : Lst z l n g) : l.take n = l := by rw [h.1, List.take_length]
theorem lst_drop {α : Type} {z : α} {l : List α} {n : Nat} {g : Nat → α} (h : Lst z l n g) {i : Nat} (hi : i < n) : l.drop i = g i :: l.drop (i + 1) := by
  have hl : i < l.length := by rw [← h.1]; exact hi
  rw [List.drop_eq_getElem_cons hl, h.2 i hi, List.getD_eq_getElem?_getD, List.getElem?_eq_getElem hl]
  rfl
theorem lst_mem {α : Type} {z : α} {l : List α} {n : Nat} {g : Nat → α} (h : Lst z l n g) {x : α} (hx : x ∈ l) : ∃ k, k < n ∧ g k = x := by
  obtain ⟨k, hk⟩ := List.mem_iff_getElem?.1 hx
  have hl : k < l.length := (List.getElem?_eq_some_iff.1 hk).1
  refine ⟨k, by rw [h.1]; exact hl, ?_⟩
  rw [h.2 k (by rw [h.1]; exact hl), List.getD_eq_getElem?_getD, hk]
  rfl
/-- From a function that has so many members. -/
theorem lst_of {α : Type} (z : α) (n : Nat) (g : Nat → α) : Lst z ((List.range n).map g) n g := by
  refine ⟨by simp, fun k hk => ?_⟩
  rw [List.getD_eq_getElem?_getD, List.getElem?_map, List.getElem?_range hk]
  rfl
def tOut (key : Int) (w : WinT) : List TabT → List TabT
  | [] => []
  | r :: l => if IsRow key w r then tOut key w l else r :: tOut key w l
theorem tOut_app (key : Int) (w : WinT) : ∀ l m, tOut key w (l ++ m) = tOut key w l ++ tOut key w m
  | [], _ => rfl
  | r :: l, m => by
    show (if IsRow key w r then tOut key w (l ++ m) else r :: tOut key w (l ++ m)) = _
    rw [tOut_app key w l m]
    show _ = (if IsRow key w r then tOut key w l else r :: tOut key w l) ++ tOut key w m
    split <;> rfl
theorem tOut_len (key : Int) (w : WinT) : ∀ l, (tOut key w l).length ≤ l.length
  | [] => Nat.le_refl _
  | r :: l => by
    have := tOut_len key w l
    show (if IsRow key w r then tOut key w l else r :: tOut key w l).length ≤ _
    split <;> simp <;> omega
theorem tOut_in {key : Int} {w : WinT} {r : TabT} : ∀ {l : List TabT}, r ∈ tOut key w l ↔ r ∈ l ∧ ¬ IsRow key w r
  | [] => ⟨fun h => absurd h (List.not_mem_nil), fun h => absurd h.1 (List.not_mem_nil)⟩
  | q :: l => by
    show r ∈ (if IsRow key w q then tOut key w l else q :: tOut key w l) ↔ _
    split
    · rename_i h
      rw [tOut_in, List.mem_cons]
      constructor
      · rintro ⟨h1, h2⟩; exact ⟨.inr h1, h2⟩
      · rintro ⟨rfl | h1, h2⟩
        · exact absurd h h2
        · exact ⟨h1, h2⟩
    · rename_i h
      rw [List.mem_cons, List.mem_cons, tOut_in]
      constructor
      · rintro (rfl | ⟨h1, h2⟩)
        · exact ⟨.inl rfl, h⟩
        · exact ⟨.inr h1, h2⟩
      · rintro ⟨rfl | h1, h2⟩
        · exact .inl rfl
        · exact .inr ⟨h1, h2⟩
def tIns (r : TabT) : List TabT → List TabT
  | [] => [r]
  | q :: l => if Ahead r q then r :: q :: l else q :: tIns r l
theorem tIns_len (r : TabT) : ∀ l, (tIns r l).length = l.length + 1
  | [] => rfl
  | q :: l => by
    have := tIns_len r l
    show (if Ahead r q then r :: q :: l else q :: tIns r l).length = _
    split <;> simp <;> omega
/-- At the first place that it stands ahead of. -/
theorem tIns_at (r : TabT) : ∀ (l : List TabT) (i : Nat), (∀ x, x ∈ l.take i → ¬ Ahead r x) → (∀ x, l[i]? = some x → Ahead r x) → i ≤ l.length → tIns r l = l.take i ++ r :: l.drop i
  | [], i, _, _, h => by
    have : i = 0 := by simpa using h
    subst this
    rfl
  | q :: l, 0, _, h2, _ => by
    show (if Ahead r q then r :: q :: l else q :: tIns r l) = _
    rw [if_pos (h2 q rfl)]
    rfl
  | q :: l, i + 1, h1, h2, h3 => by
    show (if Ahead r q then r :: q :: l else q :: tIns r l) = _
    rw [if_neg (h1 q (by simp)), tIns_at r l i (fun x hx => h1 x (by rw [List.take_succ_cons]; exact List.mem_cons_of_mem _ hx)) (fun x hx => h2 x hx) (by simpa using h3)]
    rfl
def tPut (r : TabT) (l : List TabT) : List TabT := tIns r (tOut r.key r.win l)
theorem tPut_len (r : TabT) (l : List TabT) : (tPut r l).length ≤ l.length + 1 := by
  unfold tPut
  rw [tIns_len]
  have := tOut_len r.key r.win l
  omega
def tFind (key : Int) (w : WinT) : List TabT → Option AggT
  | [] => none
  | r :: l => if IsRow key w r then some r.agg else tFind key w l
theorem tFind_app (key : Int) (w : WinT) (r : TabT) : ∀ l m, (∀ x, x ∈ l → ¬ IsRow key w x) → tFind key w (l ++ m) = tFind key w m
  | [], _, _ => rfl
  | q :: l, m, h => by
    show (if IsRow key w q then some q.agg else tFind key w (l ++ m)) = _
    rw [if_neg (h q (by simp)), tFind_app key w r l m fun x hx => h x (List.mem_cons_of_mem _ hx)]
theorem room_add2 {A : Ar} (hA : real = A) {n m b : Nat} (hn : n + m ≤ 2000000) (hb : b ≤ 100000) : A.room (A.add n m) b := by
  subst hA
  have h1 : (n + m) * b ≤ 2000000 * 100000 := Nat.mul_le_mul hn hb
  exact ⟨Nat.le_trans h1 (by omega), Nat.le_trans hn (by omega)⟩
theorem lt_of {A : Ar} (hA : real = A) {i n : Nat} (h : A.cmp .lss (Int.ofNat i) (A.int n) = true) : i < n := by
  subst hA
  have h : decide ((i : Int) < (n : Int)) = true := h
  rw [decide_eq_true_eq] at h
  omega
theorem ge_of {A : Ar} (hA : real = A) {i n : Nat} (h : A.cmp .lss (Int.ofNat i) (A.int n) = false) : n ≤ i := by
  subst hA
  have h : decide ((i : Int) < (n : Int)) = false := h
  rw [decide_eq_false_iff_not] at h
  omega
theorem inb_lt {A : Ar} (hA : real = A) {g : Bool} {i n : Nat} (h : i < n) : A.inb g (Int.ofNat i) n := by
  refine inb_of hA fun _ => ?_
  have e : Int.ofNat i = (i : Int) := rfl
  rw [e]
  omega
def zAgg : AggT := ⟨0, 0, 0, 0⟩
/-- A row that is put in its place, told by numbers. -/
theorem tIns_lst {r : TabT} {l : List TabT} {n0 n1 i : Nat} {G0 G : Nat → TabT} (h0 : Lst zTab l n0 G0) (h1 : Lst zTab (tIns r l) n1 G) (hi : i ≤ n0) (ha : ∀ k, k < i → ¬ Ahead r (G0 k)) (hb : i < n0 → Ahead r (G0 i)) :
    n1 = n0 + 1 ∧ ∀ k, k < n0 + 1 → G k = if k < i then G0 k else if k = i then r else G0 (k - 1) := by
  have e : tIns r l = l.take i ++ r :: l.drop i := by
    refine tIns_at r l i (fun x hx => ?_) (fun x hx => ?_) (by rw [← h0.1]; exact hi)
    · obtain ⟨k, hk⟩ := List.mem_iff_getElem?.1 hx
      rw [List.getElem?_take] at hk
      split at hk
      · rename_i hki
        have := h0.2 k (by omega)
        rw [List.getD_eq_getElem?_getD, hk] at this
        have := ha k hki
        simp_all
      · cases hk
    · have hin : i < n0 := by rw [h0.1]; exact (List.getElem?_eq_some_iff.1 hx).1
      have := h0.2 i hin
      rw [List.getD_eq_getElem?_getD, hx] at this
      have := hb hin
      simp_all
  have hlen := tIns_len r l
  have hn1 : n1 = n0 + 1 := by rw [h1.1, hlen, h0.1]
  refine ⟨hn1, fun k hk => ?_⟩
  have htl : (l.take i).length = i := by rw [List.length_take, ← h0.1]; omega
  rw [h1.2 k (by omega), e, List.getD_eq_getElem?_getD]
  by_cases hki : k < i
  · rw [if_pos hki, List.getElem?_append_left (by omega), List.getElem?_take, if_pos hki, h0.2 k (by omega), List.getD_eq_getElem?_getD]
  · rw [if_neg hki, List.getElem?_append_right (by omega), htl]
    by_cases hk2 : k = i
    · rw [if_pos hk2, hk2, Nat.sub_self]; rfl
    · rw [if_neg hk2, show k - i = (k - 1 - i) + 1 by omega, List.getElem?_cons_succ, List.getElem?_drop, show i + (k - 1 - i) = k - 1 by omega, h0.2 (k - 1) (by omega), List.getD_eq_getElem?_getD]
theorem tFind_first {key : Int} {w : WinT} {l : List TabT} {n i : Nat} {g : Nat → TabT} (h : Lst zTab l n g) (hi : i < n) (hq : IsRow key w (g i)) (hb : ∀ k, k < i → ¬ IsRow key w (g k)) : tFind key w l = some (g i).agg := by
  have e : l = l.take i ++ l.drop i := (List.take_append_drop i l).symm
  rw [e, tFind_app key w (g i) _ _ (fun x hx => ?_), lst_drop h hi]
  · show (if IsRow key w (g i) then some (g i).agg else _) = _
    rw [if_pos hq]
  · obtain ⟨k, hk⟩ := List.mem_iff_getElem?.1 hx
    rw [List.getElem?_take] at hk
    split at hk
    · rename_i hki
      have h2 := h.2 k (by omega)
      rw [List.getD_eq_getElem?_getD, hk] at h2
      have h2 : g k = x := h2
      rw [← h2]
      exact hb k hki
    · cases hk
theorem tFind_none {key : Int} {w : WinT} {l : List TabT} {n : Nat} {g : Nat → TabT} (h : Lst zTab l n g) (hb : ∀ k, k < n → ¬ IsRow key w (g k)) : tFind key w l = none := by
  have := tFind_app key w zTab l [] (fun x hx => by obtain ⟨k, hk, rfl⟩ := lst_mem h hx; exact hb k hk)
  rw [List.append_nil] at this
  rw [this]; rfl
end Go.Rk
/- What is known of values, by lists; tables that records lead to. -/
namespace Go.Rk
set_option linter.unusedSimpArgs false
set_option linter.unusedVariables false
def aggB (a b : AggT) : AggT := if a.n = 0 then b else if b.n = 0 then a else ⟨w64 (a.n + b.n), w64 (a.sum + b.sum), if b.least < a.least then b.least else a.least, if a.most < b.most then b.most else a.most⟩
def agg1 (v : Int) : AggT := ⟨1, v, v, v⟩
def aggAdd (a : AggT) (v : Int) : AggT := aggB a (agg1 v)
theorem aggB_z (a : AggT) : aggB zAgg a = a := rfl
def sumI : List Int → Int
  | [] => 0
  | x :: l => x + sumI l
theorem sumI_app : ∀ l m, sumI (l ++ m) = sumI l + sumI m
  | [], m => by simp [sumI]
  | x :: l, m => by simp [sumI, sumI_app l m]; omega
theorem sumI_perm {l m : List Int} (h : l.Perm m) : sumI l = sumI m := by
  induction h with
  | nil => rfl
  | cons x _ ih => simp [sumI, ih]
  | swap x y l => simp [sumI]; omega
  | trans _ _ h1 h2 => exact h1.trans h2
theorem sumI_bd : ∀ l : List Int, (∀ x, x ∈ l → -9 ≤ x ∧ x ≤ 9) → -9 * (l.length : Int) ≤ sumI l ∧ sumI l ≤ 9 * (l.length : Int)
  | [], _ => by simp [sumI]
  | x :: l, h => by
    have h1 := h x (by simp)
    have h2 := sumI_bd l fun y hy => h y (List.mem_cons_of_mem _ hy)
    simp only [sumI, List.length_cons, Int.natCast_add, Int.natCast_one]
    omega
/-- What is known of just these values. -/
structure AggIs (a : AggT) (L : List Int) : Prop where
  n : a.n = (L.length : Int)
  sum : a.sum = sumI L
  z : L = [] → a = zAgg
  nz : L ≠ [] → a.least ∈ L ∧ a.most ∈ L ∧ ∀ x, x ∈ L → a.least ≤ x ∧ x ≤ a.most
theorem aggIs_nil : AggIs zAgg [] := ⟨rfl, rfl, fun _ => rfl, fun h => absurd rfl h⟩
theorem aggIs_one (v : Int) : AggIs (agg1 v) [v] := ⟨rfl, by simp [agg1, sumI], fun h => by simp at h, fun _ => ⟨by simp [agg1], by simp [agg1], fun x hx => by simp at hx; subst hx; exact ⟨Int.le_refl _, Int.le_refl _⟩⟩⟩
theorem aggIs_uniq {a b : AggT} {L M : List Int} (ha : AggIs a L) (hb : AggIs b M) (h : L.Perm M) : a = b := by
  by_cases hL : L = []
  · have hM : M = [] := by subst hL; exact List.nil_perm.1 h
    rw [ha.z hL, hb.z hM]
  · have hM : M ≠ [] := fun e => hL (by subst e; exact List.perm_nil.1 h)
    obtain ⟨a1, a2, a3⟩ := ha.nz hL
    obtain ⟨b1, b2, b3⟩ := hb.nz hM
    have e1 : a.n = b.n := by rw [ha.n, hb.n, h.length_eq]
    have e2 : a.sum = b.sum := by rw [ha.sum, hb.sum, sumI_perm h]
    have h1 := a3 _ (h.mem_iff.2 b1)
    have h2 := b3 _ (h.mem_iff.1 a1)
    have h3 := a3 _ (h.mem_iff.2 b2)
    have h4 := b3 _ (h.mem_iff.1 a2)
    have e3 : a.least = b.least := by omega
    have e4 : a.most = b.most := by omega
    cases a; cases b; simp_all
theorem w64_in (x : Int) (h : -9223372036854775808 ≤ x ∧ x ≤ 9223372036854775807) : w64 x = x := IntWalk.i64_in x h
theorem aggB_is {a b : AggT} {L M : List Int} (ha : AggIs a L) (hb : AggIs b M) (hv : ∀ x, x ∈ L ++ M → -9 ≤ x ∧ x ≤ 9) (hn : (L ++ M).length ≤ 1000000) : AggIs (aggB a b) (L ++ M) := by
  unfold aggB
  by_cases hL : L = []
  · have := ha.z hL
    subst hL; rw [this]
    exact hb
  · have hl : L.length ≠ 0 := fun e => hL (List.length_eq_zero_iff.1 e)
    rw [if_neg (by rw [ha.n]; omega)]
    by_cases hM : M = []
    · have := hb.z hM
      subst hM; rw [this, List.append_nil]
      rw [if_pos (show zAgg.n = 0 from rfl)]
      exact ha
    · have hm : M.length ≠ 0 := fun e => hM (List.length_eq_zero_iff.1 e)
      rw [if_neg (by rw [hb.n]; omega)]
      obtain ⟨a1, a2, a3⟩ := ha.nz hL
      obtain ⟨b1, b2, b3⟩ := hb.nz hM
      have s1 := sumI_bd L fun x hx => hv x (List.mem_append_left _ hx)
      have s2 := sumI_bd M fun x hx => hv x (List.mem_append_right _ hx)
      rw [List.length_append] at hn
      refine ⟨?_, ?_, fun e => absurd (List.append_eq_nil_iff.1 e).1 hL, fun _ => ⟨?_, ?_, fun x hx => ?_⟩⟩
      · show w64 (a.n + b.n) = _
        rw [w64_in _ (by rw [ha.n, hb.n]; omega), ha.n, hb.n, List.length_append]
        omega
      · show w64 (a.sum + b.sum) = _
        rw [w64_in _ (by rw [ha.sum, hb.sum]; omega), ha.sum, hb.sum, sumI_app]
      · show (if b.least < a.least then b.least else a.least) ∈ _
        split
        · exact List.mem_append_right _ b1
        · exact List.mem_append_left _ a1
      · show (if a.most < b.most then b.most else a.most) ∈ _
        split
        · exact List.mem_append_right _ b2
        · exact List.mem_append_left _ a2
      · show (if b.least < a.least then b.least else a.least) ≤ x ∧ x ≤ (if a.most < b.most then b.most else a.most)
        rcases List.mem_append.1 hx with h | h
        · have := a3 x h
          constructor <;> split <;> omega
        · have := b3 x h
          constructor <;> split <;> omega
/-- Lists that rise are told by their members. -/
theorem sorted_ext {α : Type} {lt : α → α → Prop} (irr : ∀ a, ¬ lt a a) (tr : ∀ a b c, lt a b → lt b c → lt a c) : ∀ {l m : List α}, l.Pairwise lt → m.Pairwise lt → (∀ x, x ∈ l ↔ x ∈ m) → l = m
  | [], [], _, _, _ => rfl
  | [], b :: m, _, _, h => absurd ((h b).2 (by simp)) (by simp)
  | a :: l, [], _, _, h => absurd ((h a).1 (by simp)) (by simp)
  | a :: l, b :: m, hl, hm, h => by
    rw [List.pairwise_cons] at hl hm
    have hab : a = b := by
      rcases List.mem_cons.1 ((h a).1 (by simp)) with e | e
      · exact e
      · rcases List.mem_cons.1 ((h b).2 (by simp)) with f | f
        · exact f.symm
        · exact absurd (tr _ _ _ (hl.1 b f) (hm.1 a e)) (irr a)
    subst hab
    refine congrArg (a :: ·) (sorted_ext irr tr hl.2 hm.2 fun x => ⟨fun hx => ?_, fun hx => ?_⟩)
    · rcases List.mem_cons.1 ((h x).1 (List.mem_cons_of_mem _ hx)) with e | e
      · subst e; exact absurd (hl.1 x hx) (irr x)
      · exact e
    · rcases List.mem_cons.1 ((h x).2 (List.mem_cons_of_mem _ hx)) with e | e
      · subst e; exact absurd (hm.1 x hx) (irr x)
      · exact e
theorem ahead_irr (a : TabT) : ¬ Ahead a a := by unfold Ahead; omega
theorem ahead_tr (a b c : TabT) (h : Ahead a b) (h' : Ahead b c) : Ahead a c := by unfold Ahead at *; omega
theorem ahead_tot {r q : TabT} (h : ¬ Ahead r q) (h' : ¬ IsRow r.key r.win q) : Ahead q r := by unfold Ahead at *; unfold IsRow at h'; omega
abbrev Rise (l : List TabT) : Prop := l.Pairwise Ahead
theorem rise_two {l : List TabT} (h : Rise l) {r q : TabT} (hr : r ∈ l) (hq : q ∈ l) (e : IsRow r.key r.win q) : r = q := by
  induction l with
  | nil => simp at hr
  | cons a l ih =>
    rw [Rise, List.pairwise_cons] at h
    rcases List.mem_cons.1 hr with e1 | h1 <;> rcases List.mem_cons.1 hq with e2 | h2
    · rw [e1, e2]
    · have := h.1 q h2; rw [← e1] at this; unfold Ahead at this; unfold IsRow at e; omega
    · have := h.1 r h1; rw [← e2] at this; unfold Ahead at this; unfold IsRow at e; omega
    · exact ih h.2 h1 h2
theorem mem_tIns {r x : TabT} : ∀ {l : List TabT}, x ∈ tIns r l ↔ x = r ∨ x ∈ l
  | [] => by simp [tIns]
  | q :: l => by
    show x ∈ (if Ahead r q then r :: q :: l else q :: tIns r l) ↔ _
    split
    · simp
    · rw [List.mem_cons, mem_tIns, List.mem_cons]
      exact ⟨fun h => h.elim (fun e => .inr (.inl e)) (fun h => h.imp id .inr), fun h => h.elim (fun e => .inr (.inl e)) (fun h => h.elim .inl fun h => .inr (.inr h))⟩
theorem rise_tIns {r : TabT} : ∀ {l : List TabT}, Rise l → (∀ q, q ∈ l → ¬ IsRow r.key r.win q) → Rise (tIns r l)
  | [], _, _ => by simp [tIns, Rise]
  | q :: l, h, hn => by
    have h' := h
    rw [Rise, List.pairwise_cons] at h
    show Rise (if Ahead r q then r :: q :: l else q :: tIns r l)
    split
    · rename_i ha
      rw [Rise, List.pairwise_cons]
      refine ⟨fun x hx => ?_, h'⟩
      rcases List.mem_cons.1 hx with rfl | hx
      · exact ha
      · exact ahead_tr _ _ _ ha (h.1 x hx)
    · rename_i ha
      rw [Rise, List.pairwise_cons]
      refine ⟨fun x hx => ?_, rise_tIns h.2 fun y hy => hn y (List.mem_cons_of_mem _ hy)⟩
      rcases mem_tIns.1 hx with rfl | hx
      · exact ahead_tot ha (hn q (by simp))
      · exact h.1 x hx
theorem tOut_filter (key : Int) (w : WinT) : ∀ l, tOut key w l = l.filter fun r => !decide (IsRow key w r)
  | [] => rfl
  | r :: l => by
    show (if IsRow key w r then tOut key w l else r :: tOut key w l) = _
    rw [List.filter_cons, tOut_filter key w l]
    by_cases h : IsRow key w r <;> simp [h]
theorem rise_tOut {key : Int} {w : WinT} {l : List TabT} (h : Rise l) : Rise (tOut key w l) := by
  rw [tOut_filter]; exact h.sublist List.filter_sublist
theorem mem_tPut {r x : TabT} {l : List TabT} : x ∈ tPut r l ↔ x = r ∨ (x ∈ l ∧ ¬ IsRow r.key r.win x) := by
  unfold tPut; rw [mem_tIns, tOut_in]
theorem rise_tPut {r : TabT} {l : List TabT} (h : Rise l) : Rise (tPut r l) := rise_tIns (rise_tOut h) fun _ hq => (tOut_in.1 hq).2
theorem tFind_some {key : Int} {w : WinT} {a : AggT} : ∀ {l : List TabT}, tFind key w l = some a → ∃ r, r ∈ l ∧ IsRow key w r ∧ r.agg = a
  | [], h => by cases h
  | r :: l, h => by
    have h : (if IsRow key w r then some r.agg else tFind key w l) = some a := h
    split at h
    · rename_i hr
      exact ⟨r, by simp, hr, by simpa using h⟩
    · obtain ⟨q, h1, h2⟩ := tFind_some h
      exact ⟨q, List.mem_cons_of_mem _ h1, h2⟩
theorem tFind_no {key : Int} {w : WinT} : ∀ {l : List TabT}, tFind key w l = none → ∀ r, r ∈ l → ¬ IsRow key w r
  | [], _, r, hr => by simp at hr
  | q :: l, h, r, hr => by
    have h : (if IsRow key w q then some q.agg else tFind key w l) = none := h
    split at h
    · cases h
    · rename_i hq
      rcases List.mem_cons.1 hr with rfl | hr
      · exact hq
      · exact tFind_no h r hr
theorem tFind_rise {key : Int} {w : WinT} {l : List TabT} (h : Rise l) {r : TabT} (hr : r ∈ l) (e : IsRow key w r) : tFind key w l = some r.agg := by
  cases hf : tFind key w l with
  | none => exact absurd e (tFind_no hf r hr)
  | some a =>
    obtain ⟨q, h1, h2, h3⟩ := tFind_some hf
    have : r = q := rise_two h hr h1 (by unfold IsRow at *; omega)
    rw [this, h3]
def tCnt : List TabT → Int
  | [] => 0
  | r :: l => r.agg.n + tCnt l
theorem tCnt_app : ∀ l m, tCnt (l ++ m) = tCnt l + tCnt m
  | [], m => by simp [tCnt]
  | r :: l, m => by simp [tCnt, tCnt_app l m]; omega
theorem tCnt_ins (r : TabT) : ∀ l, tCnt (tIns r l) = r.agg.n + tCnt l
  | [] => rfl
  | q :: l => by
    show tCnt (if Ahead r q then r :: q :: l else q :: tIns r l) = _
    split
    · rfl
    · simp only [tCnt, tCnt_ins r l]; omega
theorem tOut_none {key : Int} {w : WinT} {l : List TabT} (h : ∀ q, q ∈ l → ¬ IsRow key w q) : tOut key w l = l := by
  rw [tOut_filter, List.filter_eq_self]
  intro q hq
  simp [h q hq]
theorem tCnt_out {key : Int} {w : WinT} : ∀ {l : List TabT}, Rise l → tCnt (tOut key w l) + ((tFind key w l).getD zAgg).n = tCnt l
  | [], _ => rfl
  | r :: l, h => by
    have h' := h
    rw [Rise, List.pairwise_cons] at h
    show tCnt (if IsRow key w r then tOut key w l else r :: tOut key w l) + ((if IsRow key w r then some r.agg else tFind key w l).getD zAgg).n = r.agg.n + tCnt l
    split
    · rename_i hr
      rw [tOut_none fun q hq e => absurd (h.1 q hq) (by unfold Ahead; unfold IsRow at hr e; omega)]
      show _ + r.agg.n = _
      omega
    · have := tCnt_out (key := key) (w := w) h.2
      simp only [tCnt]; omega
end Go.Rk
/- Tables of pairs of records and windows: what they say, and that they hang on no order. -/
namespace Go.Rk
set_option linter.unusedSimpArgs false
set_option linter.unusedVariables false
def winSpan (a b : WinT) : WinT := ⟨if b.s < a.s then b.s else a.s, if a.e < b.e then b.e else a.e⟩
def tchD (k : Int) (w : WinT) (r : TabT) : Bool := decide (r.key = k ∧ r.win.s < w.e ∧ w.s < r.win.e)
def sessS (k : Int) (w : WinT) (v : Int) (T : List TabT) : List TabT :=
  tPut ⟨k, ((T.filter (tchD k w)).map (·.win)).foldl winSpan w, ((T.filter (tchD k w)).map (·.agg)).foldl aggB (agg1 v)⟩ (T.filter fun r => !tchD k w r)
def sessI (k : Int) (w : WinT) (v : Int) (T : List TabT) : List TabT :=
  tPut ⟨k, ((T.filter (tchD k w)).map (·.win)).foldl winSpan w, aggAdd (((T.filter (tchD k w)).map (·.agg)).foldl aggB zAgg) v⟩ (T.filter fun r => !tchD k w r)
def stepW (k : Int) (w : WinT) (v : Int) (T : List TabT) : List TabT := tPut ⟨k, w, aggAdd ((tFind k w T).getD zAgg) v⟩ T
def stepS (kind : Int) (T : List TabT) (l : LatT) : List TabT := if kind = 3 then sessS l.itm.key l.win l.itm.v T else stepW l.itm.key l.win l.itm.v T
def stepI (kind : Int) (T : List TabT) (l : LatT) : List TabT := if kind = 3 then sessI l.itm.key l.win l.itm.v T else stepW l.itm.key l.win l.itm.v T
/-- Pairs of which all is small. -/
def Fine (P : List LatT) : Prop := P.length ≤ 100000 ∧ ∀ l, l ∈ P → l.win.s < l.win.e ∧ -9 ≤ l.itm.v ∧ l.itm.v ≤ 9
def valsW (k : Int) (w : WinT) (P : List LatT) : List Int := (P.filter fun l => decide (l.itm.key = k ∧ l.win.s = w.s ∧ l.win.e = w.e)).map (·.itm.v)
def valsS (k : Int) (w : WinT) (P : List LatT) : List Int := (P.filter fun l => decide (l.itm.key = k ∧ w.s ≤ l.win.s ∧ l.win.s < w.e)).map (·.itm.v)
theorem vals_bd {P : List LatT} (h : Fine P) {p : LatT → Bool} : ∀ x, x ∈ (P.filter p).map (·.itm.v) → -9 ≤ x ∧ x ≤ 9 := by
  intro x hx
  obtain ⟨l, hl, rfl⟩ := List.mem_map.1 hx
  exact (h.2 l (List.mem_filter.1 hl).1).2
theorem vals_len {P : List LatT} {p : LatT → Bool} : ((P.filter p).map (·.itm.v)).length ≤ P.length := by
  rw [List.length_map]; exact List.length_filter_le _ _
/-! ## Windows that do not grow -/
structure InvW (P : List LatT) (T : List TabT) : Prop where
  rise : Rise T
  row : ∀ r, r ∈ T → valsW r.key r.win P ≠ [] ∧ AggIs r.agg (valsW r.key r.win P)
  has : ∀ l, l ∈ P → ∃ r, r ∈ T ∧ IsRow l.itm.key l.win r
theorem valsW_snoc (k : Int) (w : WinT) (P : List LatT) (l : LatT) : valsW k w (P ++ [l]) = valsW k w P ++ if l.itm.key = k ∧ l.win.s = w.s ∧ l.win.e = w.e then [l.itm.v] else [] := by
  unfold valsW
  rw [List.filter_append, List.map_append]
  by_cases h : l.itm.key = k ∧ l.win.s = w.s ∧ l.win.e = w.e
  · have hd : decide (l.itm.key = k ∧ l.win.s = w.s ∧ l.win.e = w.e) = true := decide_eq_true h
    simp only [List.filter_cons, List.filter_nil, hd, if_pos h, if_true, List.map_cons, List.map_nil]
  · have hd : decide (l.itm.key = k ∧ l.win.s = w.s ∧ l.win.e = w.e) = false := decide_eq_false h
    simp only [List.filter_cons, List.filter_nil, hd, if_neg h, Bool.false_eq_true, if_false, List.map_nil]
theorem valsW_row {k : Int} {w : WinT} {r : TabT} (h : IsRow k w r) (P : List LatT) : valsW r.key r.win P = valsW k w P := by
  unfold valsW; obtain ⟨h1, h2, h3⟩ := h; rw [h1, h2, h3]
theorem invW_step {P : List LatT} {T : List TabT} {l : LatT} (h : InvW P T) (hf : Fine (P ++ [l])) : InvW (P ++ [l]) (stepW l.itm.key l.win l.itm.v T) ∧ tCnt (stepW l.itm.key l.win l.itm.v T) = tCnt T + 1 := by
  have hfp : Fine P := ⟨by have := hf.1; rw [List.length_append] at this; omega, fun x hx => hf.2 x (List.mem_append_left _ hx)⟩
  have hv := (hf.2 l (by simp)).2
  have hlen := hf.1
  rw [List.length_append] at hlen
  have hlen : P.length + 1 ≤ 100000 := hlen
  have hagg : AggIs ((tFind l.itm.key l.win T).getD zAgg) (valsW l.itm.key l.win P) := by
    cases hfi : tFind l.itm.key l.win T with
    | some a =>
      obtain ⟨r, hr, hi, rfl⟩ := tFind_some hfi
      have := (h.row r hr).2
      rwa [valsW_row hi] at this
    | none =>
      have e : valsW l.itm.key l.win P = [] := by
        unfold valsW
        rw [List.map_eq_nil_iff, List.filter_eq_nil_iff]
        intro x hx hc
        obtain ⟨r, hr, hi⟩ := h.has x hx
        simp at hc
        exact tFind_no hfi r hr (by unfold IsRow at *; omega)
      rw [e]; exact aggIs_nil
  have hnew : AggIs (aggAdd ((tFind l.itm.key l.win T).getD zAgg) l.itm.v) (valsW l.itm.key l.win (P ++ [l])) := by
    rw [valsW_snoc, if_pos ⟨rfl, rfl, rfl⟩]
    refine aggB_is hagg (aggIs_one _) (fun x hx => ?_) ?_
    · rcases List.mem_append.1 hx with hx | hx
      · exact vals_bd hfp x hx
      · simp at hx; subst hx; exact hv
    · rw [List.length_append]
      have : (valsW l.itm.key l.win P).length ≤ P.length := vals_len
      simp; omega
  refine ⟨⟨rise_tPut h.rise, fun r hr => ?_, fun x hx => ?_⟩, ?_⟩
  · rcases mem_tPut.1 hr with rfl | ⟨hr, hn⟩
    · refine ⟨?_, hnew⟩
      show valsW l.itm.key l.win _ ≠ []
      rw [valsW_snoc, if_pos ⟨rfl, rfl, rfl⟩]
      simp
    · rw [valsW_snoc, if_neg (fun e => hn ⟨e.1.symm, e.2.1.symm, e.2.2.symm⟩), List.append_nil]
      exact h.row r hr
  · by_cases he : IsRow l.itm.key l.win ⟨x.itm.key, x.win, zAgg⟩
    · exact ⟨_, mem_tPut.2 (.inl rfl), by unfold IsRow at *; simp only at *; omega⟩
    · rcases List.mem_append.1 hx with hx | hx
      · obtain ⟨r, hr, hi⟩ := h.has x hx
        exact ⟨r, mem_tPut.2 (.inr ⟨hr, by unfold IsRow at *; simp only at *; omega⟩), hi⟩
      · simp at hx; subst hx; exact absurd ⟨rfl, rfl, rfl⟩ he
  · unfold stepW tPut
    rw [tCnt_ins]
    have h1 := tCnt_out (key := l.itm.key) (w := l.win) h.rise
    have h2 := hagg.n
    have h3 := hnew.n
    rw [valsW_snoc, if_pos ⟨rfl, rfl, rfl⟩, List.length_append] at h3
    simp only [List.length_singleton] at h3
    show (aggAdd _ _).n + tCnt (tOut l.itm.key l.win T) = _
    omega
theorem invW_uniq {P P' : List LatT} {T T' : List TabT} (h : InvW P T) (h' : InvW P' T') (hp : P.Perm P') : T = T' := by
  refine sorted_ext ahead_irr ahead_tr h.rise h'.rise ?_
  have key : ∀ {P P' : List LatT} {T T' : List TabT}, InvW P T → InvW P' T' → P.Perm P' → ∀ r, r ∈ T → r ∈ T' := by
    intro P P' T T' h h' hp r hr
    obtain ⟨h1, h2⟩ := h.row r hr
    obtain ⟨x, hx⟩ := List.exists_mem_of_ne_nil _ h1
    obtain ⟨l, hl, _⟩ := List.mem_map.1 hx
    obtain ⟨hl, hc⟩ := List.mem_filter.1 hl
    simp at hc
    obtain ⟨q, hq, hi⟩ := h'.has l (hp.mem_iff.1 hl)
    have hi' : IsRow q.key q.win r := by unfold IsRow at *; omega
    have e := valsW_row hi' P
    have hq2 := (h'.row q hq).2
    have ea : r.agg = q.agg := by
      refine aggIs_uniq h2 hq2 ?_
      rw [e]
      exact (hp.filter _).map _
    have : r = q := by
      obtain ⟨k, ⟨s, e⟩, a⟩ := r; obtain ⟨k', ⟨s', e'⟩, a'⟩ := q
      unfold IsRow at hi'; simp only at *; obtain ⟨rfl, rfl, rfl⟩ := hi'; subst ea; rfl
    rw [this]; exact hq
  exact fun r => ⟨key h h' hp r, key h' h hp.symm r⟩
/-! ## Sessions -/
def CovP (P : List LatT) (k p : Int) : Prop := ∃ l, l ∈ P ∧ l.itm.key = k ∧ l.win.s < p ∧ p < l.win.e
structure SessP (P : List LatT) (r : TabT) : Prop where
  lt : r.win.s < r.win.e
  fst : ∃ l, l ∈ P ∧ l.itm.key = r.key ∧ l.win.s = r.win.s
  lst : ∃ l, l ∈ P ∧ l.itm.key = r.key ∧ l.win.e = r.win.e
  mid : ∀ p, r.win.s < p → p < r.win.e → CovP P r.key p
  low : ¬ CovP P r.key r.win.s
  top : ¬ CovP P r.key r.win.e
  agg : AggIs r.agg (valsS r.key r.win P)
structure InvS (P : List LatT) (T : List TabT) : Prop where
  rise : Rise T
  row : ∀ r, r ∈ T → SessP P r
  has : ∀ l, l ∈ P → ∃ r, r ∈ T ∧ r.key = l.itm.key ∧ r.win.s ≤ l.win.s ∧ l.win.e ≤ r.win.e
theorem sess_win {P : List LatT} {r q : TabT} (hr : SessP P r) (hq : SessP P q) (hk : r.key = q.key) (h1 : r.win.s < q.win.e) (h2 : q.win.s < r.win.e) : IsRow r.key r.win q := by
  have a : ¬ r.win.s < q.win.s := fun h => hq.low (by rw [← hk]; exact hr.mid _ h h2)
  have b : ¬ q.win.s < r.win.s := fun h => hr.low (by rw [hk]; exact hq.mid _ h h1)
  have c : ¬ r.win.e < q.win.e := fun h => hr.top (by rw [hk]; exact hq.mid _ h2 h)
  have d : ¬ q.win.e < r.win.e := fun h => hq.top (by rw [← hk]; exact hr.mid _ h1 h)
  unfold IsRow; omega
theorem sess_same {P : List LatT} {T : List TabT} (h : InvS P T) {r q : TabT} (hr : r ∈ T) (hq : q ∈ T) (hk : r.key = q.key) (h1 : r.win.s < q.win.e) (h2 : q.win.s < r.win.e) : r = q :=
  rise_two h.rise hr hq (sess_win (h.row r hr) (h.row q hq) hk h1 h2)
/-- What lies in one of several places that are apart, place by place. -/
theorem filter_parts {α β : Type} (P : List α) (f : α → Bool) (g : β → α → Bool) (v : α → Int) : ∀ (Q : List β), (Q.Pairwise fun q q' => ∀ l, l ∈ P → g q l = true → g q' l = true → False) →
    (∀ f : α → Bool, (∀ l, l ∈ P → (f l = true ↔ ∃ q, q ∈ Q ∧ g q l = true)) → ((P.filter f).map v).Perm (Q.flatMap fun q => (P.filter (g q)).map v))
  | [], _, f, h => by
    have : P.filter f = [] := List.filter_eq_nil_iff.2 fun l hl hf => by obtain ⟨q, hq, _⟩ := (h l hl).1 hf; simp at hq
    rw [this]; exact List.Perm.refl _
  | q :: Q, hp, f, h => by
    rw [List.pairwise_cons] at hp
    have ih := filter_parts P f g v Q hp.2 (fun l => f l && !g q l) (fun l hl => by
      simp only [Bool.and_eq_true, Bool.not_eq_true']
      constructor
      · rintro ⟨hf, hg⟩
        obtain ⟨q', hq', hg'⟩ := (h l hl).1 hf
        rcases List.mem_cons.1 hq' with rfl | hq'
        · rw [hg'] at hg; cases hg
        · exact ⟨q', hq', hg'⟩
      · rintro ⟨q', hq', hg'⟩
        refine ⟨(h l hl).2 ⟨q', List.mem_cons_of_mem _ hq', hg'⟩, ?_⟩
        cases hg : g q l with
        | false => rfl
        | true => exact (hp.1 q' hq' l hl hg hg').elim)
    have e : ∀ (P' : List α), (∀ l, l ∈ P' → g q l = true → f l = true) → (P'.filter f).Perm (P'.filter (g q) ++ P'.filter fun l => f l && !g q l) := by
      intro P'
      induction P' with
      | nil => intro _; exact List.Perm.refl _
      | cons l P' ih =>
        intro hs
        have i := ih fun l' hl' => hs l' (List.mem_cons_of_mem _ hl')
        have hs0 := hs l (by simp)
        simp only [List.filter_cons]
        cases hg : g q l with
        | true => rw [hs0 hg]; simp; exact i
        | false =>
          cases hf : f l with
          | false => simp; exact i
          | true => simp; exact (i.cons l).trans List.perm_middle.symm
    have e1 := (e P fun l hl hg => (h l hl).2 ⟨q, by simp, hg⟩).map v
    rw [List.map_append] at e1
    exact e1.trans (ih.append_left _)
theorem span_spec : ∀ (Q : List WinT) (w : WinT), (Q.foldl winSpan w).s ≤ w.s ∧ w.e ≤ (Q.foldl winSpan w).e ∧ (∀ q, q ∈ Q → (Q.foldl winSpan w).s ≤ q.s ∧ q.e ≤ (Q.foldl winSpan w).e) ∧
    ((Q.foldl winSpan w).s = w.s ∨ ∃ q, q ∈ Q ∧ (Q.foldl winSpan w).s = q.s) ∧ ((Q.foldl winSpan w).e = w.e ∨ ∃ q, q ∈ Q ∧ (Q.foldl winSpan w).e = q.e)
  | [], w => ⟨Int.le_refl _, Int.le_refl _, fun q h => by simp at h, .inl rfl, .inl rfl⟩
  | q :: Q, w => by
    obtain ⟨h1, h2, h3, h4, h5⟩ := span_spec Q (winSpan w q)
    have e1 : (winSpan w q).s ≤ w.s ∧ (winSpan w q).s ≤ q.s ∧ ((winSpan w q).s = w.s ∨ (winSpan w q).s = q.s) := by unfold winSpan; simp only; split <;> omega
    have e2 : w.e ≤ (winSpan w q).e ∧ q.e ≤ (winSpan w q).e ∧ ((winSpan w q).e = w.e ∨ (winSpan w q).e = q.e) := by unfold winSpan; simp only; split <;> omega
    rw [List.foldl_cons]
    refine ⟨by omega, by omega, fun x hx => ?_, ?_, ?_⟩
    · rcases List.mem_cons.1 hx with rfl | hx
      · omega
      · exact h3 x hx
    · rcases h4 with h | ⟨x, hx, h⟩
      · rcases e1.2.2 with h' | h'
        · exact .inl (by omega)
        · exact .inr ⟨q, by simp, by omega⟩
      · exact .inr ⟨x, List.mem_cons_of_mem _ hx, h⟩
    · rcases h5 with h | ⟨x, hx, h⟩
      · rcases e2.2.2 with h' | h'
        · exact .inl (by omega)
        · exact .inr ⟨q, by simp, by omega⟩
      · exact .inr ⟨x, List.mem_cons_of_mem _ hx, h⟩
/-- What is known of several, one behind the other. -/
theorem aggs_is {P : List LatT} (hf : ∀ q : TabT, ∀ x, x ∈ valsS q.key q.win P → -9 ≤ x ∧ x ≤ 9) : ∀ (Q : List TabT) (a : AggT) (L : List Int), (∀ q, q ∈ Q → AggIs q.agg (valsS q.key q.win P)) → AggIs a L → (∀ x, x ∈ L → -9 ≤ x ∧ x ≤ 9) →
    (L ++ Q.flatMap fun q => valsS q.key q.win P).length ≤ 1000000 → AggIs ((Q.map (·.agg)).foldl aggB a) (L ++ Q.flatMap fun q => valsS q.key q.win P)
  | [], a, L, _, h, _, _ => by simpa using h
  | q :: Q, a, L, hq, h, hv, hn => by
    rw [List.map_cons, List.foldl_cons, List.flatMap_cons, ← List.append_assoc]
    rw [List.flatMap_cons, ← List.append_assoc] at hn
    have hv2 : ∀ x, x ∈ L ++ valsS q.key q.win P → -9 ≤ x ∧ x ≤ 9 := fun x hx => (List.mem_append.1 hx).elim (hv x) (hf q x)
    refine aggs_is hf Q _ _ (fun x hx => hq x (List.mem_cons_of_mem _ hx)) (aggB_is h (hq q (by simp)) hv2 ?_) hv2 hn
    rw [List.length_append] at hn; omega
theorem tCnt_parts (p : TabT → Bool) : ∀ T : List TabT, tCnt T = tCnt (T.filter p) + tCnt (T.filter fun r => !p r)
  | [] => rfl
  | r :: T => by
    have := tCnt_parts p T
    simp only [List.filter_cons]
    cases h : p r <;> simp [tCnt] <;> omega
theorem tCnt_vals {P : List LatT} : ∀ Q : List TabT, (∀ q, q ∈ Q → AggIs q.agg (valsS q.key q.win P)) → tCnt Q = ((Q.flatMap fun q => valsS q.key q.win P).length : Int)
  | [], _ => rfl
  | q :: Q, h => by
    rw [List.flatMap_cons, List.length_append]
    have := tCnt_vals Q fun x hx => h x (List.mem_cons_of_mem _ hx)
    have := (h q (by simp)).n
    simp only [tCnt]; omega
theorem invS_step {P : List LatT} {T : List TabT} {l : LatT} (h : InvS P T) (hf : Fine (P ++ [l])) :
    InvS (P ++ [l]) (sessS l.itm.key l.win l.itm.v T) ∧ tCnt (sessS l.itm.key l.win l.itm.v T) = tCnt T + 1 ∧ sessI l.itm.key l.win l.itm.v T = sessS l.itm.key l.win l.itm.v T := by
  have hfp : Fine P := ⟨by have := hf.1; rw [List.length_append] at this; omega, fun x hx => hf.2 x (List.mem_append_left _ hx)⟩
  obtain ⟨hab, hv⟩ := hf.2 l (by simp)
  have hlen := hf.1
  rw [List.length_append] at hlen
  have hlen : P.length + 1 ≤ 100000 := hlen
  obtain ⟨Q, hQ⟩ : ∃ Q, Q = T.filter (tchD l.itm.key l.win) := ⟨_, rfl⟩
  obtain ⟨R, hR⟩ : ∃ R, R = T.filter fun r => !tchD l.itm.key l.win r := ⟨_, rfl⟩
  obtain ⟨W, hW⟩ : ∃ W, W = (Q.map (·.win)).foldl winSpan l.win := ⟨_, rfl⟩
  have mQ : ∀ q, q ∈ Q ↔ q ∈ T ∧ q.key = l.itm.key ∧ q.win.s < l.win.e ∧ l.win.s < q.win.e := fun q => by rw [hQ, List.mem_filter]; unfold tchD; rw [decide_eq_true_eq]
  have mR : ∀ q, q ∈ R ↔ q ∈ T ∧ ¬ (q.key = l.itm.key ∧ q.win.s < l.win.e ∧ l.win.s < q.win.e) := fun q => by rw [hR, List.mem_filter]; unfold tchD; simp only [Bool.not_eq_true', decide_eq_false_iff_not]
  obtain ⟨s1, s2, s3, s4, s5⟩ := span_spec (Q.map (·.win)) l.win
  rw [← hW] at s1 s2 s3 s4 s5
  have s3 : ∀ q, q ∈ Q → W.s ≤ q.win.s ∧ q.win.e ≤ W.e := fun q hq => s3 q.win (List.mem_map.2 ⟨q, hq, rfl⟩)
  have s4 : W.s = l.win.s ∨ ∃ q, q ∈ Q ∧ W.s = q.win.s := s4.imp id fun ⟨x, hx, e⟩ => by obtain ⟨q, hq, rfl⟩ := List.mem_map.1 hx; exact ⟨q, hq, e⟩
  have s5 : W.e = l.win.e ∨ ∃ q, q ∈ Q ∧ W.e = q.win.e := s5.imp id fun ⟨x, hx, e⟩ => by obtain ⟨q, hq, rfl⟩ := List.mem_map.1 hx; exact ⟨q, hq, e⟩
  have hcov : ∀ k p, CovP (P ++ [l]) k p ↔ CovP P k p ∨ (l.itm.key = k ∧ l.win.s < p ∧ p < l.win.e) := fun k p => by
    constructor
    · rintro ⟨x, hx, hc⟩
      rcases List.mem_append.1 hx with hx | hx
      · exact .inl ⟨x, hx, hc⟩
      · simp at hx; subst hx; exact .inr hc
    · rintro (⟨x, hx, hc⟩ | hc)
      · exact ⟨x, List.mem_append_left _ hx, hc⟩
      · exact ⟨l, by simp, hc⟩
  have hvs : ∀ k w, valsS k w (P ++ [l]) = valsS k w P ++ if l.itm.key = k ∧ w.s ≤ l.win.s ∧ l.win.s < w.e then [l.itm.v] else [] := fun k w => by
    unfold valsS
    rw [List.filter_append, List.map_append]
    by_cases h : l.itm.key = k ∧ w.s ≤ l.win.s ∧ l.win.s < w.e
    · have hd : decide (l.itm.key = k ∧ w.s ≤ l.win.s ∧ l.win.s < w.e) = true := decide_eq_true h
      simp only [List.filter_cons, List.filter_nil, hd, if_pos h, if_true, List.map_cons, List.map_nil]
    · have hd : decide (l.itm.key = k ∧ w.s ≤ l.win.s ∧ l.win.s < w.e) = false := decide_eq_false h
      simp only [List.filter_cons, List.filter_nil, hd, if_neg h, Bool.false_eq_true, if_false, List.map_nil]
  have hQT : ∀ q, q ∈ Q → q ∈ T := fun q hq => ((mQ q).1 hq).1
  -- the values of the new row
  have hbig : (valsS l.itm.key W P).Perm (Q.flatMap fun q => valsS q.key q.win P) := by
    have hpw : Q.Pairwise fun q q' => ∀ x, x ∈ P → decide (x.itm.key = q.key ∧ q.win.s ≤ x.win.s ∧ x.win.s < q.win.e) = true → decide (x.itm.key = q'.key ∧ q'.win.s ≤ x.win.s ∧ x.win.s < q'.win.e) = true → False := by
      have hrise : Rise Q := by rw [hQ]; exact h.rise.sublist List.filter_sublist
      refine hrise.imp_of_mem ?_
      intro q q' hq hq' ha x hx h1 h2
      rw [decide_eq_true_eq] at h1 h2
      have := sess_same h (hQT q hq) (hQT q' hq') (by omega) (by omega) (by omega)
      subst this
      exact ahead_irr _ ha
    refine filter_parts P (fun _ => true) (fun (q : TabT) (x : LatT) => decide (x.itm.key = q.key ∧ q.win.s ≤ x.win.s ∧ x.win.s < q.win.e)) (·.itm.v) Q hpw _ fun x hx => ?_
    simp only [decide_eq_true_eq]
    constructor
    · rintro ⟨hk, hx1, hx2⟩
      obtain ⟨q', hq', e1, e2, e3⟩ := h.has x hx
      have hxl := (hfp.2 x hx).1
      refine ⟨q', (mQ q').2 ⟨hq', by omega, ?_⟩, by omega, e2, by omega⟩
      by_cases c1 : l.win.s < q'.win.e
      · refine ⟨?_, c1⟩
        by_cases c2 : q'.win.s < l.win.e
        · exact c2
        · rcases s5 with s5 | ⟨q, hq, s5⟩
          · omega
          · have hq3 := (mQ q).1 hq
            have := sess_same h hq3.1 hq' (by omega) (by omega) (by omega)
            subst this; omega
      · rcases s4 with s4 | ⟨q, hq, s4⟩
        · omega
        · have hq3 := (mQ q).1 hq
          have := sess_same h hq3.1 hq' (by omega) (by omega) (by omega)
          subst this; omega
    · rintro ⟨q, hq, e1, e2, e3⟩
      have := s3 q hq
      have := (mQ q).1 hq
      omega
  have hfq : ∀ q : TabT, ∀ x, x ∈ valsS q.key q.win P → -9 ≤ x ∧ x ≤ 9 := fun q => vals_bd hfp
  have hlq : (Q.flatMap fun q => valsS q.key q.win P).length ≤ P.length := by rw [← hbig.length_eq]; exact vals_len
  have hagq : ∀ q, q ∈ Q → AggIs q.agg (valsS q.key q.win P) := fun q hq => (h.row q (hQT q hq)).agg
  have hag1 := aggs_is hfq Q (agg1 l.itm.v) [l.itm.v] hagq (aggIs_one _) (fun x hx => by simp at hx; subst hx; exact hv) (by rw [List.length_append, List.length_singleton]; omega)
  have hag0 := aggs_is hfq Q zAgg [] hagq aggIs_nil (fun x hx => by simp at hx) (by rw [List.nil_append]; omega)
  have hag2 : AggIs (aggAdd ((Q.map (·.agg)).foldl aggB zAgg) l.itm.v) (([] ++ Q.flatMap fun q => valsS q.key q.win P) ++ [l.itm.v]) := by
    refine aggB_is hag0 (aggIs_one _) (fun x hx => ?_) ?_
    · rcases List.mem_append.1 hx with hx | hx
      · rw [List.nil_append] at hx
        obtain ⟨q, hq, hx⟩ := List.mem_flatMap.1 hx
        exact hfq q x hx
      · simp at hx; subst hx; exact hv
    · rw [List.length_append, List.nil_append, List.length_singleton]; omega
  have heq : aggAdd ((Q.map (·.agg)).foldl aggB zAgg) l.itm.v = (Q.map (·.agg)).foldl aggB (agg1 l.itm.v) := aggIs_uniq hag2 hag1 (by rw [List.nil_append]; exact List.perm_append_comm)
  have hvnew : (valsS l.itm.key W (P ++ [l])).Perm ([l.itm.v] ++ Q.flatMap fun q => valsS q.key q.win P) := by
    rw [hvs, if_pos ⟨rfl, s1, by omega⟩]
    exact (hbig.append_right _).trans List.perm_append_comm
  have hagn : AggIs ((Q.map (·.agg)).foldl aggB (agg1 l.itm.v)) (valsS l.itm.key W (P ++ [l])) := by
    have hp := hvnew.symm
    refine ⟨by rw [hag1.n, hp.length_eq], by rw [hag1.sum, sumI_perm hp], fun e => hag1.z (List.nil_perm.1 (by rw [e] at hp; exact hp.symm)), fun e => ?_⟩
    obtain ⟨a1, a2, a3⟩ := hag1.nz (by simp)
    exact ⟨hp.mem_iff.1 a1, hp.mem_iff.1 a2, fun x hx => a3 x (hp.mem_iff.2 hx)⟩
  have hRn : ∀ q, q ∈ R → ¬ IsRow l.itm.key W q := fun q hq e => by
    have := (mR q).1 hq
    unfold IsRow at e
    exact this.2 (by omega)
  refine ⟨⟨?_, fun r hr => ?_, fun x hx => ?_⟩, ?_, ?_⟩
  · unfold sessS
    rw [← hQ, ← hR, ← hW]
    exact rise_tPut (by rw [hR]; exact h.rise.sublist List.filter_sublist)
  · unfold sessS at hr
    rw [← hQ, ← hR, ← hW] at hr
    rcases mem_tPut.1 hr with rfl | ⟨hr, hn⟩
    · refine ⟨show W.s < W.e by omega, ?_, ?_, ?_, ?_, ?_, hagn⟩
      · show ∃ x, x ∈ P ++ [l] ∧ x.itm.key = l.itm.key ∧ x.win.s = W.s
        rcases s4 with e | ⟨q, hq, e⟩
        · exact ⟨l, by simp, rfl, e.symm⟩
        · have hq' := (mQ q).1 hq
          obtain ⟨x, hx, h1, h2⟩ := (h.row q hq'.1).fst
          exact ⟨x, List.mem_append_left _ hx, by omega, by omega⟩
      · show ∃ x, x ∈ P ++ [l] ∧ x.itm.key = l.itm.key ∧ x.win.e = W.e
        rcases s5 with e | ⟨q, hq, e⟩
        · exact ⟨l, by simp, rfl, e.symm⟩
        · have hq' := (mQ q).1 hq
          obtain ⟨x, hx, h1, h2⟩ := (h.row q hq'.1).lst
          exact ⟨x, List.mem_append_left _ hx, by omega, by omega⟩
      · show ∀ p, W.s < p → p < W.e → CovP (P ++ [l]) l.itm.key p
        intro p hp1 hp2
        rw [hcov]
        by_cases c1 : l.win.s < p
        · by_cases c2 : p < l.win.e
          · exact .inr ⟨rfl, c1, c2⟩
          · rcases s5 with e | ⟨q, hq, e⟩
            · omega
            · have hq' := (mQ q).1 hq
              have := (h.row q hq'.1).mid p (by omega) (by omega)
              rw [hq'.2.1] at this
              exact .inl this
        · rcases s4 with e | ⟨q, hq, e⟩
          · omega
          · have hq' := (mQ q).1 hq
            have := (h.row q hq'.1).mid p (by omega) (by omega)
            rw [hq'.2.1] at this
            exact .inl this
      · show ¬ CovP (P ++ [l]) l.itm.key W.s
        rw [hcov]
        rintro (hc | hc)
        · rcases s4 with e | ⟨q, hq, e⟩
          · obtain ⟨x, hx, h1, h2, h3⟩ := hc
            obtain ⟨q', hq', e1, e2, e3⟩ := h.has x hx
            have := s3 q' ((mQ q').2 ⟨hq', by omega, by omega, by omega⟩)
            omega
          · have hq' := (mQ q).1 hq
            refine (h.row q hq'.1).low ?_
            rw [hq'.2.1, ← e]; exact hc
        · omega
      · show ¬ CovP (P ++ [l]) l.itm.key W.e
        rw [hcov]
        rintro (hc | hc)
        · rcases s5 with e | ⟨q, hq, e⟩
          · obtain ⟨x, hx, h1, h2, h3⟩ := hc
            obtain ⟨q', hq', e1, e2, e3⟩ := h.has x hx
            have := s3 q' ((mQ q').2 ⟨hq', by omega, by omega, by omega⟩)
            omega
          · have hq' := (mQ q).1 hq
            refine (h.row q hq'.1).top ?_
            rw [hq'.2.1, ← e]; exact hc
        · omega
    · have hr' := (mR r).1 hr
      have hs := h.row r hr'.1
      have hlt := hs.lt
      obtain ⟨x1, hx1, hx1'⟩ := hs.fst
      obtain ⟨x2, hx2, hx2'⟩ := hs.lst
      refine ⟨hs.lt, ⟨x1, List.mem_append_left _ hx1, hx1'⟩, ⟨x2, List.mem_append_left _ hx2, hx2'⟩, fun p a b => (hcov _ _).2 (.inl (hs.mid p a b)), ?_, ?_, ?_⟩
      · rw [hcov]
        rintro (hc | hc)
        · exact hs.low hc
        · exact hr'.2 (by omega)
      · rw [hcov]
        rintro (hc | hc)
        · exact hs.top hc
        · exact hr'.2 (by omega)
      · rw [hvs, if_neg (fun e => hr'.2 (by omega)), List.append_nil]
        exact hs.agg
  · unfold sessS
    rw [← hQ, ← hR, ← hW]
    rcases List.mem_append.1 hx with hx | hx
    · obtain ⟨q, hq, e1, e2, e3⟩ := h.has x hx
      by_cases hc : q ∈ Q
      · have := s3 q hc
        exact ⟨_, mem_tPut.2 (.inl rfl), by have := ((mQ q).1 hc).2.1; simp only; omega, by simp only; omega, by simp only; omega⟩
      · have hqR : q ∈ R := (mR q).2 ⟨hq, fun e => hc ((mQ q).2 ⟨hq, e⟩)⟩
        exact ⟨q, mem_tPut.2 (.inr ⟨hqR, hRn q hqR⟩), e1, e2, e3⟩
    · simp at hx; subst hx
      exact ⟨_, mem_tPut.2 (.inl rfl), rfl, s1, s2⟩
  · have e1 := tCnt_parts (tchD l.itm.key l.win) T
    rw [← hQ, ← hR] at e1
    have e2 := tCnt_vals Q hagq
    unfold sessS
    rw [← hQ, ← hR, ← hW]
    unfold tPut
    rw [tCnt_ins, tOut_none hRn]
    have e3 := hag1.n
    rw [List.length_append] at e3
    show ((Q.map (·.agg)).foldl aggB (agg1 l.itm.v)).n + _ = _
    simp only [List.length_singleton] at e3
    omega
  · unfold sessI sessS
    rw [← hQ, ← hR, ← hW, heq]
end Go.Rk
/- Draws. -/
namespace Go.Rk
set_option linter.unusedSimpArgs false
set_option linter.unusedVariables false
theorem br_t {A : Ar} (hA : real = A) {t : Bool} {p q : Prop} (h : t = true) (hp : p) : A.br t p q := by subst hA; exact ⟨fun _ => hp, fun h2 => by rw [h] at h2; cases h2⟩
theorem br_f {A : Ar} (hA : real = A) {t : Bool} {p q : Prop} (h : t = false) (hq : q) : A.br t p q := by subst hA; exact ⟨fun h2 => (by rw [h] at h2; cases h2), fun _ => hq⟩
abbrev eU (n : Int) : DV := .v (.int .u8 n)
def pickY (m : Nat) (b : Nat → Int) (p : Int) : Int := b (p.tmod m).toNat * 131 + b ((p * 7 + 3).tmod m).toNat * 1117 + p * 29 + p.tdiv m * 53
def pickX (y : Int) : Int := IntKind.i64.wrap (BitVec.ofInt 64 y ^^^ BitVec.ofInt 64 (y.tdiv 64)).toNat
def pickV (m : Nat) (b : Nat → Int) (p n : Int) : Int := if m = 0 then 0 else if p < m then (b p.toNat).tmod n else (pickX (pickY m b p)).tmod n
theorem xor_nn {a b : Int} (h0 : 0 ≤ a ∧ a < 4611686018427387904) (h1 : 0 ≤ b ∧ b < 4611686018427387904) : 0 ≤ ((BitVec.ofInt 64 a ^^^ BitVec.ofInt 64 b).toNat : Int) ∧ ((BitVec.ofInt 64 a ^^^ BitVec.ofInt 64 b).toNat : Int) < 4611686018427387904 := by
  have e : ∀ c : Int, 0 ≤ c ∧ c < 4611686018427387904 → (BitVec.ofInt 64 c).toNat < 2 ^ 62 := fun c hc => by
    rw [BitVec.toNat_ofInt]
    have h64 : ((2 ^ 64 : Nat) : Int) = 18446744073709551616 := by decide
    have h62 : (2 : Nat) ^ 62 = 4611686018427387904 := by decide
    rw [h64, h62]
    omega
  have h := Nat.xor_lt_two_pow (e a h0) (e b h1)
  rw [← BitVec.toNat_xor] at h
  have : (2 : Nat) ^ 62 = 4611686018427387904 := by decide
  exact ⟨by omega, by omega⟩
theorem tmod_in {a n : Int} (ha : 0 ≤ a) (hn : 1 ≤ n) : 0 ≤ a.tmod n ∧ a.tmod n < n := ⟨Int.tmod_nonneg n ha, Int.tmod_lt_of_pos a (by omega)⟩
theorem pickY_in {m : Nat} {b : Nat → Int} {p : Int} (hm : 1 ≤ m) (hb : ∀ i, 0 ≤ b i ∧ b i ≤ 255) (hp : 0 ≤ p ∧ p ≤ 1000000) : 0 ≤ pickY m b p ∧ pickY m b p ≤ 1000000000 := by
  unfold pickY
  have h1 := hb (p.tmod m).toNat
  have h2 := hb ((p * 7 + 3).tmod m).toNat
  have h3 : 0 ≤ p.tdiv m := Int.tdiv_nonneg hp.1 (by omega)
  have h4 : p.tdiv m ≤ p := by
    have := Int.tdiv_le_self (a := p) m hp.1
    exact this
  omega
theorem pickV_in {m : Nat} {b : Nat → Int} {p n : Int} (hb : ∀ i, 0 ≤ b i ∧ b i ≤ 255) (hp : 0 ≤ p ∧ p ≤ 1000000) (hn : 1 ≤ n) : 0 ≤ pickV m b p n ∧ pickV m b p n < n := by
  unfold pickV
  split
  · omega
  · split
    · exact tmod_in (hb _).1 hn
    · refine tmod_in ?_ hn
      have hy := pickY_in (m := m) (p := p) (by omega) hb hp
      have hd : 0 ≤ (pickY m b p).tdiv 64 := Int.tdiv_nonneg hy.1 (by decide)
      have hd2 : (pickY m b p).tdiv 64 ≤ pickY m b p := Int.tdiv_le_self 64 hy.1
      have hx := xor_nn (a := pickY m b p) (b := (pickY m b p).tdiv 64) ⟨hy.1, by omega⟩ ⟨hd, by omega⟩
      unfold pickX
      rw [IntWalk.i64_in _ (by omega)]
      exact hx.1
end Go.Rk
/- Tables of panes. -/
namespace Go.Rk
set_option linter.unusedSimpArgs false
set_option linter.unusedVariables false
theorem sub0r (f : Nat → List DV) : real.sub 0 f = f := sub0 rfl f
def zPane : PaneT := ⟨0, ⟨0, 0⟩, 0, 0, ⟨0, 0, 0, 0⟩⟩
def ofAgg (piece : Bool) (T : List TabT) (p : PaneT) : AggT := if piece = true then aggB ((tFind p.key p.win T).getD zAgg) p.agg else p.agg
def ofStep (piece : Bool) (T : List TabT) (p : PaneT) : List TabT := if p.kind = 3 then tOut p.key p.win T else tPut ⟨p.key, p.win, ofAgg piece T p⟩ T
def ofL (piece : Bool) (l : List PaneT) : List TabT := l.foldl (ofStep piece) []
theorem ofL_snoc (piece : Bool) (l : List PaneT) (p : PaneT) : ofL piece (l ++ [p]) = ofStep piece (ofL piece l) p := by unfold ofL; rw [List.foldl_append]; rfl
theorem ofStep_len (piece : Bool) (T : List TabT) (p : PaneT) : (ofStep piece T p).length ≤ T.length + 1 := by
  unfold ofStep
  split
  · exact Nat.le_succ_of_le (tOut_len _ _ _)
  · exact tPut_len _ _
theorem ofFold_len (piece : Bool) : ∀ (l : List PaneT) (T : List TabT), (l.foldl (ofStep piece) T).length ≤ T.length + l.length
  | [], T => Nat.le_refl _
  | p :: l, T => by
    have h1 := ofFold_len piece l (ofStep piece T p)
    have h2 := ofStep_len piece T p
    rw [List.foldl_cons, List.length_cons]; omega
theorem ofL_len (piece : Bool) (l : List PaneT) : (ofL piece l).length ≤ l.length := by have := ofFold_len piece l []; simpa [ofL] using this
/-- A list, given its number and its members. -/
theorem lst_ex {α : Type} (z : α) (l : List α) : ∃ (n : Nat) (g : Nat → α), Lst z l n g := ⟨_, _, lst_self z l⟩
theorem lst_snoc {α : Type} {z : α} {l : List α} {n : Nat} {g : Nat → α} {x : α} (h : Lst z l n g) : Lst z (l ++ [x]) (n + 1) (fun q => if q < n then g q else x) := by
  obtain ⟨rfl, h2⟩ := h
  refine ⟨by simp, fun k hk => ?_⟩
  by_cases hl : k < l.length
  · simp only [if_pos hl]
    rw [h2 k hl, List.getD_eq_getElem?_getD, List.getD_eq_getElem?_getD, List.getElem?_append_left hl]
  · have : k = l.length := by omega
    subst this
    simp
/-- One row more at the end, told by its own shape. -/
theorem push_if {A : Ar} {α : Type} (e : α → List DV) (hA : real = A) (n : Nat) (G : Nat → α) (x : α) (z : Nat → List DV) (k : Nat) (hk : k < n + 1) : A.app n (fun i => e (G i)) (A.sub 0 (A.app 1 (A.rep (e x)) z)) k = e (if k < n then G k else x) := by
  subst hA
  show (if k < n then e (G k) else (if 0 + (k - n) < 1 then e x else z (0 + (k - n) - 1))) = _
  split
  · rfl
  · rw [if_pos (by omega)]
theorem lt2_of {A : Ar} (hA : real = A) {i n : Nat} (h : A.cmp .lss (Int.ofNat i) (Int.ofNat n) = true) : i < n := by
  subst hA
  have h : decide ((i : Int) < (n : Int)) = true := h
  rw [decide_eq_true_eq] at h
  omega
theorem ge2_of {A : Ar} (hA : real = A) {i n : Nat} (h : A.cmp .lss (Int.ofNat i) (Int.ofNat n) = false) : n ≤ i := by
  subst hA
  have h : decide ((i : Int) < (n : Int)) = false := h
  rw [decide_eq_false_iff_not] at h
  omega
theorem eq_of {A : Ar} (hA : real = A) {a b : Int} (h : A.cmp .eql a b = true) : a = b := by subst hA; exact of_decide_eq_true h
theorem ne_of {A : Ar} (hA : real = A) {a b : Int} (h : A.cmp .eql a b = false) : ¬ a = b := by subst hA; exact of_decide_eq_false h
end Go.Rk
/- What a mark does to rows, in plain words. -/
namespace Go.Rk
set_option linter.unusedSimpArgs false
set_option linter.unusedVariables false
def dueB (m : Int) (r : RowT) : Bool := !r.timely && decide (r.win.e ≤ m)
def toldR (r : RowT) : RowT := { r with told := w64 (r.told + 1), timely := true, fresh := zAgg }
def paneP (piece : Bool) (r : RowT) (kind : Int) : PaneT := ⟨r.key, r.win, r.told, kind, if piece = true then r.fresh else r.all⟩
def markR (m : Int) (r : RowT) : RowT := if dueB m r = true then toldR r else r
def overB (late m : Int) (r : RowT) : Bool := decide (m ≥ w64 (r.win.e + late))
/-- The rows that stay behind a mark, and what it tells. -/
def keepL (late m : Int) (l : List RowT) : List RowT := (l.map (markR m)).filter fun r => !overB late m r
def tellL (piece : Bool) (m : Int) (l : List RowT) : List PaneT := (l.filter (dueB m)).map fun r => paneP piece r 1
theorem markR_win (m : Int) (r : RowT) : (markR m r).win = r.win := by unfold markR; split <;> rfl
theorem overB_mark (late m : Int) (r : RowT) : overB late m (markR m r) = overB late m r := by unfold overB; rw [markR_win]
def zRow : RowT := ⟨0, ⟨0, 0⟩, zAgg, zAgg, 0, false⟩
/-- Of the first 'j', those that are not deleted. -/
def keepN (g : Nat → RowT) (d : RowT → Bool) (j : Nat) : List RowT := ((List.range j).map g).filter fun r => !d r
theorem keepN_succ (g : Nat → RowT) (d : RowT → Bool) (j : Nat) : keepN g d (j + 1) = keepN g d j ++ if d (g j) = true then [] else [g j] := by
  unfold keepN
  rw [List.range_succ, List.map_append, List.filter_append]
  congr 1
  cases hd : d (g j) <;> simp [hd]
theorem keepN_len (g : Nat → RowT) (d : RowT → Bool) (j : Nat) : (keepN g d j).length ≤ j := by
  unfold keepN
  refine Nat.le_trans (List.length_filter_le _ _) ?_
  simp
theorem lst_push {α : Type} {z : α} {l : List α} {i : Nat} {R R' : Nat → α} {x : α} (h : Lst z l i R) (h' : ∀ q, q < i + 1 → R' q = if q = i then x else R q) : Lst z (l ++ [x]) (i + 1) R' := by
  refine ⟨by rw [h.1]; simp, fun k hk => ?_⟩
  rw [h' k hk]
  by_cases e : k = i
  · rw [if_pos e, e, h.1]
    simp [List.getD_eq_getElem?_getD]
  · rw [if_neg e, h.2 k (by omega)]
    have : k < l.length := by rw [← h.1]; omega
    simp [List.getD_eq_getElem?_getD, List.getElem?_append_left this]
theorem keepN_none {g : Nat → RowT} {d : RowT → Bool} : ∀ {j : Nat}, (∀ q, q < j → ¬ d (g q) = true) → Lst zRow (keepN g d j) j g
  | 0, _ => ⟨rfl, fun k hk => absurd hk (Nat.not_lt_zero k)⟩
  | j + 1, h => by
    rw [keepN_succ, if_neg (h j (by omega))]
    refine lst_push (keepN_none fun q hq => h q (by omega)) fun q _ => ?_
    by_cases e : q = j
    · rw [if_pos e, e]
    · rw [if_neg e]
theorem flat_row {A : Ar} (hA : real = A) (n : Nat) (G : Nat → RowT) : A.flat n fun i => eRow (G i) := by
  subst hA
  intro i hi x hx
  unfold eRow at hx
  simp only [List.mem_cons, List.not_mem_nil, or_false] at hx
  rcases hx with rfl | rfl | rfl | rfl | rfl | rfl | rfl | rfl | rfl | rfl | rfl | rfl | rfl <;> exact ⟨_, rfl⟩
theorem flat_pane {A : Ar} (hA : real = A) (n : Nat) (G : Nat → PaneT) : A.flat n fun i => ePane (G i) := by
  subst hA
  intro i hi x hx
  unfold ePane at hx
  simp only [List.mem_cons, List.not_mem_nil, or_false] at hx
  rcases hx with rfl | rfl | rfl | rfl | rfl | rfl | rfl | rfl | rfl <;> exact ⟨_, rfl⟩
/-- What is told of the first 'i' rows. -/
def tellN (piece : Bool) (m : Int) (g : Nat → RowT) (i : Nat) : List PaneT := tellL piece m ((List.range i).map g)
theorem tellN_succ (piece : Bool) (m : Int) (g : Nat → RowT) (i : Nat) : tellN piece m g (i + 1) = tellN piece m g i ++ if dueB m (g i) = true then [paneP piece (g i) 1] else [] := by
  unfold tellN tellL
  rw [List.range_succ, List.map_append, List.filter_append, List.map_append]
  congr 1
  cases hd : dueB m (g i) <;> simp [hd]
theorem tellN_len (piece : Bool) (m : Int) (g : Nat → RowT) (i : Nat) : (tellN piece m g i).length ≤ i := by
  unfold tellN tellL
  rw [List.length_map]
  refine Nat.le_trans (List.length_filter_le _ _) ?_
  simp
def zPan : PaneT := ⟨0, ⟨0, 0⟩, 0, 0, zAgg⟩
/-- What OpMark answers: the mark, the rows, and what is told. -/
noncomputable def opMarkL (j : JobT) (s : OpStT) (m : Int) : Int × List RowT × List PaneT :=
  open Classical in
  if ¬ (OpOkP j s ∧ (0 ≤ m ∧ m ≤ 1000)) then (0, [], [])
  else if m ≤ s.mark then (s.mark, (List.range s.rows.n).map s.rows.g, [])
  else (m, keepN (fun i => markR m (s.rows.g i)) (overB j.late m) s.rows.n, tellN j.piece m s.rows.g s.rows.n)
end Go.Rk
/- Marks of operators. -/
namespace Go.Rk
set_option linter.unusedSimpArgs false
set_option linter.unusedVariables false
open Go.Proofs
set_option maxRecDepth 100000
set_option maxHeartbeats 1000000
theorem c_CloneRow (n : Nat) (hn : n ≤ 1080000) (g : Nat → RowT) : Meets Try.prog 119 [.c (.d (.sl 13 n fun i => eRow (g i)))] ⟨.one (.c (.own 13 n fun i => eRow (g i))), [none]⟩ := by
  refine meets_slice (fun h0 ad cap => ?_) (fun h1 => ?_)
  · subst h0
    cases ad with
    | none =>
      refine meets_up (res := .one (.c (.d (.v nilS)))) (UpV.nil 13 fun i => eRow (g i)) ?_
      refine meets_of (H := []) (EX := EXA) ttok mixed Try.func119 rfl (by kernel_rfl) (by decide) ?_
      generalize hA : real = A
      generalize hM : MeetsB Try.prog = M
      cbv
      repeat' first
        | exact absurd (show true = false by assumption) (by decide)
        | exact absurd (show false = true by assumption) (by decide)
        | apply And.intro
        | exact True.intro
        | with_reducible rfl
        | exact same_of hA rfl
        | refine br_of hA (fun _ => ?_) (fun _ => ?_)
        | exact imp_of hA id
        | (refine imp_of hA ?_; subst hA; simp only [real, Bool.true_and]; exact id)
        | (refine ind_of hA ?_; decide +kernel)
    | some ad =>
      refine meets_up (res := .one (.c (.own 13 0 fun i => (real.rep ([0,0,0,0,0,0,0,0,0,0,0,0].map eI ++ [eB false]) i)))) (UpV.row fun i hi => absurd hi (Nat.not_lt_zero i)) ?_
      refine meets_of (H := []) (EX := EXA) ttok mixed Try.func119 rfl (by kernel_rfl) (by decide) ?_
      generalize hA : real = A
      generalize hM : MeetsB Try.prog = M
      cbv
      repeat' first
        | exact absurd (show true = false by assumption) (by decide)
        | exact absurd (show false = true by assumption) (by decide)
        | apply And.intro
        | exact True.intro
        | with_reducible rfl
        | exact same_of hA rfl
        | refine br_of hA (fun _ => ?_) (fun _ => ?_)
        | exact imp_of hA id
        | (refine imp_of hA ?_; subst hA; simp only [real, Bool.true_and]; exact id)
        | (refine ind_of hA ?_; decide +kernel)
        | exact room_z hA (by omega) (by decide)
      exact own_cp hA (by subst hA; rfl)
  · skip
    refine meets_of (H := []) (EX := EXA) ttok mixed Try.func119 rfl (by kernel_rfl) (by decide) ?_
    generalize hA : real = A
    generalize hM : MeetsB Try.prog = M
    cbv
    repeat' first
      | exact absurd (show true = false by assumption) (by decide)
      | exact absurd (show false = true by assumption) (by decide)
      | apply And.intro
      | exact True.intro
      | with_reducible rfl
      | exact same_of hA rfl
      | refine br_of hA (fun _ => ?_) (fun _ => ?_)
      | exact imp_of hA id
      | (refine imp_of hA ?_; subst hA; simp only [real, Bool.true_and]; exact id)
      | (refine ind_of hA ?_; decide +kernel)
      | exact room_z hA (by omega) (by decide)
      | (refine inb_of hA (fun _ => ⟨by omega, by omega⟩))
      | (rename_i hb; cases hb; done)
    exact own_cp hA rfl
theorem c_copied (mk : Int) (n : Nat) (hn : n ≤ 1080000) (g : Nat → RowT) : Meets Try.prog 64 [.agg [.d (eI mk), .d (.sl 13 n fun i => eRow (g i))]] ⟨.one (.agg [.d (eI mk), .own 13 n fun i => eRow (g i)]), [none]⟩ := by
  refine meets_of (H := []) (EX := EXA) ttok mixed Try.func64 rfl (by kernel_rfl) (by decide) ?_
  generalize hA : real = A
  generalize hM : MeetsB Try.prog = M
  cbv
  repeat' first
    | apply And.intro
    | exact True.intro
    | with_reducible rfl
    | exact same_of hA rfl
    | refine br_of hA (fun _ => ?_) (fun _ => ?_)
    | exact imp_of hA id
    | (refine imp_of hA ?_; subst hA; simp only [real, Bool.true_and]; exact id)
    | (refine ind_of hA ?_; decide +kernel)
    | exact room_z hA (by omega) (by decide)
    | (refine call_of2 hA hM _ (c_CloneRow n hn g) rfl ?_; cbv)
theorem c_over (j : JobT) (m : Int) (r : RowT) (b : Bool) (hb : b = overB j.late m r) : Meets Try.prog 67 [xd (eRow r), .c (.d (.p [eI m])), .c (.d (.p (eJob j)))] ⟨.one (.c (.d (eB b))), [none, none, none]⟩ := by
  refine meets_of (H := []) (EX := EXA) ttok mixed Try.func67 rfl (by kernel_rfl) (by decide) ?_
  generalize hA : real = A
  generalize hM : MeetsB Try.prog = M
  cbv
  repeat' first
    | apply And.intro
    | exact True.intro
    | with_reducible rfl
    | exact same_of hA rfl
    | refine br_of hA (fun _ => ?_) (fun _ => ?_)
    | exact imp_of hA id
    | (refine imp_of hA ?_; subst hA; simp only [real, Bool.true_and]; exact id)
    | (refine ind_of hA ?_; decide +kernel)
  subst hA; subst hb; rfl
def EXI : FuncId → List Nat × Bool := fun f => bif nbeq f 1 then ([6000], false) else ([], false)
theorem c_tell (j : JobT) (mk : Int) (n : Nat) (R : Nat → RowT) (q : Nat) (lt : CV) (hq : q < n) (c : Nat) (hc : c ≤ 1080000) (G : Nat → PaneT) (kind : Int) (R' : Nat → RowT) (hR' : ∀ i, R' i = if i = q then toldR (R q) else R i) (G' : Nat → PaneT) (hG' : ∀ i, G' i = if i < c then G i else paneP j.piece (R q) kind) : MeetsO Try.prog 65 [.c (.bp 1600 1 0), .c (.op 1473 1 q 0), .c (.d (eI kind))]
    [(1600, 1, .box [.d (eI j.srcs), .d (eI j.tsks), .d (eI j.kind), .d (eI j.size), .d (eI j.step), .d (eI j.late), .d (eI j.tell), .d (eB j.piece), .d (eI j.least), .d (eI j.room), .d (eI mk), .own 1473 0 n 1, .own 5000 0 c 1, lt]), (1473, 1, .arr 13 n fun i => eRow (R i)), (5000, 1, .arr 9 c fun i => ePane (G i))] (.tup [])
    [(1600, 1, .box [.d (eI j.srcs), .d (eI j.tsks), .d (eI j.kind), .d (eI j.size), .d (eI j.step), .d (eI j.late), .d (eI j.tell), .d (eB j.piece), .d (eI j.least), .d (eI j.room), .d (eI mk), .own 1473 0 n 1, .own 5000 0 (c + 1) 2, lt]), (1473, 1, .arr 13 n fun i => eRow (R' i)), (5000, 2, .arr 9 (c + 1) fun i => ePane (G' i)), (6384, 1, .dead), (8560, 1, .dead)] := by
  refine inl_of (EX := EXI) ttok mixed Try.func65 rfl (by kernel_rfl) (by decide) (by kernel_rfl) rfl rfl ?_
  generalize hA : real = A
  generalize hM : MeetsB Try.prog = M
  rcases A with ⟨a1, a2, a3, a4, a5, a6, a7, a8, a9, a10, a11, a12, a13, a14, a15, a16, a17, a18, a19, a20, a21, a22, up, a24, a25, a26, a27, a28, a29⟩
  have hup : ∀ (f : Nat → List DV) (q : Nat) (l : List DV), up f q l q = l := by
    have h : real.upd = up := congrArg Ar.upd hA
    intro f q l; rw [← h]; exact if_pos rfl
  cbv
  repeat' first
    | apply And.intro
    | exact True.intro
    | with_reducible rfl
    | exact same_of hA rfl
    | refine br_of hA (fun _ => ?_) (fun _ => ?_)
    | exact imp_of hA id
    | (refine imp_of hA ?_; subst hA; simp only [real, Bool.true_and]; exact id)
    | (refine ind_of hA ?_; decide +kernel)
    | exact room_add2 hA (by omega) (by decide)
    | (simp only [hup]; cbv)
  all_goals (rename_i hpc; unfold real at hA; cases hA)
  all_goals first
    | rfl
    | (intro i hi
       by_cases e : i = q
       · refine Eq.trans ?_ (congrArg eRow ((hR' i).trans (if_pos e)).symm)
         dsimp only
         simp only [if_pos e]
         rfl
       · refine Eq.trans ?_ (congrArg eRow ((hR' i).trans (if_neg e)).symm)
         dsimp only
         simp only [if_neg e])
    | (intro i hi
       refine Eq.trans (push_if (A := real) ePane rfl c G (paneP j.piece (R q) kind) _ i hi) (congrArg ePane (hG' i).symm))
    | (intro i hi
       refine Eq.trans ?_ (congrArg ePane (hG' i).symm)
       have e := push_if (A := real) ePane rfl c G (paneP j.piece (R q) kind) (fun _ => [eI 0, eI 0, eI 0, eI 0, eI 0, eI 0, eI 0, eI 0, eI 0]) i hi
       refine Eq.trans ?_ e
       unfold paneP
       first | rw [if_pos hpc] | rw [if_neg (by rw [hpc]; simp)]
       rfl)
end Go.Rk
/- Rows that are deleted. -/
namespace Go.Rk
set_option linter.unusedSimpArgs false
set_option linter.unusedVariables false
open Go.Proofs
set_option maxRecDepth 100000
set_option maxHeartbeats 1000000
def stIxRow2 (n : Nat) (g : Nat → RowT) (F : FuncId) (c0 c1 : DV) (i : Nat) : St := ⟨[(8, .c (.d (eI i))), (7, .c (.d (eI n))), (0, .c (.d (.sl 13 n fun i => eRow (g i)))), (1, .c (.d (.fn F [c0, c1])))], []⟩
set_option maxRecDepth 100000 in
theorem c_IndexRow2 (n : Nat) (hn : n ≤ maxLen) (g : Nat → RowT) (F : FuncId) (c0 c1 : DV) (Q : RowT → Prop) (hc : ∀ r, ∃ b, (b = true ↔ Q r) ∧ Meets Try.prog F [xd (eRow r), .c (.d c0), .c (.d c1)] ⟨.one (.c (.d (eB b))), [none, none, none]⟩) : ∃ x, FirstIx n (fun i => Q (g i)) x ∧ Meets Try.prog 120 [.c (.d (.sl 13 n fun i => eRow (g i))), .c (.d (.fn F [c0, c1]))] ⟨.one (.c (.d (eI x))), [none, none]⟩ := by
  obtain ⟨x, hx⟩ := firstIx_ex n fun i => Q (g i)
  refine ⟨x, hx, ?_⟩
  refine meets_of (H := []) (EX := EXA) ttok mixed Try.func120 rfl (by kernel_rfl) (by decide) ?_
  generalize hA : real = A
  generalize hM : MeetsB Try.prog = M
  cbv
  repeat' first
    | apply And.intro
    | exact True.intro
    | with_reducible rfl
    | exact same_of hA rfl
    | refine br_of hA (fun _ => ?_) (fun _ => ?_)
    | exact imp_of hA id
    | (refine imp_of hA ?_; subst hA; simp only [real, Bool.true_and]; exact id)
    | (refine ind_of hA ?_; decide +kernel)
  refine loop_of hA (α := { i : Nat // i ≤ n ∧ ∀ j, j < i → ¬ Q (g j) }) (fun x => stIxRow2 n g F c0 c1 x.1) (fun x => n - x.1) ⟨0, Nat.zero_le _, fun j h => absurd h (Nat.not_lt_zero _)⟩ ?_ ?_
  · refine cov_of ?_ ?_ ?_
    · cbv; subst hA; exact ⟨rfl, rfl, trivial⟩
    · cbv
    · cbv
  rintro ⟨i, hi, hb⟩
  cbv
  repeat' first
    | apply And.intro
    | exact True.intro
    | with_reducible rfl
    | exact same_of hA rfl
    | refine br_of hA (fun _ => ?_) (fun _ => ?_)
    | exact imp_of hA id
    | (refine imp_of hA ?_; subst hA; simp only [real, Bool.true_and]; exact id)
    | (refine ind_of hA ?_; decide +kernel)
    | (refine inb_of hA fun _ => ?_; subst hA; simp only [real, decide_eq_true_eq, Int.ofNat_eq_natCast] at *; omega)
  · refine call_ex hA hM (hc (g (A.nat (Int.ofNat i)))) (fun b hbb => ?_)
    cbv
    repeat' first
      | apply And.intro
      | exact True.intro
      | with_reducible rfl
      | exact same_of hA rfl
      | refine br_of hA (fun _ => ?_) (fun _ => ?_)
      | exact imp_of hA id
      | (refine imp_of hA ?_; subst hA; simp only [real, Bool.true_and]; exact id)
      | (refine ind_of hA ?_; decide +kernel)
    · rename_i hlt ht
      subst hA
      simp only [real, decide_eq_true_eq, Int.ofNat_eq_natCast, Int.toNat_natCast] at *
      obtain rfl := firstIx_one hx (.at i (by omega) (hbb.1 ht) hb)
      rfl
    · rename_i hlt ht
      have hlt' : i < n := by subst hA; simp only [real, decide_eq_true_eq, Int.ofNat_eq_natCast] at hlt; omega
      refine ⟨⟨i + 1, by omega, fun j hj => ?_⟩, by simp only; omega, cov_of ?_ ?_ ?_⟩
      · by_cases e : j = i
        · subst e
          subst hA
          intro hq
          have := hbb.2 hq
          rw [ht] at this
          cases this
        · exact hb j (by omega)
      · cbv
        subst hA
        exact ⟨congrArg (fun x => DV.v (.int .i64 x)) (up64 hlt' hn), trivial⟩
      · cbv
      · cbv
  · subst hA
    simp only [real, decide_eq_false_iff_not, Int.ofNat_eq_natCast] at *
    obtain rfl := firstIx_one hx (.none fun j hj => hb j (by omega))
    rfl
def st_del (n : Nat) (F : FuncId) (c0 c1 : DV) (i j : Nat) (R : Nat → RowT) : St := ⟨[(6, .c (.d (eI j))), (5, .c (.d (eI i))), (1, .c (.d (.fn F [c0, c1]))), (0, .c (.own 0 0 n 1))], [(0, 1, .arr 13 n fun i => eRow (R i))]⟩
theorem c_DeleteRow2 (n : Nat) (hn : n ≤ 1080000) (g : Nat → RowT) (F : FuncId) (c0 c1 : DV) (d : RowT → Bool) (hc : ∀ r, Meets Try.prog F [xd (eRow r), .c (.d c0), .c (.d c1)] ⟨.one (.c (.d (eB (d r)))), [none, none, none]⟩)
    (k : Nat) (G : Nat → RowT) (hG : Lst zRow (keepN g d n) k G) : Meets Try.prog 66 [.c (.own 13 n fun i => eRow (g i)), .c (.d (.fn F [c0, c1]))] ⟨.one (.c (.own 13 k fun i => eRow (G i))), [none, none]⟩ := by
  have hnL : n ≤ maxLen := Nat.le_trans hn (by decide)
  obtain ⟨x, hx, cI⟩ := c_IndexRow2 n hnL g F c0 c1 (fun r => d r = true) (fun r => ⟨d r, Iff.rfl, hc r⟩)
  refine meets_up (res := .one (.c (.own 13 k fun q => if q < k then eRow (G q) else eRow zRow))) (UpV.row fun i hi => if_pos hi) ?_
  refine meets_of (H := [3, 12]) (EX := EXA) ttok mixed Try.func66 rfl (by kernel_rfl) (by decide) ?_
  generalize hA : real = A
  generalize hM : MeetsB Try.prog = M
  cbv
  repeat' first
    | apply And.intro
    | exact True.intro
    | with_reducible rfl
    | exact same_of hA rfl
    | refine br_of hA (fun _ => ?_) (fun _ => ?_)
    | exact imp_of hA id
    | (refine imp_of hA ?_; subst hA; simp only [real, Bool.true_and]; exact id)
    | (refine ind_of hA ?_; decide +kernel)
    | (refine call_of2 hA hM _ cI (by (subst hA; first | rfl | (simp only [sub0r]; try rfl))) ?_; cbv)
  · rename_i hm1
    have hx1 : x = -1 := by subst hA; exact of_decide_eq_true hm1
    have hall : Lst zRow (keepN g d n) n g := keepN_none fun q hq hd => by
      have := (firstIx_neg hx).1.2 ⟨q, hq, hd⟩
      omega
    have hkn : k = n := hG.1.trans hall.1.symm
    subst hkn
    refine stop_of hA ⟨[(0, .c (.own 0 0 k 1))], [(0, 1, .arr 13 k fun q => if q < k then eRow (G q) else eRow zRow)]⟩ (cov_of ?_ ?_ ?_) ?_
    · cbv; try (subst hA; repeat' first | apply And.intro | exact True.intro | rfl)
    · cbv
      refine ⟨fun q hq => ?_, trivial⟩
      refine Eq.trans (congrArg eRow ((hall.2 q hq).trans (hG.2 q hq).symm)) (if_pos hq).symm
    · cbv; try (subst hA; repeat' first | apply And.intro | exact True.intro | rfl | exact .inr trivial | exact .inl trivial)
    · cbv
      repeat' first
        | apply And.intro
        | exact True.intro
        | with_reducible rfl
        | exact same_of hA rfl
        | refine br_of hA (fun _ => ?_) (fun _ => ?_)
        | exact imp_of hA id
        | (refine imp_of hA ?_; subst hA; simp only [real, Bool.true_and]; exact id)
        | (refine ind_of hA ?_; decide +kernel)
  · rename_i hm1
    have hx1 : ¬ x = -1 := by subst hA; exact of_decide_eq_false hm1
    obtain ⟨i0, hi0, hxi, hd0, hb0⟩ := (firstIx_neg hx).2.1 (Classical.byContradiction fun h => hx1 ((firstIx_neg hx).2.2 h))
    have hl0 : Lst zRow (keepN g d (i0 + 1)) i0 g := by
      rw [keepN_succ, if_pos hd0, List.append_nil]
      exact keepN_none hb0
    refine loop_of hA (α := { y : Nat × Nat × (Nat → RowT) // y.1 ≤ y.2.1 ∧ y.2.1 ≤ n ∧ (∀ q, y.2.1 ≤ q → q < n → y.2.2 q = g q) ∧ Lst zRow (keepN g d y.2.1) y.1 y.2.2 }) (fun y => st_del n F c0 c1 y.1.1 y.1.2.1 y.1.2.2) (fun y => n - y.1.2.1) ⟨(i0, i0 + 1, g), by simp only; omega, by simp only; omega, fun q _ _ => rfl, hl0⟩ ?_ ?_
    · refine cov_of ?_ ?_ ?_
      · cbv; subst hA; subst hxi
        repeat' first | apply And.intro | exact True.intro | exact congrArg (fun x => DV.v (.int .i64 x)) (up64 hi0 hnL) | rfl
      · cbv; try (subst hA; repeat' first | apply And.intro | exact True.intro | rfl | (intro _ _; rfl))
      · cbv; try (subst hA; repeat' first | apply And.intro | exact True.intro | rfl | exact .inr trivial | exact .inl trivial)
    rintro ⟨⟨i, j, R⟩, hij, hj, hR, hL⟩
    have hij : i ≤ j := hij
    have hj : j ≤ n := hj
    have hR : ∀ q, j ≤ q → q < n → R q = g q := hR
    have hL : Lst zRow (keepN g d j) i R := hL
    cbv
    repeat' first
      | apply And.intro
      | exact True.intro
      | with_reducible rfl
      | exact same_of hA rfl
      | refine br_of hA (fun _ => ?_) (fun _ => ?_)
      | exact imp_of hA id
      | (refine imp_of hA ?_; subst hA; simp only [real, Bool.true_and]; exact id)
      | (refine ind_of hA ?_; decide +kernel)
      | (refine inb_lt hA ?_; first | exact lt2_of hA (by assumption) | exact lt_of hA (by assumption))
    · rename_i hlt
      have hlt' : j < n := lt_of hA hlt
      have hin : i < n := by omega
      have ej : A.add 0 (A.nat (Int.ofNat j)) = j := by subst hA; exact Nat.zero_add j
      refine call_of hA hM _ (hc (R (A.add 0 (A.nat (Int.ofNat j))))) ?_
      cbv
      repeat' first
        | apply And.intro
        | exact True.intro
        | with_reducible rfl
        | exact same_of hA rfl
        | refine br_of hA (fun _ => ?_) (fun _ => ?_)
        | exact imp_of hA id
        | (refine imp_of hA ?_; subst hA; simp only [real, Bool.true_and]; exact id)
        | (refine ind_of hA ?_; decide +kernel)
        | exact inb_lt hA hin
      · rename_i hd
        have hd' : ¬ d (g j) = true := by
          rw [← hR j (Nat.le_refl _) hlt']
          intro h
          have := (congrArg (fun q => d (R q)) ej).symm.trans (bnot_t hA hd)
          rw [this] at h; cases h
        refine ⟨⟨(i + 1, j + 1, fun q => if q = i then R j else R q), show i + 1 ≤ j + 1 by omega, show j + 1 ≤ n by omega, fun q hq hqn => ?_, ?_⟩, by simp only; omega, cov_of ?_ ?_ ?_⟩
        · have hq : j + 1 ≤ q := hq
          show (if q = i then R j else R q) = g q
          rw [if_neg (by omega)]; exact hR q (by omega) hqn
        · show Lst zRow (keepN g d (j + 1)) (i + 1) (fun q => if q = i then R j else R q)
          rw [keepN_succ, if_neg hd', ← hR j (Nat.le_refl _) hlt']
          exact lst_push hL fun q _ => rfl
        · cbv; subst hA; repeat' first | apply And.intro | exact True.intro | exact congrArg (fun x => DV.v (.int .i64 x)) (up64 hlt' hnL) | exact congrArg (fun x => DV.v (.int .i64 x)) (up64 hin hnL) | rfl
        · cbv; 
          refine ⟨fun q hq => ?_, trivial⟩
          subst hA
          by_cases e : q = i
          · have e2 : q = 0 + i := by omega
            refine Eq.trans ((if_pos e2).trans (congrArg (fun q => eRow (R q)) (Nat.zero_add j))) (congrArg eRow (if_pos e).symm)
          · have e2 : ¬ q = 0 + i := by omega
            exact (if_neg e2).trans (congrArg eRow (if_neg e).symm)
        · cbv; try (subst hA; repeat' first | apply And.intro | exact True.intro | rfl | exact .inr trivial | exact .inl trivial)
      · rename_i hd
        have hd' : d (g j) = true := by
          rw [← hR j (Nat.le_refl _) hlt']
          exact (congrArg (fun q => d (R q)) ej).symm.trans (bnot_f hA hd)
        refine ⟨⟨(i, j + 1, R), show i ≤ j + 1 by omega, show j + 1 ≤ n by omega, fun q hq hqn => hR q (Nat.le_of_succ_le hq) hqn, ?_⟩, by simp only; omega, cov_of ?_ ?_ ?_⟩
        · show Lst zRow (keepN g d (j + 1)) i R
          rw [keepN_succ, if_pos hd', List.append_nil]; exact hL
        · cbv; subst hA; repeat' first | apply And.intro | exact True.intro | exact congrArg (fun x => DV.v (.int .i64 x)) (up64 hlt' hnL) | exact congrArg (fun x => DV.v (.int .i64 x)) (up64 hin hnL) | rfl
        · cbv; try (subst hA; repeat' first | apply And.intro | exact True.intro | rfl | (intro _ _; rfl))
        · cbv; try (subst hA; repeat' first | apply And.intro | exact True.intro | rfl | exact .inr trivial | exact .inl trivial)
    · subst hA
      show 0 ≤ (i : Int) ∧ (i : Int) ≤ (n : Int) ∧ (n : Int) ≤ (n : Int)
      omega
    · rename_i hge
      have hjn : j = n := by have := ge_of hA hge; omega
      subst hjn
      have hik : i = k := hL.1.trans hG.1.symm
      subst hik
      refine stop_of hA ⟨[(5, .c (.d (eI i))), (0, .c (.own 0 0 j 1))], [(0, 1, .arr 13 j fun q => if q < i then eRow (G q) else eRow zRow)]⟩ (cov_of ?_ ?_ ?_) ?_
      · cbv; try (subst hA; repeat' first | apply And.intro | exact True.intro | rfl)
      · cbv
        refine ⟨fun q hq => ?_, trivial⟩
        subst hA
        by_cases e : q < i
        · have e2 : q < 0 + i := by omega
          exact (if_pos e2).trans ((congrArg eRow ((hL.2 q e).trans (hG.2 q e).symm)).trans (if_pos e).symm)
        · have e2 : ¬ q < 0 + i := by omega
          have e3 : q - (0 + i) < ((j : Int) - (i : Int)).toNat := by omega
          exact (if_neg e2).trans ((if_pos e3).trans (if_neg e).symm)
      · cbv; try (subst hA; repeat' first | apply And.intro | exact True.intro | rfl | exact .inr trivial | exact .inl trivial)
      · cbv
        repeat' first
          | apply And.intro
          | exact True.intro
          | with_reducible rfl
          | exact same_of hA rfl
          | refine br_of hA (fun _ => ?_) (fun _ => ?_)
          | exact imp_of hA id
          | (refine imp_of hA ?_; subst hA; simp only [real, Bool.true_and]; exact id)
          | (refine ind_of hA ?_; decide +kernel)
        · subst hA; show 0 ≤ (0 : Int) ∧ (0 : Int) ≤ (i : Int) ∧ (i : Int) ≤ (j : Int); omega
        · exact same_of hA (by subst hA; rfl)
        · subst hA
          have e : ((i : Int) - 0).toNat = i := by omega
          exact congrArg (fun n => XA.one (XT.c (XV.own 13 n fun q => if q < i then eRow (G q) else eRow zRow))) e
end Go.Rk
/- A mark is taken. -/
namespace Go.Rk
set_option linter.unusedSimpArgs false
set_option linter.unusedVariables false
open Go.Proofs
set_option maxRecDepth 100000
set_option maxHeartbeats 1000000
def EXO : FuncId → List Nat × Bool := fun f => bif nbeq f 65 then ([99], false) else bif nbeq f 66 then ([0], false) else ([], false)
def st_om (j : JobT) (m : Int) (n : Nat) (i : Nat) (R : Nat → RowT) (c : Nat) (P : Nat → PaneT) : St := ⟨[(45, .c (.d (eI i))), (44, .c (.d (eI n))), (8, .c (.bp 1600 1 0)), (6, .c (.bp 384 1 0)), (5, .c (.bp 320 1 0)), (3, .c (.bp 192 1 0))],
  [(1600, 1, .box [.d (eI j.srcs), .d (eI j.tsks), .d (eI j.kind), .d (eI j.size), .d (eI j.step), .d (eI j.late), .d (eI j.tell), .d (eB j.piece), .d (eI j.least), .d (eI j.room), .d (eI m), .own 1473 0 n 1, .own 5000 0 c 1, .d (.v nilS)]), (1473, 1, .arr 13 n fun i => eRow (R i)), (5000, 1, .arr 9 c fun i => ePane (P i)), (384, 1, .box [.d (eI 0), .d (.v nilS)]), (320, 1, .box [.d (eI m)]), (192, 1, .box [.d (eI j.srcs), .d (eI j.tsks), .d (eI j.kind), .d (eI j.size), .d (eI j.step), .d (eI j.late), .d (eI j.tell), .d (eB j.piece), .d (eI j.least), .d (eI j.room)])]⟩
theorem m_OpMark (j : JobT) (mk m : Int) (n : Nat) (hnL : n ≤ maxLen) (hn : n ≤ 1080000) (g : Nat → RowT) (hok : OpOkP j ⟨mk, ⟨n, g, hnL⟩⟩) (hm : 0 ≤ m ∧ m ≤ 1000) (hlt : mk < m) (k : Nat) (G : Nat → RowT) (hG : Lst zRow (keepN (fun i => markR m (g i)) (overB j.late m) n) k G)
    (c : Nat) (P : Nat → PaneT) (hP : Lst zPan (tellN j.piece m g n) c P) : Meets Try.prog 22 [xd (eJob j), .agg [.d (eI mk), .d (.sl 13 n fun i => eRow (g i))], .c (.d (eI m))] ⟨.tup [.agg [.d (eI m), .own 13 k fun i => eRow (G i)], .c (.own 9 c fun i => ePane (P i))], [none, none, none]⟩ := by
  obtain ⟨b1, hb1, cO⟩ := c_OpOk j ⟨mk, ⟨n, g, hnL⟩⟩
  obtain ⟨b2, hb2, cT⟩ := c_isTime m
  have hb1' : b1 = true := hb1.2 hok
  have hb2' : b2 = true := by rw [hb2, decide_eq_true_eq]; exact hm
  subst hb1'
  rw [hb2'] at cT
  have hT : ∀ r, Meets Try.prog 67 [xd (eRow r), .c (.d (.p [eI m])), .c (.d (.p (eJob j)))] ⟨.one (.c (.d (eB (overB j.late m r)))), [none, none, none]⟩ := fun r => c_over j m r _ rfl
  have cD := c_DeleteRow2 n hn (fun i => markR m (g i)) 67 _ _ _ hT k G hG
  have no1 : ∀ {A : Ar}, real = A → A.bite (A.bnot true) true (A.bnot true) = true → False := fun hA h => by subst hA; exact absurd h (by decide)
  have no2 : ∀ {A : Ar}, real = A → A.cmp .leq m mk = true → False := fun hA h => by subst hA; exact absurd (of_decide_eq_true h) (by omega)
  refine meets_of (H := [14]) (EX := EXO) ttok mixed Try.func22 rfl (by kernel_rfl) (by decide) ?_
  generalize hA : real = A
  generalize hM : MeetsB Try.prog = M
  cbv
  repeat' first
    | exact (no1 hA (by assumption)).elim
    | exact (no2 hA (by assumption)).elim
    | apply And.intro
    | exact True.intro
    | with_reducible rfl
    | exact same_of hA rfl
    | refine br_of hA (fun _ => ?_) (fun _ => ?_)
    | exact imp_of hA id
    | (refine imp_of hA ?_; subst hA; simp only [real, Bool.true_and]; exact id)
    | (refine ind_of hA ?_; decide +kernel)
    | (refine call_of hA hM _ cO ?_; cbv)
    | (refine call_of hA hM _ cT ?_; cbv)
    | (refine call_of2 hA hM _ (c_copied mk n hn g) (by subst hA; rfl) ?_; cbv)
  refine loop_of hA (α := { y : Nat × (Nat → RowT) × Nat × (Nat → PaneT) // y.1 ≤ n ∧ (∀ q, q < n → y.2.1 q = if q < y.1 then markR m (g q) else g q) ∧ Lst zPan (tellN j.piece m g y.1) y.2.2.1 y.2.2.2 }) (fun y => st_om j m n y.1.1 y.1.2.1 y.1.2.2.1 y.1.2.2.2) (fun y => n - y.1.1) ⟨(0, g, 0, fun _ => zPan), Nat.zero_le _, fun q _ => (if_neg (Nat.not_lt_zero q)).symm, rfl, fun k h => absurd h (Nat.not_lt_zero k)⟩ ?_ ?_
  · refine cov_promC 1600 5000 1 9 (fun i => ePane zPan) [.d (eI j.srcs), .d (eI j.tsks), .d (eI j.kind), .d (eI j.size), .d (eI j.step), .d (eI j.late), .d (eI j.tell), .d (eB j.piece), .d (eI j.least), .d (eI j.room), .d (eI m), .own 1473 0 n 1] [.d (.v nilS)] rfl rfl rfl (cov_of ?_ ?_ ?_)
    · cbv; try (subst hA; repeat' first | apply And.intro | exact True.intro | rfl | fail)
    · cbv; try (subst hA; repeat' first | apply And.intro | exact True.intro | rfl | (intro _ _; rfl) | (intro k hk; exact absurd hk (Nat.not_lt_zero k)) | fail)
    · cbv; try (subst hA; repeat' first | apply And.intro | exact True.intro | rfl | exact .inr trivial | exact .inl trivial)
  rintro ⟨⟨i, R, c1, P1⟩, hi, hR, hL⟩
  have hi : i ≤ n := hi
  have hR : ∀ q, q < n → R q = if q < i then markR m (g q) else g q := hR
  have hL : Lst zPan (tellN j.piece m g i) c1 P1 := hL
  have hc1 : c1 ≤ i := by rw [hL.1]; exact tellN_len _ _ _ _
  cbv
  repeat' first
    | apply And.intro
    | exact True.intro
    | with_reducible rfl
    | exact same_of hA rfl
    | refine br_of hA (fun _ => ?_) (fun _ => ?_)
    | exact imp_of hA id
    | (refine imp_of hA ?_; subst hA; simp only [real, Bool.true_and]; exact id)
    | (refine ind_of hA ?_; decide +kernel)
    | (refine inb_lt hA ?_; first | exact lt2_of hA (by assumption) | exact lt_of hA (by assumption))
  · rename_i hlt hdue
    have hlt' : i < n := lt2_of hA hlt
    have eq0 : A.add 0 (A.nat (Int.ofNat i)) = i := by subst hA; exact Nat.zero_add i
    have hRi : R i = g i := by rw [hR i hlt', if_neg (Nat.lt_irrefl i)]
    have hh : ∀ q, q = i → A.bite (A.bnot (R q).timely) (A.cmp .leq (R q).win.e m) false = dueB m (g i) := by
      rintro q rfl
      rw [hRi]
      subst hA
      unfold dueB
      show (bif !(g q).timely then decide ((g q).win.e ≤ m) else false) = _
      cases (g q).timely <;> rfl
    have hd : dueB m (g i) = true := (hh _ eq0).symm.trans hdue
    have hq0 : A.add 0 (A.nat (Int.ofNat i)) < n := by rw [eq0]; exact hlt'
    have hT1 := c_tell j m n R (A.add 0 (A.nat (Int.ofNat i))) (.d (.v nilS)) hq0 c1 (by omega) P1 1 (fun q => if q = i then toldR (R i) else R q) (fun z => by rw [eq0]) (fun z => if z < c1 then P1 z else paneP j.piece (R i) 1) (fun z => by rw [eq0])
    refine inl_call hA _ _ _ ⟨fun _ => (by rw [← hM]; exact hT1), ?_, ?_⟩
    · cbv
      exact ⟨⟨.inr trivial, .inr trivial, trivial⟩, trivial⟩
    · cbv
      repeat' first
        | apply And.intro
        | exact True.intro
        | with_reducible rfl
        | exact same_of hA rfl
        | refine br_of hA (fun _ => ?_) (fun _ => ?_)
        | exact imp_of hA id
        | (refine imp_of hA ?_; subst hA; simp only [real, Bool.true_and]; exact id)
        | (refine ind_of hA ?_; decide +kernel)
      refine ⟨⟨(i + 1, fun q => if q = i then toldR (R i) else R q, c1 + 1, fun z => if z < c1 then P1 z else paneP j.piece (R i) 1), hlt', ?_, ?_⟩, by simp only; omega, cov_of ?_ ?_ ?_⟩
      · intro q hq
        show (if q = i then toldR (R i) else R q) = if q < i + 1 then markR m (g q) else g q
        by_cases e : q = i
        · rw [if_pos e, e, if_pos (by omega), hRi]; unfold markR; rw [if_pos hd]
        · rw [if_neg e, hR q hq]
          by_cases h : q < i
          · rw [if_pos h, if_pos (by omega)]
          · rw [if_neg h, if_neg (by omega)]
      · show Lst zPan (tellN j.piece m g (i + 1)) (c1 + 1) _
        rw [tellN_succ, if_pos hd, hRi]
        refine lst_push hL fun q hq => ?_
        show (if q < c1 then P1 q else _) = if q = c1 then _ else P1 q
        by_cases e : q = c1
        · rw [if_pos e, if_neg (by omega)]
        · rw [if_neg e, if_pos (by omega)]
      · cbv; subst hA; repeat' first | apply And.intro | exact True.intro | exact congrArg (fun x => DV.v (.int .i64 x)) (up64 hlt' hnL) | rfl
      · cbv; try (subst hA; repeat' first | apply And.intro | exact True.intro | rfl | (intro _ _; rfl))
      · cbv; try (subst hA; repeat' first | apply And.intro | exact True.intro | rfl | exact .inr trivial | exact .inl trivial)
  · rename_i hlt hdue
    have hlt' : i < n := lt2_of hA hlt
    have eq0 : A.add 0 (A.nat (Int.ofNat i)) = i := by subst hA; exact Nat.zero_add i
    have hRi : R i = g i := by rw [hR i hlt', if_neg (Nat.lt_irrefl i)]
    have hh : ∀ q, q = i → A.bite (A.bnot (R q).timely) (A.cmp .leq (R q).win.e m) false = dueB m (g i) := by
      rintro q rfl
      rw [hRi]
      subst hA
      unfold dueB
      show (bif !(g q).timely then decide ((g q).win.e ≤ m) else false) = _
      cases (g q).timely <;> rfl
    have hd : ¬ dueB m (g i) = true := by
      intro h
      have := (hh _ eq0).symm.trans hdue
      rw [h] at this; cases this
    refine ⟨⟨(i + 1, R, c1, P1), hlt', ?_, ?_⟩, by simp only; omega, cov_of ?_ ?_ ?_⟩
    · intro q hq
      show R q = if q < i + 1 then markR m (g q) else g q
      rw [hR q hq]
      by_cases e : q = i
      · rw [if_neg (by omega), if_pos (by omega), e]; unfold markR; rw [if_neg hd]
      · by_cases h : q < i
        · rw [if_pos h, if_pos (by omega)]
        · rw [if_neg h, if_neg (by omega)]
    · show Lst zPan (tellN j.piece m g (i + 1)) c1 P1
      rw [tellN_succ, if_neg hd, List.append_nil]; exact hL
    · cbv; subst hA; repeat' first | apply And.intro | exact True.intro | exact congrArg (fun x => DV.v (.int .i64 x)) (up64 hlt' hnL) | rfl
    · cbv; try (subst hA; repeat' first | apply And.intro | exact True.intro | rfl | (intro _ _; rfl))
    · cbv; try (subst hA; repeat' first | apply And.intro | exact True.intro | rfl | exact .inr trivial | exact .inl trivial)
  · rename_i hge
    have hin : i = n := by have := ge2_of hA hge; omega
    subst hin
    have hcc : c1 = c := hL.1.trans hP.1.symm
    subst hcc
    refine stop_of hA ⟨[(8, .c (.bp 1600 1 0)), (6, .c (.bp 384 1 0)), (5, .c (.bp 320 1 0)), (3, .c (.bp 192 1 0))], [(1600, 1, .box [.d (eI j.srcs), .d (eI j.tsks), .d (eI j.kind), .d (eI j.size), .d (eI j.step), .d (eI j.late), .d (eI j.tell), .d (eB j.piece), .d (eI j.least), .d (eI j.room), .d (eI m), .own 1473 0 i 1, .own 5000 0 c1 1, .d (.v nilS)]), (1473, 1, .arr 13 i fun q => eRow (markR m (g q))), (5000, 1, .arr 9 c1 fun q => ePane (P q)), (384, 1, .box [.d (eI 0), .d (.v nilS)]), (320, 1, .box [.d (eI m)]), (192, 1, .box [.d (eI j.srcs), .d (eI j.tsks), .d (eI j.kind), .d (eI j.size), .d (eI j.step), .d (eI j.late), .d (eI j.tell), .d (eB j.piece), .d (eI j.least), .d (eI j.room)])]⟩ (cov_of ?_ ?_ ?_) ?_
    · cbv; try (subst hA; repeat' first | apply And.intro | exact True.intro | rfl)
    · cbv
      refine ⟨fun q hq => congrArg eRow ((hR q hq).trans (if_pos hq)), fun q hq => congrArg ePane ((hL.2 q hq).trans (hP.2 q hq).symm), trivial⟩
    · cbv; try (subst hA; repeat' first | apply And.intro | exact True.intro | rfl | exact .inr trivial | exact .inl trivial)
    · cbv
      repeat' first
        | apply And.intro
        | exact True.intro
        | with_reducible rfl
        | exact same_of hA rfl
        | refine br_of hA (fun _ => ?_) (fun _ => ?_)
        | exact imp_of hA id
        | (refine imp_of hA ?_; subst hA; simp only [real, Bool.true_and]; exact id)
        | (refine ind_of hA ?_; decide +kernel)
        | (refine call_of2 hA hM _ cD (by (subst hA; first | rfl | (simp only [sub0r]; try rfl))) ?_; cbv)
        | exact flat_row hA _ _
      all_goals trace_state
end Go.Rk
/- A mark is taken, whole. -/
namespace Go.Rk
set_option linter.unusedSimpArgs false
set_option linter.unusedVariables false
open Go.Proofs
set_option maxRecDepth 100000
set_option maxHeartbeats 1000000
theorem c_OpMark (j : JobT) (s : OpStT) (hn : s.rows.n ≤ 1080000) (m : Int) (x : Int × List RowT × List PaneT) (hx : x = opMarkL j s m) (k : Nat) (G : Nat → RowT) (hG : Lst zRow x.2.1 k G) (c : Nat) (P : Nat → PaneT) (hP : Lst zPan x.2.2 c P) :
    Meets Try.prog 22 [xd (eJob j), .agg [.d (eI s.mark), .d (.sl 13 s.rows.n fun i => eRow (s.rows.g i))], .c (.d (eI m))] ⟨.tup [.agg [.d (eI x.1), .own 13 k fun i => eRow (G i)], .c (.own 9 c fun i => ePane (P i))], [none, none, none]⟩ := by
  obtain ⟨mk, n, g, hnL⟩ := s
  have hn : n ≤ 1080000 := hn
  unfold opMarkL at hx
  by_cases hok : OpOkP j ⟨mk, ⟨n, g, hnL⟩⟩ ∧ (0 ≤ m ∧ m ≤ 1000)
  · rw [if_neg (fun h => h hok)] at hx
    by_cases hmk : m ≤ mk
    · rw [if_pos hmk] at hx
      subst hx
      have hall : Lst zRow ((List.range n).map g) n g := lst_of _ _ _
      have hkn : k = n := hG.1.trans hall.1.symm
      subst hkn
      have hc0 : c = 0 := hP.1
      subst hc0
      refine meets_up (res := .tup [.agg [.d (eI mk), .own 13 k fun i => eRow (g i)], .c (.d (.v nilS))]) ⟨⟨UpV.refl _, UpV.row fun i hi => congrArg eRow ((hall.2 i hi).trans (hG.2 i hi).symm), trivial⟩, UpV.nil 9 fun i => ePane (P i), trivial⟩ ?_
      obtain ⟨b1, hb1, cO⟩ := c_OpOk j ⟨mk, ⟨k, g, hnL⟩⟩
      obtain ⟨b2, hb2, cT⟩ := c_isTime m
      have hb1' : b1 = true := hb1.2 hok.1
      have hb2' : b2 = true := by rw [hb2, decide_eq_true_eq]; exact hok.2
      subst hb1'
      rw [hb2'] at cT
      have no1 : ∀ {A : Ar}, real = A → A.bite (A.bnot true) true (A.bnot true) = true → False := fun hA h => by subst hA; exact absurd h (by decide)
      have no2 : ∀ {A : Ar}, real = A → A.cmp .leq m mk = false → False := fun hA h => by subst hA; exact absurd hmk (of_decide_eq_false h)
      refine meets_of (H := []) (EX := EXO) ttok mixed Try.func22 rfl (by kernel_rfl) (by decide) ?_
      generalize hA : real = A
      generalize hM : MeetsB Try.prog = M
      cbv
      repeat' first
        | exact (no1 hA (by assumption)).elim
        | exact (no2 hA (by assumption)).elim
        | apply And.intro
        | exact True.intro
        | with_reducible rfl
        | exact same_of hA rfl
        | refine br_of hA (fun _ => ?_) (fun _ => ?_)
        | exact imp_of hA id
        | (refine imp_of hA ?_; subst hA; simp only [real, Bool.true_and]; exact id)
        | (refine ind_of hA ?_; decide +kernel)
        | (refine call_of hA hM _ cO ?_; cbv)
        | (refine call_of hA hM _ cT ?_; cbv)
        | (refine call_of2 hA hM _ (c_copied mk k hn g) (by subst hA; rfl) ?_; cbv)
        | exact flat_row hA _ _
      all_goals trace_state
    · rw [if_neg hmk] at hx
      subst hx
      exact m_OpMark j mk m n hnL hn g hok.1 hok.2 (by omega) k G hG c P hP
  · rw [if_pos hok] at hx
    subst hx
    have hk0 : k = 0 := hG.1
    have hc0 : c = 0 := hP.1
    subst hk0 hc0
    refine meets_up (res := .tup [.agg [.d (eI 0), .d (.v nilS)], .c (.d (.v nilS))]) ⟨⟨UpV.refl _, UpV.nil 13 fun i => eRow (G i), trivial⟩, UpV.nil 9 fun i => ePane (P i), trivial⟩ ?_
    obtain ⟨b1, hb1, cO⟩ := c_OpOk j ⟨mk, ⟨n, g, hnL⟩⟩
    obtain ⟨b2, hb2, cT⟩ := c_isTime m
    have hbb : ¬ (b1 = true ∧ b2 = true) := fun h => hok ⟨hb1.1 h.1, by have := h.2; rw [hb2, decide_eq_true_eq] at this; exact this⟩
    have no3 : ∀ {A : Ar}, real = A → A.bite (A.bnot b1) true (A.bnot b2) = false → False := fun hA h => by
      subst hA
      have h : (bif !b1 then true else !b2) = false := h
      cases b1 <;> cases b2 <;> simp at h hbb
    refine meets_of (H := []) (EX := EXO) ttok mixed Try.func22 rfl (by kernel_rfl) (by decide) ?_
    generalize hA : real = A
    generalize hM : MeetsB Try.prog = M
    cbv
    repeat' first
      | exact (no3 hA (by assumption)).elim
      | apply And.intro
      | exact True.intro
      | with_reducible rfl
      | exact same_of hA rfl
      | refine br_of hA (fun _ => ?_) (fun _ => ?_)
      | exact imp_of hA id
      | (refine imp_of hA ?_; subst hA; simp only [real, Bool.true_and]; exact id)
      | (refine ind_of hA ?_; decide +kernel)
      | (refine call_of hA hM _ cO ?_; cbv)
      | (refine call_of hA hM _ cT ?_; cbv)
    all_goals (subst hA; rfl)
end Go.Rk
/- What copy and slices.overlaps do, of elements of any size. -/
namespace Go.Rk
set_option linter.unusedSimpArgs false
set_option linter.unusedVariables false
open Go Go.Proofs
theorem run_copy_k {P : Program} (w : World) (dT sT ty elem : TypeId) (k : Nat) (b o dLen dCap : Nat) (a : Addr) (sLen sCap : Nat) (cs : List Value)
    (hu : P.underlying dT = some (.slice elem)) (hs : (P.info? elem).map (·.size) = some k) (n : Nat) (hm : Nat.min sLen dLen = n) (hn : cs.length = n * k)
    (hsrc : ∀ j v, cs[j]? = some v → w.cell? (a.add j) = some v) (hc : ∀ j, j < cs.length → (w.cell? ⟨b, o + j, none⟩).isSome = true) (hf : ∀ j, j < cs.length → w.frozen? ⟨b, o + j, none⟩ = false) (h1 : ∀ v ∈ cs, v.oneCell' = true) :
    (Builtin.copy_ #[dT, sT] ty #[.slice (some ⟨b, o, none⟩) dLen dCap, .slice (some a) sLen sCap]).run P w = .ok (goInt n) (w.setCells b o cs) := by
  have hl := run_loadCells_list (P := P) w a cs hsrc
  have hst := run_storeCells_cells (P := P) b o cs 0 w (by simpa using hc) (by simpa using hf) h1
  cases hq : P.info? elem with
  | none => simp [hq] at hs
  | some i =>
    have hi : i.size = k := by simpa [hq] using hs
    simp [Builtin.copy_, run_underlying hu, Builtin.lenOf, Builtin.firstCells, sizeOf, typeInfo, hq, hi, hm, ← hn, hl, hst]
theorem setCells_size (b : Nat) : ∀ (vs : List Value) (o : Nat) (w : World), (w.setCells b o vs).heap.size = w.heap.size
  | [], _, _ => rfl
  | v :: r, o, w => by rw [World.setCells, setCells_size b r]; show (w.heap.modify b _).size = _; rw [Array.size_modify]
theorem setCells_env (b : Nat) : ∀ (vs : List Value) (o : Nat) (w : World), (w.setCells b o vs).os = w.os ∧ (w.setCells b o vs).output = w.output ∧ (w.setCells b o vs).tape = w.tape
  | [], _, _ => ⟨rfl, rfl, rfl⟩
  | v :: r, o, w => by
    rw [World.setCells]
    exact setCells_env b r (o + 1) (w.setCell ⟨b, o, none⟩ v)
theorem setCells_other (b : Nat) : ∀ (vs : List Value) (o : Nat) (w : World) (i : Nat), i ≠ b → (w.setCells b o vs).heap[i]? = w.heap[i]?
  | [], _, _, _, _ => rfl
  | v :: r, o, w, i, h => by
    rw [World.setCells, setCells_other b r _ _ i h]
    show (w.heap.modify b _)[i]? = _
    rw [Array.getElem?_modify, if_neg (fun e => h e.symm)]
theorem setCells_at (b : Nat) : ∀ (vs : List Value) (o : Nat) (w : World) (cs : Array Value) (e : TypeId) (fr : Nat × Nat), w.heap[b]? = some (.cells cs e fr) → o + vs.length ≤ cs.size →
    ∃ cs', (w.setCells b o vs).heap[b]? = some (.cells cs' e fr) ∧ cs'.size = cs.size ∧ (∀ j, j < o → cs'[j]? = cs[j]?) ∧ (∀ j, j < vs.length → cs'[o + j]? = vs[j]?) ∧ (∀ j, o + vs.length ≤ j → cs'[j]? = cs[j]?)
  | [], o, w, cs, e, fr, h, _ => ⟨cs, h, rfl, fun _ _ => rfl, fun j hj => absurd hj (Nat.not_lt_zero j), fun _ _ => rfl⟩
  | v :: r, o, w, cs, e, fr, h, hl => by
    have hl' : o + (r.length + 1) ≤ cs.size := by simpa using hl
    have h1 : (w.setCell ⟨b, o, none⟩ v).heap[b]? = some (.cells (cs.setIfInBounds o v) e fr) := by
      show (w.heap.modify b _)[b]? = _
      rw [Array.getElem?_modify, if_pos rfl, h]
      rfl
    obtain ⟨cs', g1, g2, g3, g4, g5⟩ := setCells_at b r (o + 1) (w.setCell ⟨b, o, none⟩ v) _ e fr h1 (by rw [Array.size_setIfInBounds]; omega)
    refine ⟨cs', g1, by rw [g2, Array.size_setIfInBounds], fun j hj => ?_, fun j hj => ?_, fun j hj => ?_⟩
    · rw [g3 j (by omega), Array.getElem?_setIfInBounds, if_neg (by omega)]
    · cases j with
      | zero =>
        rw [Nat.add_zero, g3 o (by omega), Array.getElem?_setIfInBounds, if_pos rfl, if_pos (by omega)]
        rfl
      | succ j =>
        rw [show o + (j + 1) = o + 1 + j by omega, g4 j (by simpa using hj)]
        rfl
    · have hj : o + (r.length + 1) ≤ j := by simpa using hj
      rw [g5 j (by omega), Array.getElem?_setIfInBounds, if_neg (by omega)]
end Go.Rk
