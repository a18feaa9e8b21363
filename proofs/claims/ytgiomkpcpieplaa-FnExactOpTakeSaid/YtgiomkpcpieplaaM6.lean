/- The walk over this seat's functions, part 6: what each of them answers, at all data. -/
import Derived.Test.YtgiomkpcpieplaaM1
import Derived.Test.YtgiomkpcpieplaaM2
import Derived.Test.YtgiomkpcpieplaaM3
import Derived.Test.YtgiomkpcpieplaaM4
import Derived.Test.YtgiomkpcpieplaaM5
/- Small functions: what they answer. -/
namespace Go.Rk
set_option linter.unusedSimpArgs false
set_option linter.unusedVariables false
open Go.Proofs
set_option maxRecDepth 100000 in
theorem c_isNaN (n : Int) : ∃ b, b = decide (False) ∧ Meets Try.prog 131 [.c (.d (eI n))] ⟨.one (.c (.d (eB b))), [none]⟩ := by
  obtain ⟨b, hb⟩ : ∃ b, b = decide (False) := ⟨_, rfl⟩
  refine ⟨b, hb, ?_⟩
  refine meets_of (H := []) (EX := EXA) ttok mixed Try.func131 rfl (by kernel_rfl) (by decide) ?_
  generalize hA : real = A
  generalize hM : MeetsB Try.prog = M
  cbv
  repeat' first
    | apply And.intro
    | exact True.intro
    | with_reducible rfl
    | exact same_of hA rfl
    | refine br_of hA (fun _ => ?_) (fun _ => ?_)
    | exact imp_of hA id
    | (refine imp_of hA ?_; subst hA; simp only [real, Bool.true_and]; exact id)
    | (refine ind_of hA ?_; decide +kernel)
  all_goals subst hA
  all_goals refine congrArg (fun b => XA.one (.c (.d (eB b)))) (Bool.eq_iff_iff.2 ?_)
  all_goals subst_vars
  all_goals try simp only [real, bifA, bifB, bifC, bifD, decide_eq_true_eq, decide_eq_false_iff_not, beq_iff_eq, bne_iff_ne, beq_eq_false_iff_ne, bne_eq_false_iff_eq, ne_eq, Bool.and_eq_true, Bool.or_eq_true, Bool.not_eq_true', Bool.not_eq_false', Bool.and_eq_false_iff, Bool.or_eq_false_iff, Bool.false_eq_true, and_false, false_and, or_false, false_or, and_true, true_and, not_true_eq_false, not_false_eq_true, true_iff, false_iff, IntKind.wrap_i64] at *
  all_goals first
    | omega
    | skip
set_option maxRecDepth 100000 in
theorem c_Compare (a b : Int) : ∃ x : Int, x = (if a < b then -1 else if b < a then 1 else 0) ∧ Meets Try.prog 97 [.c (.d (eI a)), .c (.d (eI b))] ⟨.one (.c (.d (eI x))), [none, none]⟩ := by
  obtain ⟨x, hx⟩ : ∃ x : Int, x = (if a < b then -1 else if b < a then 1 else 0) := ⟨_, rfl⟩
  refine ⟨x, hx, ?_⟩
  refine meets_of (H := []) (EX := EXA) ttok mixed Try.func97 rfl (by kernel_rfl) (by decide) ?_
  generalize hA : real = A
  generalize hM : MeetsB Try.prog = M
  cbv
  repeat' first
    | apply And.intro
    | exact True.intro
    | with_reducible rfl
    | exact same_of hA rfl
    | refine br_of hA (fun _ => ?_) (fun _ => ?_)
    | exact imp_of hA id
    | (refine imp_of hA ?_; subst hA; simp only [real, Bool.true_and]; exact id)
    | (refine ind_of hA ?_; decide +kernel)
    | (refine call_ex hA hM (c_isNaN _) (fun _ _ => ?_); cbv)
  all_goals subst hA
  all_goals refine congrArg (fun x => XA.one (.c (.d (eI x)))) ?_
  all_goals subst_vars
  all_goals try simp only [real, bifA, bifB, bifC, bifD, decide_eq_true_eq, decide_eq_false_iff_not, beq_iff_eq, bne_iff_ne, beq_eq_false_iff_ne, bne_eq_false_iff_eq, ne_eq, Bool.and_eq_true, Bool.or_eq_true, Bool.not_eq_true', Bool.not_eq_false', Bool.and_eq_false_iff, Bool.or_eq_false_iff, Bool.false_eq_true, reduceCtorEq] at *
  all_goals first
    | omega
    | skip
/-- The first that is not 0. -/
inductive FirstNz (n : Nat) (g : Nat → Int) : Int → Prop
  | at (i : Nat) (h : i < n) (hi : g i ≠ 0) (hb : ∀ j, j < i → g j = 0) : FirstNz n g (g i)
  | none (hb : ∀ j, j < n → g j = 0) : FirstNz n g 0
theorem firstNz_ex (n : Nat) (g : Nat → Int) : ∃ x, FirstNz n g x := by
  by_cases h : ∃ i, i < n ∧ g i ≠ 0
  · obtain ⟨i, hi⟩ := h
    induction i using Nat.strongRecOn with
    | _ i ih =>
      by_cases hm : ∃ j, j < i ∧ g j ≠ 0
      · obtain ⟨j, hj1, hj2⟩ := hm
        exact ih j hj1 ⟨by omega, hj2⟩
      · exact ⟨_, .at i hi.1 hi.2 fun j hj => Classical.not_not.1 fun e => hm ⟨j, hj, e⟩⟩
  · exact ⟨0, .none fun j hj => Classical.not_not.1 fun e => h ⟨j, hj, e⟩⟩
theorem firstNz_one {n : Nat} {g : Nat → Int} {x y : Int} (h : FirstNz n g x) (h' : FirstNz n g y) : x = y := by
  cases h with
  | «at» i hi hh hb =>
    cases h' with
    | «at» j hj hh' hb' =>
      have : i = j := by
        rcases Nat.lt_trichotomy i j with h | h | h
        · exact absurd (hb' i h) hh
        · exact h
        · exact absurd (hb j h) hh'
      rw [this]
    | none hb' => exact absurd (hb' i hi) hh
  | none hb =>
    cases h' with
    | «at» j hj hh' hb' => exact absurd (hb j hj) hh'
    | none hb' => rfl
theorem firstNz_two {g : Nat → Int} {x : Int} (h : FirstNz 2 g x) : x = if g 0 = 0 then g 1 else g 0 := by
  refine firstNz_one h ?_
  by_cases h0 : g 0 = 0
  · rw [if_pos h0]
    by_cases h1 : g 1 = 0
    · rw [h1]; exact .none fun j hj => by rcases j with _ | _ | j; exact h0; exact h1; omega
    · exact .at 1 (by omega) h1 fun j hj => by rcases j with _ | j; exact h0; omega
  · rw [if_neg h0]; exact .at 0 (by omega) h0 fun j hj => by omega
def stOr (n : Nat) (g : Nat → Int) (i : Nat) : St := ⟨[(8, .c (.d (eI i))), (7, .c (.d (eI n))), (6, .c (.d (.sl 1 n fun i => [eI (g i)]))), (3, .c (.d (eI 0)))], []⟩
set_option maxRecDepth 100000 in
theorem m_Or (n : Nat) (hn : n ≤ maxLen) (g : Nat → Int) (x : Int) (hx : FirstNz n g x) : Meets Try.prog 96 [.c (.d (.sl 1 n fun i => [eI (g i)]))] ⟨.one (.c (.d (eI x))), [none]⟩ := by
  refine meets_of (H := []) (EX := EXA) ttok mixed Try.func96 rfl (by kernel_rfl) (by decide) ?_
  generalize hA : real = A
  generalize hM : MeetsB Try.prog = M
  cbv
  repeat' first
    | apply And.intro
    | exact True.intro
    | with_reducible rfl
    | exact same_of hA rfl
    | refine br_of hA (fun _ => ?_) (fun _ => ?_)
    | exact imp_of hA id
    | (refine imp_of hA ?_; subst hA; simp only [real, Bool.true_and]; exact id)
    | (refine ind_of hA ?_; decide +kernel)
  refine loop_of hA (α := { i : Nat // i ≤ n ∧ ∀ j, j < i → g j = 0 }) (fun x => stOr n g x.1) (fun x => n - x.1) ⟨0, Nat.zero_le _, fun j h => absurd h (Nat.not_lt_zero _)⟩ ?_ ?_
  · refine cov_of ?_ ?_ ?_
    · cbv; subst hA; exact ⟨rfl, rfl, trivial⟩
    · cbv
    · cbv
  rintro ⟨i, hi, hb⟩
  cbv
  repeat' first
    | apply And.intro
    | exact True.intro
    | with_reducible rfl
    | exact same_of hA rfl
    | refine br_of hA (fun _ => ?_) (fun _ => ?_)
    | exact imp_of hA id
    | (refine imp_of hA ?_; subst hA; simp only [real, Bool.true_and]; exact id)
    | (refine ind_of hA ?_; decide +kernel)
    | (refine inb_of hA fun _ => ?_; subst hA; simp only [real, decide_eq_true_eq, Int.ofNat_eq_natCast] at *; omega)
  · rename_i hlt hne
    subst hA
    simp only [real, decide_eq_true_eq, Int.ofNat_eq_natCast, Int.toNat_natCast, bne_iff_ne] at *
    obtain rfl := firstNz_one hx (.at i (by omega) hne hb)
    rfl
  · rename_i hlt hne
    have hlt' : i < n := by subst hA; simp only [real, decide_eq_true_eq, Int.ofNat_eq_natCast] at hlt; omega
    refine ⟨⟨i + 1, by omega, fun j hj => ?_⟩, by simp only; omega, cov_of ?_ ?_ ?_⟩
    · by_cases e : j = i
      · subst e
        subst hA
        simpa [real] using hne
      · exact hb j (by omega)
    · cbv
      subst hA
      exact ⟨congrArg (fun x => DV.v (.int .i64 x)) (up64 hlt' hn), trivial⟩
    · cbv
    · cbv
  · subst hA
    simp only [real, decide_eq_false_iff_not, Int.ofNat_eq_natCast] at *
    obtain rfl := firstNz_one hx (.none fun j hj => hb j (by omega))
    rfl
theorem two_of {A : Ar} (hA : real = A) (a b : Int) : A.sub 0 (A.app 1 (A.rep [eI a]) (A.app 1 (A.rep [eI b]) (A.rep [eI 0]))) = fun i => [eI (if i = 0 then a else if i = 1 then b else 0)] := by
  subst hA
  funext i
  rcases i with _ | _ | i
  · rfl
  · rfl
  · simp [real]
theorem c_Or (a b : Int) : ∃ x : Int, x = (if a = 0 then b else a) ∧ Meets Try.prog 96 [.c (.d (.sl 1 2 fun i => [eI (if i = 0 then a else if i = 1 then b else 0)]))] ⟨.one (.c (.d (eI x))), [none]⟩ := by
  obtain ⟨x, hx⟩ := firstNz_ex 2 fun i => if i = 0 then a else if i = 1 then b else 0
  exact ⟨x, firstNz_two hx, m_Or 2 (by decide) _ x hx⟩
set_option maxRecDepth 100000 in
theorem c_wcompare (s e s2 e2 : Int) : ∃ x : Int, x = (if s < s2 then -1 else if s2 < s then 1 else if e < e2 then -1 else if e2 < e then 1 else 0) ∧ Meets Try.prog 98 [.agg [.d (eI s), .d (eI e)], .agg [.d (eI s2), .d (eI e2)]] ⟨.one (.c (.d (eI x))), [none, none]⟩ := by
  obtain ⟨x, hx⟩ : ∃ x : Int, x = (if s < s2 then -1 else if s2 < s then 1 else if e < e2 then -1 else if e2 < e then 1 else 0) := ⟨_, rfl⟩
  refine ⟨x, hx, ?_⟩
  refine meets_of (H := []) (EX := EXA) ttok mixed Try.func98 rfl (by kernel_rfl) (by decide) ?_
  generalize hA : real = A
  generalize hM : MeetsB Try.prog = M
  cbv
  repeat' first
    | apply And.intro
    | exact True.intro
    | with_reducible rfl
    | exact same_of hA rfl
    | refine br_of hA (fun _ => ?_) (fun _ => ?_)
    | exact imp_of hA id
    | (refine imp_of hA ?_; subst hA; simp only [real, Bool.true_and]; exact id)
    | (refine ind_of hA ?_; decide +kernel)
    | (refine call_ex hA hM (c_Compare _ _) (fun _ _ => ?_); cbv)
    | (refine call_ex2 hA hM (c_Or _ _) (congrArg (fun f => [XT.c (.d (.sl 1 2 f))]) (two_of hA _ _)) (fun _ _ => ?_); cbv)
  all_goals subst hA
  all_goals refine congrArg (fun x => XA.one (.c (.d (eI x)))) ?_
  all_goals subst_vars
  all_goals try simp only [real, bifA, bifB, bifC, bifD, decide_eq_true_eq, decide_eq_false_iff_not, beq_iff_eq, bne_iff_ne, beq_eq_false_iff_ne, bne_eq_false_iff_eq, ne_eq, Bool.and_eq_true, Bool.or_eq_true, Bool.not_eq_true', Bool.not_eq_false', Bool.and_eq_false_iff, Bool.or_eq_false_iff, Bool.false_eq_true, reduceCtorEq] at *
  all_goals first
    | omega
    | skip
set_option maxRecDepth 100000 in
theorem c_rcompare (r q : RowT) : ∃ x : Int, x = (if r.key < q.key then -1 else if q.key < r.key then 1 else if r.win.s < q.win.s then -1 else if q.win.s < r.win.s then 1 else if r.win.e < q.win.e then -1 else if q.win.e < r.win.e then 1 else 0) ∧ Meets Try.prog 52 [xd (eRow r), xd (eRow q)] ⟨.one (.c (.d (eI x))), [none, none]⟩ := by
  obtain ⟨x, hx⟩ : ∃ x : Int, x = (if r.key < q.key then -1 else if q.key < r.key then 1 else if r.win.s < q.win.s then -1 else if q.win.s < r.win.s then 1 else if r.win.e < q.win.e then -1 else if q.win.e < r.win.e then 1 else 0) := ⟨_, rfl⟩
  refine ⟨x, hx, ?_⟩
  refine meets_of (H := []) (EX := EXA) ttok mixed Try.func52 rfl (by kernel_rfl) (by decide) ?_
  generalize hA : real = A
  generalize hM : MeetsB Try.prog = M
  cbv
  repeat' first
    | apply And.intro
    | exact True.intro
    | with_reducible rfl
    | exact same_of hA rfl
    | refine br_of hA (fun _ => ?_) (fun _ => ?_)
    | exact imp_of hA id
    | (refine imp_of hA ?_; subst hA; simp only [real, Bool.true_and]; exact id)
    | (refine ind_of hA ?_; decide +kernel)
    | (refine call_ex hA hM (c_Compare _ _) (fun _ _ => ?_); cbv)
    | (refine call_ex hA hM (c_wcompare _ _ _ _) (fun _ _ => ?_); cbv)
    | (refine call_ex2 hA hM (c_Or _ _) (congrArg (fun f => [XT.c (.d (.sl 1 2 f))]) (two_of hA _ _)) (fun _ _ => ?_); cbv)
  all_goals subst hA
  all_goals refine congrArg (fun x => XA.one (.c (.d (eI x)))) ?_
  all_goals subst_vars
  all_goals try simp only [real, bifA, bifB, bifC, bifD, decide_eq_true_eq, decide_eq_false_iff_not, beq_iff_eq, bne_iff_ne, beq_eq_false_iff_ne, bne_eq_false_iff_eq, ne_eq, Bool.and_eq_true, Bool.or_eq_true, Bool.not_eq_true', Bool.not_eq_false', Bool.and_eq_false_iff, Bool.or_eq_false_iff, Bool.false_eq_true, reduceCtorEq] at *
  all_goals first
    | omega
    | skip
set_option maxRecDepth 100000 in
theorem c_WinTouch (s e s2 e2 : Int) : ∃ b, b = decide (s < e2 ∧ s2 < e) ∧ Meets Try.prog 54 [.agg [.d (eI s), .d (eI e)], .agg [.d (eI s2), .d (eI e2)]] ⟨.one (.c (.d (eB b))), [none, none]⟩ := by
  obtain ⟨b, hb⟩ : ∃ b, b = decide (s < e2 ∧ s2 < e) := ⟨_, rfl⟩
  refine ⟨b, hb, ?_⟩
  refine meets_of (H := []) (EX := EXA) ttok mixed Try.func54 rfl (by kernel_rfl) (by decide) ?_
  generalize hA : real = A
  generalize hM : MeetsB Try.prog = M
  cbv
  repeat' first
    | apply And.intro
    | exact True.intro
    | with_reducible rfl
    | exact same_of hA rfl
    | refine br_of hA (fun _ => ?_) (fun _ => ?_)
    | exact imp_of hA id
    | (refine imp_of hA ?_; subst hA; simp only [real, Bool.true_and]; exact id)
    | (refine ind_of hA ?_; decide +kernel)
  all_goals subst hA
  all_goals refine congrArg (fun b => XA.one (.c (.d (eB b)))) (Bool.eq_iff_iff.2 ?_)
  all_goals subst_vars
  all_goals try simp only [real, bifA, bifB, bifC, bifD, decide_eq_true_eq, decide_eq_false_iff_not, beq_iff_eq, bne_iff_ne, beq_eq_false_iff_ne, bne_eq_false_iff_eq, ne_eq, Bool.and_eq_true, Bool.or_eq_true, Bool.not_eq_true', Bool.not_eq_false', Bool.and_eq_false_iff, Bool.or_eq_false_iff, Bool.false_eq_true, and_false, false_and, or_false, false_or, and_true, true_and, not_true_eq_false, not_false_eq_true, true_iff, false_iff, IntKind.wrap_i64] at *
  all_goals first
    | omega
    | skip
set_option maxRecDepth 100000 in
theorem c_sWinTouch (s e s2 e2 : Int) : ∃ b, b = decide (s < e2 ∧ s2 < e) ∧ Meets Try.prog 47 [.agg [.d (eI s), .d (eI e)], .agg [.d (eI s2), .d (eI e2)]] ⟨.one (.c (.d (eB b))), [none, none]⟩ := by
  obtain ⟨b, hb⟩ : ∃ b, b = decide (s < e2 ∧ s2 < e) := ⟨_, rfl⟩
  refine ⟨b, hb, ?_⟩
  refine meets_of (H := []) (EX := EXA) ttok mixed Try.func47 rfl (by kernel_rfl) (by decide) ?_
  generalize hA : real = A
  generalize hM : MeetsB Try.prog = M
  cbv
  repeat' first
    | apply And.intro
    | exact True.intro
    | with_reducible rfl
    | exact same_of hA rfl
    | refine br_of hA (fun _ => ?_) (fun _ => ?_)
    | exact imp_of hA id
    | (refine imp_of hA ?_; subst hA; simp only [real, Bool.true_and]; exact id)
    | (refine ind_of hA ?_; decide +kernel)
  all_goals subst hA
  all_goals refine congrArg (fun b => XA.one (.c (.d (eB b)))) (Bool.eq_iff_iff.2 ?_)
  all_goals subst_vars
  all_goals try simp only [real, bifA, bifB, bifC, bifD, decide_eq_true_eq, decide_eq_false_iff_not, beq_iff_eq, bne_iff_ne, beq_eq_false_iff_ne, bne_eq_false_iff_eq, ne_eq, Bool.and_eq_true, Bool.or_eq_true, Bool.not_eq_true', Bool.not_eq_false', Bool.and_eq_false_iff, Bool.or_eq_false_iff, Bool.false_eq_true, and_false, false_and, or_false, false_or, and_true, true_and, not_true_eq_false, not_false_eq_true, true_iff, false_iff, IntKind.wrap_i64] at *
  all_goals first
    | omega
    | skip
set_option maxRecDepth 100000 in
theorem c_l2Less (s e s2 e2 : Int) : ∃ b, b = decide (s < s2 ∨ (s = s2 ∧ e < e2)) ∧ Meets Try.prog 89 [.agg [.d (eI s), .d (eI e)], .agg [.d (eI s2), .d (eI e2)]] ⟨.one (.c (.d (eB b))), [none, none]⟩ := by
  obtain ⟨b, hb⟩ : ∃ b, b = decide (s < s2 ∨ (s = s2 ∧ e < e2)) := ⟨_, rfl⟩
  refine ⟨b, hb, ?_⟩
  refine meets_of (H := []) (EX := EXA) ttok mixed Try.func89 rfl (by kernel_rfl) (by decide) ?_
  generalize hA : real = A
  generalize hM : MeetsB Try.prog = M
  cbv
  repeat' first
    | apply And.intro
    | exact True.intro
    | with_reducible rfl
    | exact same_of hA rfl
    | refine br_of hA (fun _ => ?_) (fun _ => ?_)
    | exact imp_of hA id
    | (refine imp_of hA ?_; subst hA; simp only [real, Bool.true_and]; exact id)
    | (refine ind_of hA ?_; decide +kernel)
  all_goals subst hA
  all_goals refine congrArg (fun b => XA.one (.c (.d (eB b)))) (Bool.eq_iff_iff.2 ?_)
  all_goals subst_vars
  all_goals try simp only [real, bifA, bifB, bifC, bifD, decide_eq_true_eq, decide_eq_false_iff_not, beq_iff_eq, bne_iff_ne, beq_eq_false_iff_ne, bne_eq_false_iff_eq, ne_eq, Bool.and_eq_true, Bool.or_eq_true, Bool.not_eq_true', Bool.not_eq_false', Bool.and_eq_false_iff, Bool.or_eq_false_iff, Bool.false_eq_true, and_false, false_and, or_false, false_or, and_true, true_and, not_true_eq_false, not_false_eq_true, true_iff, false_iff, IntKind.wrap_i64] at *
  all_goals first
    | omega
    | skip
set_option maxRecDepth 100000 in
theorem c_l5Ahead (k s e k2 s2 e2 : Int) : ∃ b, b = decide (k < k2 ∨ (k = k2 ∧ (s < s2 ∨ (s = s2 ∧ e < e2)))) ∧ Meets Try.prog 46 [.c (.d (eI k)), .agg [.d (eI s), .d (eI e)], .c (.d (eI k2)), .agg [.d (eI s2), .d (eI e2)]] ⟨.one (.c (.d (eB b))), [none, none, none, none]⟩ := by
  obtain ⟨b, hb⟩ : ∃ b, b = decide (k < k2 ∨ (k = k2 ∧ (s < s2 ∨ (s = s2 ∧ e < e2)))) := ⟨_, rfl⟩
  refine ⟨b, hb, ?_⟩
  refine meets_of (H := []) (EX := EXA) ttok mixed Try.func46 rfl (by kernel_rfl) (by decide) ?_
  generalize hA : real = A
  generalize hM : MeetsB Try.prog = M
  cbv
  repeat' first
    | apply And.intro
    | exact True.intro
    | with_reducible rfl
    | exact same_of hA rfl
    | refine br_of hA (fun _ => ?_) (fun _ => ?_)
    | exact imp_of hA id
    | (refine imp_of hA ?_; subst hA; simp only [real, Bool.true_and]; exact id)
    | (refine ind_of hA ?_; decide +kernel)
    | (refine call_ex hA hM (c_l2Less _ _ _ _) (fun _ _ => ?_); cbv)
  all_goals subst hA
  all_goals refine congrArg (fun b => XA.one (.c (.d (eB b)))) (Bool.eq_iff_iff.2 ?_)
  all_goals subst_vars
  all_goals try simp only [real, bifA, bifB, bifC, bifD, decide_eq_true_eq, decide_eq_false_iff_not, beq_iff_eq, bne_iff_ne, beq_eq_false_iff_ne, bne_eq_false_iff_eq, ne_eq, Bool.and_eq_true, Bool.or_eq_true, Bool.not_eq_true', Bool.not_eq_false', Bool.and_eq_false_iff, Bool.or_eq_false_iff, Bool.false_eq_true, and_false, false_and, or_false, false_or, and_true, true_and, not_true_eq_false, not_false_eq_true, true_iff, false_iff, IntKind.wrap_i64] at *
  all_goals first
    | omega
    | skip
set_option maxRecDepth 100000 in
theorem c_AggOk (n sum least most : Int) : ∃ b, b = decide ((n = 0 ∧ sum = 0 ∧ least = 0 ∧ most = 0) ∨ (n ≠ 0 ∧ (1 ≤ n ∧ n ≤ 1000) ∧ (-9 ≤ least ∧ least ≤ 9) ∧ (least ≤ most ∧ most ≤ 9) ∧ (IntKind.i64.wrap (n * least) ≤ sum ∧ sum ≤ IntKind.i64.wrap (n * most)))) ∧ Meets Try.prog 95 [.agg [.d (eI n), .d (eI sum), .d (eI least), .d (eI most)]] ⟨.one (.c (.d (eB b))), [none]⟩ := by
  obtain ⟨b, hb⟩ : ∃ b, b = decide ((n = 0 ∧ sum = 0 ∧ least = 0 ∧ most = 0) ∨ (n ≠ 0 ∧ (1 ≤ n ∧ n ≤ 1000) ∧ (-9 ≤ least ∧ least ≤ 9) ∧ (least ≤ most ∧ most ≤ 9) ∧ (IntKind.i64.wrap (n * least) ≤ sum ∧ sum ≤ IntKind.i64.wrap (n * most)))) := ⟨_, rfl⟩
  refine ⟨b, hb, ?_⟩
  refine meets_of (H := []) (EX := EXA) ttok mixed Try.func95 rfl (by kernel_rfl) (by decide) ?_
  generalize hA : real = A
  generalize hM : MeetsB Try.prog = M
  cbv
  repeat' first
    | apply And.intro
    | exact True.intro
    | with_reducible rfl
    | exact same_of hA rfl
    | refine br_of hA (fun _ => ?_) (fun _ => ?_)
    | exact imp_of hA id
    | (refine imp_of hA ?_; subst hA; simp only [real, Bool.true_and]; exact id)
    | (refine ind_of hA ?_; decide +kernel)
    | (refine call_ex hA hM (c_in _ _ _) (fun _ _ => ?_); cbv)
  all_goals subst hA
  all_goals refine congrArg (fun b => XA.one (.c (.d (eB b)))) (Bool.eq_iff_iff.2 ?_)
  all_goals subst_vars
  all_goals try simp only [real, bifA, bifB, bifC, bifD, decide_eq_true_eq, decide_eq_false_iff_not, beq_iff_eq, bne_iff_ne, beq_eq_false_iff_ne, bne_eq_false_iff_eq, ne_eq, Bool.and_eq_true, Bool.or_eq_true, Bool.not_eq_true', Bool.not_eq_false', Bool.and_eq_false_iff, Bool.or_eq_false_iff, Bool.false_eq_true, and_false, false_and, or_false, false_or, and_true, true_and, not_true_eq_false, not_false_eq_true, true_iff, false_iff, IntKind.wrap_i64] at *
  all_goals first
    | omega
    | skip
set_option maxRecDepth 100000 in
theorem c_sAggOk (n sum least most : Int) : ∃ b, b = decide ((n = 0 ∧ sum = 0 ∧ least = 0 ∧ most = 0) ∨ (n ≠ 0 ∧ (1 ≤ n ∧ n ≤ 1000) ∧ (-9 ≤ least ∧ least ≤ 9) ∧ (least ≤ most ∧ most ≤ 9) ∧ (IntKind.i64.wrap (n * least) ≤ sum ∧ sum ≤ IntKind.i64.wrap (n * most)))) ∧ Meets Try.prog 88 [.agg [.d (eI n), .d (eI sum), .d (eI least), .d (eI most)]] ⟨.one (.c (.d (eB b))), [none]⟩ := by
  obtain ⟨b, hb⟩ : ∃ b, b = decide ((n = 0 ∧ sum = 0 ∧ least = 0 ∧ most = 0) ∨ (n ≠ 0 ∧ (1 ≤ n ∧ n ≤ 1000) ∧ (-9 ≤ least ∧ least ≤ 9) ∧ (least ≤ most ∧ most ≤ 9) ∧ (IntKind.i64.wrap (n * least) ≤ sum ∧ sum ≤ IntKind.i64.wrap (n * most)))) := ⟨_, rfl⟩
  refine ⟨b, hb, ?_⟩
  refine meets_of (H := []) (EX := EXA) ttok mixed Try.func88 rfl (by kernel_rfl) (by decide) ?_
  generalize hA : real = A
  generalize hM : MeetsB Try.prog = M
  cbv
  repeat' first
    | apply And.intro
    | exact True.intro
    | with_reducible rfl
    | exact same_of hA rfl
    | refine br_of hA (fun _ => ?_) (fun _ => ?_)
    | exact imp_of hA id
    | (refine imp_of hA ?_; subst hA; simp only [real, Bool.true_and]; exact id)
    | (refine ind_of hA ?_; decide +kernel)
    | (refine call_ex hA hM (c_l1In _ _ _) (fun _ _ => ?_); cbv)
  all_goals subst hA
  all_goals refine congrArg (fun b => XA.one (.c (.d (eB b)))) (Bool.eq_iff_iff.2 ?_)
  all_goals subst_vars
  all_goals try simp only [real, bifA, bifB, bifC, bifD, decide_eq_true_eq, decide_eq_false_iff_not, beq_iff_eq, bne_iff_ne, beq_eq_false_iff_ne, bne_eq_false_iff_eq, ne_eq, Bool.and_eq_true, Bool.or_eq_true, Bool.not_eq_true', Bool.not_eq_false', Bool.and_eq_false_iff, Bool.or_eq_false_iff, Bool.false_eq_true, and_false, false_and, or_false, false_or, and_true, true_and, not_true_eq_false, not_false_eq_true, true_iff, false_iff, IntKind.wrap_i64] at *
  all_goals first
    | omega
    | skip
end Go.Rk
/- First places. -/
namespace Go.Rk
set_option linter.unusedSimpArgs false
set_option linter.unusedVariables false
open Go.Proofs
def stIxRow1 (n : Nat) (g : Nat → RowT) (F : FuncId) (c0 : DV) (i : Nat) : St := ⟨[(8, .c (.d (eI i))), (7, .c (.d (eI n))), (0, .c (.d (.sl 13 n fun i => eRow (g i)))), (1, .c (.d (.fn F [c0])))], []⟩
set_option maxRecDepth 100000 in
theorem c_IndexRow1 (n : Nat) (hn : n ≤ maxLen) (g : Nat → RowT) (F : FuncId) (c0 : DV) (Q : RowT → Prop) (hc : ∀ r, ∃ b, (b = true ↔ Q r) ∧ Meets Try.prog F [xd (eRow r), .c (.d c0)] ⟨.one (.c (.d (eB b))), [none, none]⟩) : ∃ x, FirstIx n (fun i => Q (g i)) x ∧ Meets Try.prog 99 [.c (.d (.sl 13 n fun i => eRow (g i))), .c (.d (.fn F [c0]))] ⟨.one (.c (.d (eI x))), [none, none]⟩ := by
  obtain ⟨x, hx⟩ := firstIx_ex n fun i => Q (g i)
  refine ⟨x, hx, ?_⟩
  refine meets_of (H := []) (EX := EXA) ttok mixed Try.func99 rfl (by kernel_rfl) (by decide) ?_
  generalize hA : real = A
  generalize hM : MeetsB Try.prog = M
  cbv
  repeat' first
    | apply And.intro
    | exact True.intro
    | with_reducible rfl
    | exact same_of hA rfl
    | refine br_of hA (fun _ => ?_) (fun _ => ?_)
    | exact imp_of hA id
    | (refine imp_of hA ?_; subst hA; simp only [real, Bool.true_and]; exact id)
    | (refine ind_of hA ?_; decide +kernel)
  refine loop_of hA (α := { i : Nat // i ≤ n ∧ ∀ j, j < i → ¬ Q (g j) }) (fun x => stIxRow1 n g F c0 x.1) (fun x => n - x.1) ⟨0, Nat.zero_le _, fun j h => absurd h (Nat.not_lt_zero _)⟩ ?_ ?_
  · refine cov_of ?_ ?_ ?_
    · cbv; subst hA; exact ⟨rfl, rfl, trivial⟩
    · cbv
    · cbv
  rintro ⟨i, hi, hb⟩
  cbv
  repeat' first
    | apply And.intro
    | exact True.intro
    | with_reducible rfl
    | exact same_of hA rfl
    | refine br_of hA (fun _ => ?_) (fun _ => ?_)
    | exact imp_of hA id
    | (refine imp_of hA ?_; subst hA; simp only [real, Bool.true_and]; exact id)
    | (refine ind_of hA ?_; decide +kernel)
    | (refine inb_of hA fun _ => ?_; subst hA; simp only [real, decide_eq_true_eq, Int.ofNat_eq_natCast] at *; omega)
  · refine call_ex hA hM (hc (g (A.nat (Int.ofNat i)))) (fun b hbb => ?_)
    cbv
    repeat' first
      | apply And.intro
      | exact True.intro
      | with_reducible rfl
      | exact same_of hA rfl
      | refine br_of hA (fun _ => ?_) (fun _ => ?_)
      | exact imp_of hA id
      | (refine imp_of hA ?_; subst hA; simp only [real, Bool.true_and]; exact id)
      | (refine ind_of hA ?_; decide +kernel)
    · rename_i hlt ht
      subst hA
      simp only [real, decide_eq_true_eq, Int.ofNat_eq_natCast, Int.toNat_natCast] at *
      obtain rfl := firstIx_one hx (.at i (by omega) (hbb.1 ht) hb)
      rfl
    · rename_i hlt ht
      have hlt' : i < n := by subst hA; simp only [real, decide_eq_true_eq, Int.ofNat_eq_natCast] at hlt; omega
      refine ⟨⟨i + 1, by omega, fun j hj => ?_⟩, by simp only; omega, cov_of ?_ ?_ ?_⟩
      · by_cases e : j = i
        · subst e
          subst hA
          intro hq
          have := hbb.2 hq
          rw [ht] at this
          cases this
        · exact hb j (by omega)
      · cbv
        subst hA
        exact ⟨congrArg (fun x => DV.v (.int .i64 x)) (up64 hlt' hn), trivial⟩
      · cbv
      · cbv
  · subst hA
    simp only [real, decide_eq_false_iff_not, Int.ofNat_eq_natCast] at *
    obtain rfl := firstIx_one hx (.none fun j hj => hb j (by omega))
    rfl
set_option maxRecDepth 100000 in
theorem c_ContainsRow1 (n : Nat) (hn : n ≤ maxLen) (g : Nat → RowT) (F : FuncId) (c0 : DV) (Q : RowT → Prop) (hc : ∀ r, ∃ b, (b = true ↔ Q r) ∧ Meets Try.prog F [xd (eRow r), .c (.d c0)] ⟨.one (.c (.d (eB b))), [none, none]⟩) : ∃ b, (b = true ↔ ∃ i, i < n ∧ Q (g i)) ∧ Meets Try.prog 55 [.c (.d (.sl 13 n fun i => eRow (g i))), .c (.d (.fn F [c0]))] ⟨.one (.c (.d (eB b))), [none, none]⟩ := by
  obtain ⟨x, hx, hm⟩ := c_IndexRow1 n hn g F c0 Q hc
  obtain ⟨b, hb⟩ : ∃ b, b = decide (0 ≤ x) := ⟨_, rfl⟩
  have hxx := firstIx_neg hx
  refine ⟨b, by rw [hb, decide_eq_true_eq]; exact hxx.1, ?_⟩
  refine meets_of (H := []) (EX := EXA) ttok mixed Try.func55 rfl (by kernel_rfl) (by decide) ?_
  generalize hA : real = A
  generalize hM : MeetsB Try.prog = M
  cbv
  repeat' first
    | apply And.intro
    | exact True.intro
    | with_reducible rfl
    | exact same_of hA rfl
    | refine br_of hA (fun _ => ?_) (fun _ => ?_)
    | exact imp_of hA id
    | (refine imp_of hA ?_; subst hA; simp only [real, Bool.true_and]; exact id)
    | (refine ind_of hA ?_; decide +kernel)
    | (refine call_of hA hM _ hm ?_; cbv)
  all_goals subst hA
  all_goals refine congrArg (fun b => XA.one (.c (.d (eB b)))) (Bool.eq_iff_iff.2 ?_)
  all_goals subst_vars
  all_goals try simp only [real, bifA, bifB, bifC, bifD, decide_eq_true_eq, decide_eq_false_iff_not, beq_iff_eq, bne_iff_ne, beq_eq_false_iff_ne, bne_eq_false_iff_eq, ne_eq, Bool.and_eq_true, Bool.or_eq_true, Bool.not_eq_true', Bool.not_eq_false', Bool.and_eq_false_iff, Bool.or_eq_false_iff, Bool.false_eq_true, and_false, false_and, or_false, false_or, and_true, true_and, not_true_eq_false, not_false_eq_true, true_iff, false_iff, IntKind.wrap_i64] at *
  all_goals first
    | omega
    | skip
def stIxint0 (n : Nat) (g : Nat → Int) (F : FuncId) (i : Nat) : St := ⟨[(8, .c (.d (eI i))), (7, .c (.d (eI n))), (0, .c (.d (.sl 1 n fun i => [eI (g i)]))), (1, .c (.d (.fn F [])))], []⟩
set_option maxRecDepth 100000 in
theorem c_Indexint0 (n : Nat) (hn : n ≤ maxLen) (g : Nat → Int) (F : FuncId) (Q : Int → Prop) (hc : ∀ r, ∃ b, (b = true ↔ Q r) ∧ Meets Try.prog F [.c (.d (eI r))] ⟨.one (.c (.d (eB b))), [none]⟩) : ∃ x, FirstIx n (fun i => Q (g i)) x ∧ Meets Try.prog 145 [.c (.d (.sl 1 n fun i => [eI (g i)])), .c (.d (.fn F []))] ⟨.one (.c (.d (eI x))), [none, none]⟩ := by
  obtain ⟨x, hx⟩ := firstIx_ex n fun i => Q (g i)
  refine ⟨x, hx, ?_⟩
  refine meets_of (H := []) (EX := EXA) ttok mixed Try.func145 rfl (by kernel_rfl) (by decide) ?_
  generalize hA : real = A
  generalize hM : MeetsB Try.prog = M
  cbv
  repeat' first
    | apply And.intro
    | exact True.intro
    | with_reducible rfl
    | exact same_of hA rfl
    | refine br_of hA (fun _ => ?_) (fun _ => ?_)
    | exact imp_of hA id
    | (refine imp_of hA ?_; subst hA; simp only [real, Bool.true_and]; exact id)
    | (refine ind_of hA ?_; decide +kernel)
  refine loop_of hA (α := { i : Nat // i ≤ n ∧ ∀ j, j < i → ¬ Q (g j) }) (fun x => stIxint0 n g F x.1) (fun x => n - x.1) ⟨0, Nat.zero_le _, fun j h => absurd h (Nat.not_lt_zero _)⟩ ?_ ?_
  · refine cov_of ?_ ?_ ?_
    · cbv; subst hA; exact ⟨rfl, rfl, trivial⟩
    · cbv
    · cbv
  rintro ⟨i, hi, hb⟩
  cbv
  repeat' first
    | apply And.intro
    | exact True.intro
    | with_reducible rfl
    | exact same_of hA rfl
    | refine br_of hA (fun _ => ?_) (fun _ => ?_)
    | exact imp_of hA id
    | (refine imp_of hA ?_; subst hA; simp only [real, Bool.true_and]; exact id)
    | (refine ind_of hA ?_; decide +kernel)
    | (refine inb_of hA fun _ => ?_; subst hA; simp only [real, decide_eq_true_eq, Int.ofNat_eq_natCast] at *; omega)
  · refine call_ex hA hM (hc (g (A.nat (Int.ofNat i)))) (fun b hbb => ?_)
    cbv
    repeat' first
      | apply And.intro
      | exact True.intro
      | with_reducible rfl
      | exact same_of hA rfl
      | refine br_of hA (fun _ => ?_) (fun _ => ?_)
      | exact imp_of hA id
      | (refine imp_of hA ?_; subst hA; simp only [real, Bool.true_and]; exact id)
      | (refine ind_of hA ?_; decide +kernel)
    · rename_i hlt ht
      subst hA
      simp only [real, decide_eq_true_eq, Int.ofNat_eq_natCast, Int.toNat_natCast] at *
      obtain rfl := firstIx_one hx (.at i (by omega) (hbb.1 ht) hb)
      rfl
    · rename_i hlt ht
      have hlt' : i < n := by subst hA; simp only [real, decide_eq_true_eq, Int.ofNat_eq_natCast] at hlt; omega
      refine ⟨⟨i + 1, by omega, fun j hj => ?_⟩, by simp only; omega, cov_of ?_ ?_ ?_⟩
      · by_cases e : j = i
        · subst e
          subst hA
          intro hq
          have := hbb.2 hq
          rw [ht] at this
          cases this
        · exact hb j (by omega)
      · cbv
        subst hA
        exact ⟨congrArg (fun x => DV.v (.int .i64 x)) (up64 hlt' hn), trivial⟩
      · cbv
      · cbv
  · subst hA
    simp only [real, decide_eq_false_iff_not, Int.ofNat_eq_natCast] at *
    obtain rfl := firstIx_one hx (.none fun j hj => hb j (by omega))
    rfl
set_option maxRecDepth 100000 in
theorem c_Containsint0 (n : Nat) (hn : n ≤ maxLen) (g : Nat → Int) (F : FuncId) (Q : Int → Prop) (hc : ∀ r, ∃ b, (b = true ↔ Q r) ∧ Meets Try.prog F [.c (.d (eI r))] ⟨.one (.c (.d (eB b))), [none]⟩) : ∃ b, (b = true ↔ ∃ i, i < n ∧ Q (g i)) ∧ Meets Try.prog 125 [.c (.d (.sl 1 n fun i => [eI (g i)])), .c (.d (.fn F []))] ⟨.one (.c (.d (eB b))), [none, none]⟩ := by
  obtain ⟨x, hx, hm⟩ := c_Indexint0 n hn g F Q hc
  obtain ⟨b, hb⟩ : ∃ b, b = decide (0 ≤ x) := ⟨_, rfl⟩
  have hxx := firstIx_neg hx
  refine ⟨b, by rw [hb, decide_eq_true_eq]; exact hxx.1, ?_⟩
  refine meets_of (H := []) (EX := EXA) ttok mixed Try.func125 rfl (by kernel_rfl) (by decide) ?_
  generalize hA : real = A
  generalize hM : MeetsB Try.prog = M
  cbv
  repeat' first
    | apply And.intro
    | exact True.intro
    | with_reducible rfl
    | exact same_of hA rfl
    | refine br_of hA (fun _ => ?_) (fun _ => ?_)
    | exact imp_of hA id
    | (refine imp_of hA ?_; subst hA; simp only [real, Bool.true_and]; exact id)
    | (refine ind_of hA ?_; decide +kernel)
    | (refine call_of hA hM _ hm ?_; cbv)
  all_goals subst hA
  all_goals refine congrArg (fun b => XA.one (.c (.d (eB b)))) (Bool.eq_iff_iff.2 ?_)
  all_goals subst_vars
  all_goals try simp only [real, bifA, bifB, bifC, bifD, decide_eq_true_eq, decide_eq_false_iff_not, beq_iff_eq, bne_iff_ne, beq_eq_false_iff_ne, bne_eq_false_iff_eq, ne_eq, Bool.and_eq_true, Bool.or_eq_true, Bool.not_eq_true', Bool.not_eq_false', Bool.and_eq_false_iff, Bool.or_eq_false_iff, Bool.false_eq_true, and_false, false_and, or_false, false_or, and_true, true_and, not_true_eq_false, not_false_eq_true, true_iff, false_iff, IntKind.wrap_i64] at *
  all_goals first
    | omega
    | skip
end Go.Rk
/- Rows. -/
namespace Go.Rk
set_option linter.unusedSimpArgs false
set_option linter.unusedVariables false
open Go.Proofs
theorem beqB (a b : Bool) : ((a == b) = true) = (a = true ↔ b = true) := by cases a <;> cases b <;> simp
theorem beqI (a b : Int) : ((a == b) = true) = (a = b) := by simp
theorem bneI (a b : Int) : ((a != b) = true) = ¬ (a = b) := by simp
theorem beqIF (a b : Int) : ((a == b) = false) = ¬ (a = b) := by simp
theorem bneIF (a b : Int) : ((a != b) = false) = (a = b) := by simp
open Classical in
set_option maxRecDepth 100000 in
theorem c_rowOk (j : JobT) (r : RowT) (mark : Int) : ∃ b, (b = true ↔ RowOkP j r mark) ∧ Meets Try.prog 51 [xd (eRow r), xd (eJob j), .c (.d (eI mark))] ⟨.one (.c (.d (eB b))), [none, none, none]⟩ := by
  obtain ⟨b, hb⟩ : ∃ b, b = decide (RowOkP j r mark) := ⟨_, rfl⟩
  refine ⟨b, by rw [hb, decide_eq_true_eq], ?_⟩
  refine meets_of (H := []) (EX := EXA) ttok mixed Try.func51 rfl (by kernel_rfl) (by decide) ?_
  generalize hA : real = A
  generalize hM : MeetsB Try.prog = M
  cbv
  repeat' first
    | apply And.intro
    | exact True.intro
    | with_reducible rfl
    | exact same_of hA rfl
    | refine br_of hA (fun _ => ?_) (fun _ => ?_)
    | exact imp_of hA id
    | (refine imp_of hA ?_; subst hA; simp only [real, Bool.true_and]; exact id)
    | (refine ind_of hA ?_; decide +kernel)
    | (refine call_ex hA hM (c_in _ _ _) (fun _ _ => ?_); cbv)
    | (refine call_ex hA hM (c_isKey _) (fun _ _ => ?_); cbv)
    | (refine call_ex hA hM (c_WinOk _ _) (fun _ _ => ?_); cbv)
    | (refine call_ex hA hM (c_AggOk _ _ _ _) (fun _ _ => ?_); cbv)
  all_goals obtain ⟨key, ⟨s, e⟩, ⟨n1, sum1, least1, most1⟩, ⟨n2, sum2, least2, most2⟩, told, timely⟩ := r
  all_goals obtain ⟨_, _, _, _, _, late, _, _, _, _⟩ := j
  all_goals subst hA
  all_goals refine congrArg (fun b => XA.one (.c (.d (eB b)))) (Bool.eq_iff_iff.2 ?_)
  all_goals subst_vars
  all_goals simp only [real, bifA, bifB, bifC, bifD, beqB, decide_eq_true_eq, decide_eq_false_iff_not, beqI, bneI, beqIF, bneIF, ne_eq, Bool.and_eq_true, Bool.or_eq_true, Bool.not_eq_true', Bool.not_eq_false', Bool.and_eq_false_iff, Bool.or_eq_false_iff, Bool.false_eq_true, and_false, false_and, or_false, false_or, and_true, true_and, not_true_eq_false, not_false_eq_true, true_iff, false_iff, IntKind.wrap_i64, RowOkP, WinOkP, AggOkP] at *
  all_goals first
    | omega
    | (cases timely <;> simp only [true_iff, false_iff, iff_true, iff_false, Bool.false_eq_true, not_true_eq_false, not_false_eq_true, reduceCtorEq] at * <;> omega)
open Classical in
set_option maxRecDepth 100000 in
theorem c_l7Row (j : JobT) (r : RowT) (mark : Int) : ∃ b, (b = true ↔ RowOkP j r mark) ∧ Meets Try.prog 45 [xd (eJob j), xd (eRow r), .c (.d (eI mark))] ⟨.one (.c (.d (eB b))), [none, none, none]⟩ := by
  obtain ⟨b, hb⟩ : ∃ b, b = decide (RowOkP j r mark) := ⟨_, rfl⟩
  refine ⟨b, by rw [hb, decide_eq_true_eq], ?_⟩
  refine meets_of (H := []) (EX := EXA) ttok mixed Try.func45 rfl (by kernel_rfl) (by decide) ?_
  generalize hA : real = A
  generalize hM : MeetsB Try.prog = M
  cbv
  repeat' first
    | apply And.intro
    | exact True.intro
    | with_reducible rfl
    | exact same_of hA rfl
    | refine br_of hA (fun _ => ?_) (fun _ => ?_)
    | exact imp_of hA id
    | (refine imp_of hA ?_; subst hA; simp only [real, Bool.true_and]; exact id)
    | (refine ind_of hA ?_; decide +kernel)
    | (refine call_ex hA hM (c_l1In _ _ _) (fun _ _ => ?_); cbv)
    | (refine call_ex hA hM (c_sWinOk _ _) (fun _ _ => ?_); cbv)
    | (refine call_ex hA hM (c_sAggOk _ _ _ _) (fun _ _ => ?_); cbv)
  all_goals obtain ⟨key, ⟨s, e⟩, ⟨n1, sum1, least1, most1⟩, ⟨n2, sum2, least2, most2⟩, told, timely⟩ := r
  all_goals obtain ⟨_, _, _, _, _, late, _, _, _, _⟩ := j
  all_goals subst hA
  all_goals refine congrArg (fun b => XA.one (.c (.d (eB b)))) (Bool.eq_iff_iff.2 ?_)
  all_goals subst_vars
  all_goals simp only [real, bifA, bifB, bifC, bifD, beqB, decide_eq_true_eq, decide_eq_false_iff_not, beqI, bneI, beqIF, bneIF, ne_eq, Bool.and_eq_true, Bool.or_eq_true, Bool.not_eq_true', Bool.not_eq_false', Bool.and_eq_false_iff, Bool.or_eq_false_iff, Bool.false_eq_true, and_false, false_and, or_false, false_or, and_true, true_and, not_true_eq_false, not_false_eq_true, true_iff, false_iff, IntKind.wrap_i64, RowOkP, WinOkP, AggOkP] at *
  all_goals first
    | omega
    | (cases timely <;> simp only [true_iff, false_iff, iff_true, iff_false, Bool.false_eq_true, not_true_eq_false, not_false_eq_true, reduceCtorEq] at * <;> omega)
end Go.Rk
/- Operators. -/
namespace Go.Rk
set_option linter.unusedSimpArgs false
set_option linter.unusedVariables false
open Go.Proofs
def OkAt (j : JobT) (mark : Int) (g : Nat → RowT) (i : Nat) : Prop := RowOkP j (g i) mark ∧ (0 < i → AheadP (g (i - 1)).key (g (i - 1)).win (g i).key (g i).win) ∧
    (j.kind = 3 → ∀ k, k < i → ¬ ((g k).key = (g i).key ∧ TouchP (g k).win (g i).win))
theorem down64 {i : Nat} (h : 0 < i) (hn : i ≤ maxLen) : (IntKind.i64.wrap ((i : Int) - 1)).toNat = i - 1 := by
  have hm : maxLen = 9223372036854775807 := by decide
  rw [hm] at hn
  rw [IntWalk.i64_in _ (by omega)]
  omega
theorem c_rcmpA (r q : RowT) : ∃ x : Int, (x < 0 ↔ AheadP r.key r.win q.key q.win) ∧ Meets Try.prog 52 [xd (eRow r), xd (eRow q)] ⟨.one (.c (.d (eI x))), [none, none]⟩ := by
  obtain ⟨x, hx, hm⟩ := c_rcompare r q
  refine ⟨x, ?_, hm⟩
  unfold AheadP WinLt
  omega
set_option maxRecDepth 100000 in
theorem c_OpOk1 (r q : RowT) : ∃ b, (b = true ↔ q.key = r.key ∧ TouchP q.win r.win) ∧ Meets Try.prog 53 [xd (eRow q), .c (.d (.p (eRow r)))] ⟨.one (.c (.d (eB b))), [none, none]⟩ := by
  obtain ⟨b, hb⟩ : ∃ b, b = decide (q.key = r.key ∧ q.win.s < r.win.e ∧ r.win.s < q.win.e) := ⟨_, rfl⟩
  refine ⟨b, by rw [hb, decide_eq_true_eq]; exact Iff.rfl, ?_⟩
  refine meets_of (H := []) (EX := EXA) ttok mixed Try.func53 rfl (by kernel_rfl) (by decide) ?_
  generalize hA : real = A
  generalize hM : MeetsB Try.prog = M
  cbv
  repeat' first
    | apply And.intro
    | exact True.intro
    | with_reducible rfl
    | exact same_of hA rfl
    | refine br_of hA (fun _ => ?_) (fun _ => ?_)
    | exact imp_of hA id
    | (refine imp_of hA ?_; subst hA; simp only [real, Bool.true_and]; exact id)
    | (refine ind_of hA ?_; decide +kernel)
    | (refine call_ex hA hM (c_WinTouch _ _ _ _) (fun _ _ => ?_); cbv)
  all_goals subst hA
  all_goals refine congrArg (fun b => XA.one (.c (.d (eB b)))) (Bool.eq_iff_iff.2 ?_)
  all_goals subst_vars
  all_goals try simp only [real, bifA, bifB, bifC, bifD, decide_eq_true_eq, decide_eq_false_iff_not, beq_iff_eq, bne_iff_ne, beq_eq_false_iff_ne, bne_eq_false_iff_eq, ne_eq, Bool.and_eq_true, Bool.or_eq_true, Bool.not_eq_true', Bool.not_eq_false', Bool.and_eq_false_iff, Bool.or_eq_false_iff, Bool.false_eq_true, and_false, false_and, or_false, false_or, and_true, true_and, not_true_eq_false, not_false_eq_true, true_iff, false_iff, IntKind.wrap_i64] at *
  all_goals first
    | omega
    | skip
def stOk (j : JobT) (mark : Int) (n : Nat) (g : Nat → RowT) (i : Nat) : St := ⟨[(26, .c (.d (eI i))), (25, .c (.d (eI n))), (24, .c (.d (.sl 13 n fun i => eRow (g i)))), (2, .c (.bp 128 1 0)), (3, .c (.bp 192 1 0))], [(128, 1, .box ((eJob j).map .d)), (192, 1, .box ([eI mark, .sl 13 n fun i => eRow (g i)].map .d))]⟩
open Classical in
set_option maxRecDepth 100000 in
theorem c_OpOk (j : JobT) (s : OpStT) : ∃ b, (b = true ↔ OpOkP j s) ∧ Meets Try.prog 13 [xd (eJob j), xd (eOpSt s)] ⟨.one (.c (.d (eB b))), [none, none]⟩ := by
  obtain ⟨b, hb⟩ : ∃ b : Bool, (b = true ↔ OpOkP j s) := ⟨decide (OpOkP j s), by rw [decide_eq_true_eq]⟩
  refine ⟨b, hb, ?_⟩
  obtain ⟨mark, n, g, hn⟩ := s
  show Meets Try.prog 13 [xd (eJob j), xd [eI mark, .sl 13 n fun i => eRow (g i)]] _
  refine meets_of (H := []) (EX := EXA) ttok mixed Try.func13 rfl (by kernel_rfl) (by decide) ?_
  generalize hA : real = A
  generalize hM : MeetsB Try.prog = M
  cbv
  repeat' first
    | apply And.intro
    | exact True.intro
    | with_reducible rfl
    | exact same_of hA rfl
    | refine br_of hA (fun _ => ?_) (fun _ => ?_)
    | exact imp_of hA id
    | (refine imp_of hA ?_; subst hA; simp only [real, Bool.true_and]; exact id)
    | (refine ind_of hA ?_; decide +kernel)
    | (refine call_ex hA hM (c_JobOk _ _ _ _ _ _ _ _ _ _) (fun _ _ => ?_); cbv)
    | (refine call_ex hA hM (c_isTime _) (fun _ _ => ?_); cbv)
  · rename_i hbad
    subst hA; subst_vars
    refine congrArg (fun b => XA.one (.c (.d (eB b)))) ?_
    simp only [real, bifA, bifB, bifC, bifD, beqB, decide_eq_true_eq, decide_eq_false_iff_not, beqI, bneI, beqIF, bneIF, ne_eq, Bool.and_eq_true, Bool.or_eq_true, Bool.not_eq_true', Bool.not_eq_false', Bool.and_eq_false_iff, Bool.or_eq_false_iff, Bool.false_eq_true, and_false, false_and, or_false, false_or, and_true, true_and, not_true_eq_false, not_false_eq_true, true_iff, false_iff, Int.ofNat_eq_natCast, Int.toNat_natCast] at hbad
    cases b with
    | false => rfl
    | true =>
      exfalso
      obtain ⟨h1, h2, h3, _⟩ := hb.1 rfl
      unfold JobOkP at h1
      simp only at h2 h3
      omega
  rename_i hgood
  have hpre : JobOkP j ∧ (0 ≤ mark ∧ mark ≤ 1000) ∧ n ≤ 300 := by
    subst hA; subst_vars
    simp only [real, bifA, bifB, bifC, bifD, beqB, decide_eq_true_eq, decide_eq_false_iff_not, beqI, bneI, beqIF, bneIF, ne_eq, Bool.and_eq_true, Bool.or_eq_true, Bool.not_eq_true', Bool.not_eq_false', Bool.and_eq_false_iff, Bool.or_eq_false_iff, Bool.false_eq_true, and_false, false_and, or_false, false_or, and_true, true_and, not_true_eq_false, not_false_eq_true, true_iff, false_iff, Int.ofNat_eq_natCast, Int.toNat_natCast] at hgood
    unfold JobOkP
    omega
  clear hgood
  refine loop_of hA (α := { i : Nat // i ≤ n ∧ ∀ k, k < i → OkAt j mark g k }) (fun x => stOk j mark n g x.1) (fun x => n - x.1) ⟨0, Nat.zero_le _, fun j h => absurd h (Nat.not_lt_zero _)⟩ ?_ ?_
  · refine cov_of ?_ ?_ ?_
    · cbv; subst hA; repeat' first | apply And.intro | exact True.intro | rfl
    · cbv; try (repeat' first | apply And.intro | exact True.intro | rfl)
    · cbv
  rintro ⟨i, hi, hk⟩
  cbv
  repeat' first
    | apply And.intro
    | exact True.intro
    | with_reducible rfl
    | exact same_of hA rfl
    | refine br_of hA (fun _ => ?_) (fun _ => ?_)
    | exact imp_of hA id
    | (refine imp_of hA ?_; subst hA; simp only [real, Bool.true_and]; exact id)
    | (refine ind_of hA ?_; decide +kernel)
    | (refine call_ex hA hM (c_rowOk _ _ _) (fun _ _ => ?_); cbv)
    | (refine call_ex hA hM (c_rcmpA _ _) (fun _ _ => ?_); cbv)
    | (refine inb_of hA fun _ => ?_; subst hA; simp only [real, Bool.and_eq_true, Bool.not_eq_true', Bool.not_eq_false', decide_eq_true_eq, Int.ofNat_eq_natCast, IntKind.wrap_i64] at *; omega)
    | (refine cut_of hA ?_; subst hA; simp only [real, decide_eq_true_eq, Int.ofNat_eq_natCast] at *; omega)
    | (refine call_ex2 hA hM (c_ContainsRow1 i (Nat.le_trans hi hn) g 53 (.p (eRow (g (A.nat (Int.ofNat i))))) _ (fun q => c_OpOk1 (g (A.nat (Int.ofNat i))) q)) (congrArg (fun d => [XT.c (.d d), XT.c (.d (.fn 53 [.p (eRow (g (A.nat (Int.ofNat i))))]))]) (sl0 hA _ _ _)) (fun _ _ => ?_); cbv)
  · rename_i hlt b1 hb1 x hx hc
    subst hA
    refine congrArg (fun b => XA.one (.c (.d (eB b)))) ?_
    simp only [real, bifA, bifB, bifC, bifD, beqB, decide_eq_true_eq, decide_eq_false_iff_not, beqI, bneI, beqIF, bneIF, ne_eq, Bool.and_eq_true, Bool.or_eq_true, Bool.not_eq_true', Bool.not_eq_false', Bool.and_eq_false_iff, Bool.or_eq_false_iff, Bool.false_eq_true, and_false, false_and, or_false, false_or, and_true, true_and, not_true_eq_false, not_false_eq_true, true_iff, false_iff, Int.ofNat_eq_natCast, Int.toNat_natCast] at hlt hb1 hx hc
    cases b with
    | false => rfl
    | true =>
      exfalso
      have h : OkAt j mark g i := (hb.1 rfl).2.2.2 i (show i < n by omega)
      rcases hc with hc | hc
      · have := hb1.2 h.1; rw [hc] at this; cases this
      · rw [down64 (by omega) (Nat.le_trans hi hn)] at hx
        have := hx.2 (h.2.1 (by omega)); omega
  · rename_i hlt b1 hb1 x hx hc b2 hb2 hc2
    subst hA
    refine congrArg (fun b => XA.one (.c (.d (eB b)))) ?_
    simp only [real, bifA, bifB, bifC, bifD, beqB, decide_eq_true_eq, decide_eq_false_iff_not, beqI, bneI, beqIF, bneIF, ne_eq, Bool.and_eq_true, Bool.or_eq_true, Bool.not_eq_true', Bool.not_eq_false', Bool.and_eq_false_iff, Bool.or_eq_false_iff, Bool.false_eq_true, and_false, false_and, or_false, false_or, and_true, true_and, not_true_eq_false, not_false_eq_true, true_iff, false_iff, Int.ofNat_eq_natCast, Int.toNat_natCast] at hlt hb2 hc2
    cases b with
    | false => rfl
    | true =>
      exfalso
      have h : OkAt j mark g i := (hb.1 rfl).2.2.2 i (show i < n by omega)
      obtain ⟨k, hk1, hk2⟩ := hb2.1 hc2.2
      exact h.2.2 hc2.1 k hk1 hk2
  · rename_i hlt b1 hb1 x hx hc b2 hb2 hc2
    have hlt' : i < n := by subst hA; simp only [real, decide_eq_true_eq, Int.ofNat_eq_natCast] at hlt; omega
    refine ⟨⟨i + 1, by omega, fun k hk' => ?_⟩, by simp only; omega, cov_of ?_ ?_ ?_⟩
    · by_cases e : k = i
      · subst e
        subst hA
        simp only [real, bifA, bifB, bifC, bifD, beqB, decide_eq_true_eq, decide_eq_false_iff_not, beqI, bneI, beqIF, bneIF, ne_eq, Bool.and_eq_true, Bool.or_eq_true, Bool.not_eq_true', Bool.not_eq_false', Bool.and_eq_false_iff, Bool.or_eq_false_iff, Bool.false_eq_true, and_false, false_and, or_false, false_or, and_true, true_and, not_true_eq_false, not_false_eq_true, true_iff, false_iff, Int.ofNat_eq_natCast, Int.toNat_natCast] at hlt hb1 hx hc hb2 hc2
        refine ⟨hb1.1 (by cases b1 <;> simp_all), fun hp => ?_, fun h3 q hq hqq => ?_⟩
        · rw [down64 hp (Nat.le_trans hi hn)] at hx
          refine hx.1 ?_
          rcases hc.2 with h | h <;> omega
        · rcases hc2 with h | h
          · exact h h3
          · have := hb2.2 ⟨q, hq, hqq⟩; rw [h] at this; cases this
      · exact hk k (by omega)
    · cbv
      subst hA
      exact ⟨congrArg (fun x => DV.v (.int .i64 x)) (up64 hlt' hn), trivial⟩
    · cbv; try (repeat' first | apply And.intro | exact True.intro | rfl)
    · cbv
  · rename_i hge
    refine congrArg (fun b => XA.one (.c (.d (eB b)))) ?_
    refine (hb.2 ⟨hpre.1, hpre.2.1, hpre.2.2, fun k hk' => ?_⟩).symm
    have hk' : k < n := hk'
    exact hk k (by subst hA; simp only [real, decide_eq_false_iff_not, Int.ofNat_eq_natCast] at hge; omega)
end Go.Rk
/- Operators, as the reference has them. -/
namespace Go.Rk
set_option linter.unusedSimpArgs false
set_option linter.unusedVariables false
open Go.Proofs
def stOks (j : JobT) (mark : Int) (n : Nat) (g : Nat → RowT) (i : Nat) : St := ⟨[(5, .c (.d (eI i))), (2, .c (.bp 128 1 0)), (3, .c (.bp 192 1 0))], [(128, 1, .box ((eJob j).map .d)), (192, 1, .box ([eI mark, .sl 13 n fun i => eRow (g i)].map .d))]⟩
def stOkt (j : JobT) (mark : Int) (n : Nat) (g : Nat → RowT) (i k : Nat) : St := ⟨[(7, .c (.d (eI k))), (5, .c (.d (eI i))), (6, .c (.bp 384 1 0)), (2, .c (.bp 128 1 0)), (3, .c (.bp 192 1 0))], [(384, 1, .box ((eRow (g i)).map .d)), (128, 1, .box ((eJob j).map .d)), (192, 1, .box ([eI mark, .sl 13 n fun i => eRow (g i)].map .d))]⟩
theorem c_l5A (k s e k2 s2 e2 : Int) : ∃ b, (b = true ↔ AheadP k ⟨s, e⟩ k2 ⟨s2, e2⟩) ∧ Meets Try.prog 46 [.c (.d (eI k)), .agg [.d (eI s), .d (eI e)], .c (.d (eI k2)), .agg [.d (eI s2), .d (eI e2)]] ⟨.one (.c (.d (eB b))), [none, none, none, none]⟩ := by
  obtain ⟨b, hb, hm⟩ := c_l5Ahead k s e k2 s2 e2
  exact ⟨b, by rw [hb, decide_eq_true_eq]; exact Iff.rfl, hm⟩
theorem c_sTouchP (s e s2 e2 : Int) : ∃ b, (b = true ↔ TouchP ⟨s, e⟩ ⟨s2, e2⟩) ∧ Meets Try.prog 47 [.agg [.d (eI s), .d (eI e)], .agg [.d (eI s2), .d (eI e2)]] ⟨.one (.c (.d (eB b))), [none, none]⟩ := by
  obtain ⟨b, hb, hm⟩ := c_sWinTouch s e s2 e2
  exact ⟨b, by rw [hb, decide_eq_true_eq]; exact Iff.rfl, hm⟩
open Classical in
set_option maxRecDepth 100000 in
theorem c_sOpOk (j : JobT) (s : OpStT) : ∃ b, (b = true ↔ OpOkP j s) ∧ Meets Try.prog 10 [xd (eJob j), xd (eOpSt s)] ⟨.one (.c (.d (eB b))), [none, none]⟩ := by
  obtain ⟨b, hb⟩ : ∃ b : Bool, (b = true ↔ OpOkP j s) := ⟨decide (OpOkP j s), by rw [decide_eq_true_eq]⟩
  refine ⟨b, hb, ?_⟩
  obtain ⟨mark, n, g, hn⟩ := s
  show Meets Try.prog 10 [xd (eJob j), xd [eI mark, .sl 13 n fun i => eRow (g i)]] _
  refine meets_of (H := []) (EX := EXA) ttok mixed Try.func10 rfl (by kernel_rfl) (by decide) ?_
  generalize hA : real = A
  generalize hM : MeetsB Try.prog = M
  cbv
  repeat' first
    | apply And.intro
    | exact True.intro
    | with_reducible rfl
    | exact same_of hA rfl
    | refine br_of hA (fun _ => ?_) (fun _ => ?_)
    | exact imp_of hA id
    | (refine imp_of hA ?_; subst hA; simp only [real, Bool.true_and]; exact id)
    | (refine ind_of hA ?_; decide +kernel)
    | (refine call_ex hA hM (c_sJobOk _ _ _ _ _ _ _ _ _ _) (fun _ _ => ?_); cbv)
    | (refine call_ex hA hM (c_l1In _ _ _) (fun _ _ => ?_); cbv)
  · rename_i hbad
    subst hA; subst_vars
    refine congrArg (fun b => XA.one (.c (.d (eB b)))) ?_
    simp only [real, bifA, bifB, bifC, bifD, beqB, decide_eq_true_eq, decide_eq_false_iff_not, beqI, bneI, beqIF, bneIF, ne_eq, Bool.and_eq_true, Bool.or_eq_true, Bool.not_eq_true', Bool.not_eq_false', Bool.and_eq_false_iff, Bool.or_eq_false_iff, Bool.false_eq_true, and_false, false_and, or_false, false_or, and_true, true_and, not_true_eq_false, not_false_eq_true, true_iff, false_iff, Int.ofNat_eq_natCast, Int.toNat_natCast] at hbad
    cases b with
    | false => rfl
    | true =>
      exfalso
      obtain ⟨h1, h2, h3, _⟩ := hb.1 rfl
      unfold JobOkP at h1
      simp only at h2 h3
      omega
  rename_i hgood
  have hpre : JobOkP j ∧ (0 ≤ mark ∧ mark ≤ 1000) ∧ n ≤ 300 := by
    subst hA; subst_vars
    simp only [real, bifA, bifB, bifC, bifD, beqB, decide_eq_true_eq, decide_eq_false_iff_not, beqI, bneI, beqIF, bneIF, ne_eq, Bool.and_eq_true, Bool.or_eq_true, Bool.not_eq_true', Bool.not_eq_false', Bool.and_eq_false_iff, Bool.or_eq_false_iff, Bool.false_eq_true, and_false, false_and, or_false, false_or, and_true, true_and, not_true_eq_false, not_false_eq_true, true_iff, false_iff, Int.ofNat_eq_natCast, Int.toNat_natCast] at hgood
    unfold JobOkP
    omega
  clear hgood
  refine loop_of hA (α := { i : Nat // i ≤ n ∧ ∀ k, k < i → OkAt j mark g k }) (fun x => stOks j mark n g x.1) (fun x => n - x.1) ⟨0, Nat.zero_le _, fun j h => absurd h (Nat.not_lt_zero _)⟩ ?_ ?_
  · refine cov_of ?_ ?_ ?_
    · cbv; try (subst hA; repeat' first | apply And.intro | exact True.intro | rfl)
    · cbv; try (repeat' first | apply And.intro | exact True.intro | rfl)
    · cbv
  rintro ⟨i, hi, hk⟩
  cbv
  repeat' first
    | apply And.intro
    | exact True.intro
    | with_reducible rfl
    | exact same_of hA rfl
    | refine br_of hA (fun _ => ?_) (fun _ => ?_)
    | exact imp_of hA id
    | (refine imp_of hA ?_; subst hA; simp only [real, Bool.true_and]; exact id)
    | (refine ind_of hA ?_; decide +kernel)
    | (refine call_ex hA hM (c_l7Row _ _ _) (fun _ _ => ?_); cbv)
    | (refine call_ex hA hM (c_l5A _ _ _ _ _ _) (fun _ _ => ?_); cbv)
    | (refine inb_of hA fun _ => ?_; subst hA; simp only [real, Bool.and_eq_true, Bool.not_eq_true', Bool.not_eq_false', decide_eq_true_eq, Int.ofNat_eq_natCast, IntKind.wrap_i64] at *; omega)
  · rename_i hlt b1 hb1 b2 hb2 hc
    subst hA
    refine congrArg (fun b => XA.one (.c (.d (eB b)))) ?_
    simp only [real, bifA, bifB, bifC, bifD, beqB, decide_eq_true_eq, decide_eq_false_iff_not, beqI, bneI, beqIF, bneIF, ne_eq, Bool.and_eq_true, Bool.or_eq_true, Bool.not_eq_true', Bool.not_eq_false', Bool.and_eq_false_iff, Bool.or_eq_false_iff, Bool.false_eq_true, and_false, false_and, or_false, false_or, and_true, true_and, not_true_eq_false, not_false_eq_true, true_iff, false_iff, Int.ofNat_eq_natCast, Int.toNat_natCast] at hlt hb1 hb2 hc
    cases b with
    | false => rfl
    | true =>
      exfalso
      have h : OkAt j mark g i := (hb.1 rfl).2.2.2 i (show i < n by omega)
      rcases hc with hc | hc
      · have := hb1.2 h.1; rw [hc] at this; cases this
      · rw [down64 (by omega) (Nat.le_trans hi hn)] at hb2
        have h2 := hb2.2 (h.2.1 (by omega))
        rw [hc.2] at h2
        cases h2
  · rename_i hlt b1 hb1 b2 hb2 hc
    have hlt' : i < n := by subst hA; simp only [real, decide_eq_true_eq, Int.ofNat_eq_natCast] at hlt; omega
    have hrow : RowOkP j (g i) mark ∧ (0 < i → AheadP (g (i - 1)).key (g (i - 1)).win (g i).key (g i).win) := by
      subst hA
      simp only [real, bifA, bifB, bifC, bifD, beqB, decide_eq_true_eq, decide_eq_false_iff_not, beqI, bneI, beqIF, bneIF, ne_eq, Bool.and_eq_true, Bool.or_eq_true, Bool.not_eq_true', Bool.not_eq_false', Bool.and_eq_false_iff, Bool.or_eq_false_iff, Bool.false_eq_true, and_false, false_and, or_false, false_or, and_true, true_and, not_true_eq_false, not_false_eq_true, true_iff, false_iff, Int.ofNat_eq_natCast, Int.toNat_natCast] at hlt hb1 hb2 hc
      refine ⟨hb1.1 (by cases b1 <;> simp_all), fun hp => ?_⟩
      rw [down64 hp (Nat.le_trans hi hn)] at hb2
      rcases hc.2 with h | h
      · omega
      · exact hb2.1 h
    clear hb1 hb2 hc
    refine loop_of hA (α := { k : Nat // k ≤ i ∧ (0 < k → j.kind = 3) ∧ ∀ q, q < k → ¬ ((g q).key = (g i).key ∧ TouchP (g q).win (g i).win) }) (fun x => stOkt j mark n g i x.1) (fun x => i - x.1) ⟨0, Nat.zero_le _, fun h => absurd h (Nat.lt_irrefl _), fun j h => absurd h (Nat.not_lt_zero _)⟩ ?_ ?_
    · refine cov_of ?_ ?_ ?_
      · cbv; try (repeat' first | apply And.intro | exact True.intro | rfl)
      · cbv; try (subst hA; repeat' first | apply And.intro | exact True.intro | rfl)
      · cbv
    rintro ⟨k, hki, hk3, hkq⟩
    cbv
    repeat' first
      | apply And.intro
      | exact True.intro
      | with_reducible rfl
      | exact same_of hA rfl
      | refine br_of hA (fun _ => ?_) (fun _ => ?_)
      | exact imp_of hA id
      | (refine imp_of hA ?_; subst hA; simp only [real, Bool.true_and]; exact id)
      | (refine ind_of hA ?_; decide +kernel)
      | (refine call_ex hA hM (c_sTouchP _ _ _ _) (fun _ _ => ?_); cbv)
      | (refine inb_of hA fun _ => ?_; subst hA; simp only [real, Bool.and_eq_true, Bool.not_eq_true', Bool.not_eq_false', decide_eq_true_eq, Int.ofNat_eq_natCast, IntKind.wrap_i64] at *; omega)
    · rename_i hl b3 hb3 hc
      subst hA
      refine congrArg (fun b => XA.one (.c (.d (eB b)))) ?_
      simp only [real, bifA, bifB, bifC, bifD, beqB, decide_eq_true_eq, decide_eq_false_iff_not, beqI, bneI, beqIF, bneIF, ne_eq, Bool.and_eq_true, Bool.or_eq_true, Bool.not_eq_true', Bool.not_eq_false', Bool.and_eq_false_iff, Bool.or_eq_false_iff, Bool.false_eq_true, and_false, false_and, or_false, false_or, and_true, true_and, not_true_eq_false, not_false_eq_true, true_iff, false_iff, Int.ofNat_eq_natCast, Int.toNat_natCast] at hl hc
      cases b with
      | false => rfl
      | true =>
        exfalso
        have h : OkAt j mark g i := (hb.1 rfl).2.2.2 i hlt'
        exact h.2.2 hl.2 k (by omega) ⟨hc.1, hb3.1 hc.2⟩
    · rename_i hl b3 hb3 hc
      have hlk : k < i ∧ j.kind = 3 := by subst hA; simp only [real, bifA, bifB, bifC, bifD, beqB, decide_eq_true_eq, decide_eq_false_iff_not, beqI, bneI, beqIF, bneIF, ne_eq, Bool.and_eq_true, Bool.or_eq_true, Bool.not_eq_true', Bool.not_eq_false', Bool.and_eq_false_iff, Bool.or_eq_false_iff, Bool.false_eq_true, and_false, false_and, or_false, false_or, and_true, true_and, not_true_eq_false, not_false_eq_true, true_iff, false_iff, Int.ofNat_eq_natCast, Int.toNat_natCast] at hl; omega
      refine ⟨⟨k + 1, by omega, fun _ => hlk.2, fun q hq => ?_⟩, by simp only; omega, cov_of ?_ ?_ ?_⟩
      · by_cases e : q = k
        · subst e
          subst hA
          simp only [real, bifA, bifB, bifC, bifD, beqB, decide_eq_true_eq, decide_eq_false_iff_not, beqI, bneI, beqIF, bneIF, ne_eq, Bool.and_eq_true, Bool.or_eq_true, Bool.not_eq_true', Bool.not_eq_false', Bool.and_eq_false_iff, Bool.or_eq_false_iff, Bool.false_eq_true, and_false, false_and, or_false, false_or, and_true, true_and, not_true_eq_false, not_false_eq_true, true_iff, false_iff, Int.ofNat_eq_natCast, Int.toNat_natCast] at hc
          intro hh
          rcases hc with h | h
          · exact h hh.1
          · have := hb3.2 hh.2
            rw [h] at this
            cases this
        · exact hkq q (by omega)
      · cbv
        subst hA
        exact ⟨congrArg (fun x => DV.v (.int .i64 x)) (up64 hlk.1 (Nat.le_trans hi hn)), by repeat' first | apply And.intro | exact True.intro | rfl⟩
      · cbv; try (repeat' first | apply And.intro | exact True.intro | rfl)
      · cbv
    · rename_i hl
      refine ⟨⟨i + 1, by omega, fun q hq => ?_⟩, by simp only; omega, cov_of ?_ ?_ ?_⟩
      · by_cases e : q = i
        · subst e
          refine ⟨hrow.1, hrow.2, fun h3 => ?_⟩
          have : k = q := by
            subst hA
            simp only [real, bifA, bifB, bifC, bifD, beqB, decide_eq_true_eq, decide_eq_false_iff_not, beqI, bneI, beqIF, bneIF, ne_eq, Bool.and_eq_true, Bool.or_eq_true, Bool.not_eq_true', Bool.not_eq_false', Bool.and_eq_false_iff, Bool.or_eq_false_iff, Bool.false_eq_true, and_false, false_and, or_false, false_or, and_true, true_and, not_true_eq_false, not_false_eq_true, true_iff, false_iff, Int.ofNat_eq_natCast, Int.toNat_natCast] at hl
            have hl2 : ¬ (k : Int) < q ∨ ¬ j.kind = 3 := hl
            omega
          subst this
          exact hkq
        · exact hk q (by omega)
      · cbv
        subst hA
        exact ⟨congrArg (fun x => DV.v (.int .i64 x)) (up64 hlt' hn), by repeat' first | apply And.intro | exact True.intro | rfl⟩
      · cbv; try (repeat' first | apply And.intro | exact True.intro | rfl)
      · cbv
  · rename_i hge
    refine congrArg (fun b => XA.one (.c (.d (eB b)))) ?_
    refine (hb.2 ⟨hpre.1, hpre.2.1, hpre.2.2, fun k hk' => ?_⟩).symm
    have hk' : k < n := hk'
    exact hk k (by subst hA; simp only [real, decide_eq_false_iff_not, Int.ofNat_eq_natCast] at hge; omega)
end Go.Rk
/- Counts and least numbers. -/
namespace Go.Rk
set_option linter.unusedSimpArgs false
set_option linter.unusedVariables false
def InOkP (j : JobT) (c : TskInT) : Prop := (c.queue.n : Int) ≤ j.room ∧ (0 ≤ c.mark ∧ c.mark ≤ 1000) ∧ ∀ i, i < c.queue.n → ItmOkP (c.queue.g i)
def ToldP (m : Int) (ps : Sl PaneT) (ls : Sl LatT) : Prop := (ps.n : Int) ≤ m ∧ (ls.n : Int) ≤ m ∧ (∀ i, i < ps.n → PaneOkP (ps.g i)) ∧ ∀ i, i < ls.n → LatOkP (ls.g i)
def TxnOkP (x : TxnT) : Prop := (0 ≤ x.n ∧ x.n ≤ 900) ∧ ToldP 1500 x.panes x.lates
/-- A call that is made where its guard holds alone. -/
theorem call_exg {A : Ar} {P : Program} {M : Ms} (hA : real = A) (hM : MeetsB P = M) {g : Bool} {f : FuncId} {args : List XT} {K : Out → Prop} {β : Type} {S : β → Prop} {out : β → Out}
    (hne : ∃ b, S b) (h : ∀ b, S b → g = true → Meets P f args (out b)) (k : ∀ b, S b → K (out b)) : A.hold fun _ => ∃ out, (g = true → M.m f args out) ∧ K out := by
  subst hA hM
  obtain ⟨b, hb⟩ := hne
  exact ⟨out b, fun hg => h b hb hg, k b hb⟩
theorem nex {b : Bool} {n : Nat} {P : Nat → Prop} (h : b = true ↔ ∃ i, i < n ∧ ¬ P i) : b = false ↔ ∀ i, i < n → P i := by
  rw [← Bool.not_eq_true, h]
  exact ⟨fun h i hi => Classical.byContradiction fun hn => h ⟨i, hi, hn⟩, fun h ⟨i, hi, hn⟩ => hn (h i hi)⟩
def cntB (p : Nat → Bool) : Nat → Nat
  | 0 => 0
  | i + 1 => cntB p i + (if p i = true then 1 else 0)
theorem cntB_le (p : Nat → Bool) : ∀ i, cntB p i ≤ i
  | 0 => Nat.le_refl _
  | i + 1 => by have := cntB_le p i; unfold cntB; split <;> omega
/-- The least of these and 'z'. -/
def LowP (z : Int) (n : Nat) (g : Nat → Int) (x : Int) : Prop := x ≤ z ∧ (∀ i, i < n → x ≤ g i) ∧ (x = z ∨ ∃ i, i < n ∧ x = g i)
theorem lowP_one {z : Int} {n : Nat} {g : Nat → Int} {x y : Int} (h : LowP z n g x) (h' : LowP z n g y) : x = y := by
  have a : x ≤ y := by
    rcases h'.2.2 with e | ⟨i, hi, e⟩
    · rw [e]; exact h.1
    · rw [e]; exact h.2.1 i hi
  have b : y ≤ x := by
    rcases h.2.2 with e | ⟨i, hi, e⟩
    · rw [e]; exact h'.1
    · rw [e]; exact h'.2.1 i hi
  omega
theorem lowP_step {z : Int} {n : Nat} {g : Nat → Int} {x : Int} (h : LowP z n g x) : LowP z (n + 1) g (if g n < x then g n else x) := by
  obtain ⟨h1, h2, h3⟩ := h
  split
  · refine ⟨by omega, fun i hi => ?_, .inr ⟨n, by omega, rfl⟩⟩
    rcases Nat.lt_succ_iff_lt_or_eq.1 hi with hi | rfl
    · have := h2 i hi; omega
    · omega
  · refine ⟨h1, fun i hi => ?_, h3.imp id fun ⟨i, hi, e⟩ => ⟨i, by omega, e⟩⟩
    rcases Nat.lt_succ_iff_lt_or_eq.1 hi with hi | rfl
    · exact h2 i hi
    · omega
theorem lowP_ex (z : Int) (n : Nat) (g : Nat → Int) : ∃ x, LowP z n g x := by
  induction n with
  | zero => exact ⟨z, by omega, fun i hi => absurd hi (Nat.not_lt_zero i), .inl rfl⟩
  | succ n ih => obtain ⟨x, hx⟩ := ih; exact ⟨_, lowP_step hx⟩
/-- The least of these, of which there is one. -/
def MinP (n : Nat) (g : Nat → Int) (x : Int) : Prop := (∀ i, i < n → x ≤ g i) ∧ ∃ i, i < n ∧ x = g i
theorem minP_of {n : Nat} {g : Nat → Int} {x : Int} (h0 : 0 < n) (h : LowP (g 0) n g x) : MinP n g x := ⟨h.2.1, h.2.2.elim (fun e => ⟨0, h0, e⟩) id⟩
theorem minP_one {n : Nat} {g : Nat → Int} {x y : Int} (h : MinP n g x) (h' : MinP n g y) : x = y := by
  obtain ⟨i, hi, e⟩ := h.2
  obtain ⟨j, hj, e'⟩ := h'.2
  have := h.1 j hj
  have := h'.1 i hi
  omega
def TskOkP (j : JobT) (t : TskT) : Prop := OpOkP j t.op ∧ (t.ins.n : Int) = j.srcs ∧ (0 ≤ t.wall ∧ t.wall ≤ 900) ∧ TxnOkP t.pend ∧ t.pend.n = 0 ∧ (∀ i, i < t.ins.n → InOkP j (t.ins.g i)) ∧
  cntB (fun i => (t.ins.g i).held) t.ins.n < t.ins.n ∧ LowP 1000 t.ins.n (fun i => (t.ins.g i).mark) t.op.mark
/-- With one more at the end. -/
theorem minP_low {n : Nat} {g h : Nat → Int} {x z : Int} (hg : ∀ i, i < n → h i = g i) (hz : h n = z) (hx : MinP (n + 1) h x) : LowP z n g x := by
  refine ⟨by rw [← hz]; exact hx.1 n (by omega), fun i hi => by rw [← hg i hi]; exact hx.1 i (by omega), ?_⟩
  obtain ⟨i, hi, e⟩ := hx.2
  rcases Nat.lt_succ_iff_lt_or_eq.1 hi with hi | rfl
  · exact .inr ⟨i, hi, by rw [e, hg i hi]⟩
  · exact .inl (by rw [e, hz])
theorem minP_ofLow {n : Nat} {g h : Nat → Int} {x z : Int} (hg : ∀ i, i < n → h i = g i) (hz : h n = z) (hx : LowP z n g x) : MinP (n + 1) h x := by
  refine ⟨fun i hi => ?_, ?_⟩
  · rcases Nat.lt_succ_iff_lt_or_eq.1 hi with hi | rfl
    · rw [hg i hi]; exact hx.2.1 i hi
    · rw [hz]; exact hx.1
  · rcases hx.2.2 with e | ⟨i, hi, e⟩
    · exact ⟨n, by omega, by rw [hz, e]⟩
    · exact ⟨i, by omega, by rw [hg i hi, e]⟩
theorem low_arg {A : Ar} (hA : real = A) (n : Nat) (f : Nat → Int) (c : Int) : DV.sl 1 (A.add n 1) (A.sub 0 (A.app n (fun i => [eI (f i)]) (A.sub 0 (A.app 1 (A.rep [eI c]) (A.rep [eI 0]))))) =
    .sl 1 (n + 1) fun i => [eI (if i < n then f i else if i = n then c else 0)] := by
  subst hA
  have e : (fun i => (if 0 + i < n then [eI (f (0 + i))] else (if 0 + (0 + i - n) < 1 then [eI c] else [eI 0]))) = fun i => [eI (if i < n then f i else if i = n then c else 0)] := by
    funext i
    simp only [Nat.zero_add]
    by_cases h : i < n
    · simp [h]
    · by_cases h2 : i = n
      · subst h2; simp
      · have : ¬ i - n < 1 := by omega
        simp [h, h2, this]
  exact congrArg (DV.sl 1 (n + 1)) e
theorem room_add {A : Ar} (hA : real = A) {n m b : Nat} (hn : n + m ≤ 1048577) (hb : b ≤ 100000) : A.room (A.add n m) b := by
  subst hA
  have h1 : (n + m) * b ≤ 1048577 * 100000 := Nat.mul_le_mul hn hb
  exact ⟨Nat.le_trans h1 (by omega), Nat.le_trans hn (by omega)⟩
/-- One row more at the end. -/
theorem push_at {A : Ar} (hA : real = A) (n : Nat) (row : Nat → List DV) (x : List DV) (z : Nat → List DV) (k : Nat) (hk : k < n + 1) : A.app n row (A.sub 0 (A.app 1 (A.rep x) z)) k = if k < n then row k else x := by
  subst hA
  show (if k < n then row k else (if 0 + (k - n) < 1 then x else z (0 + (k - n) - 1))) = _
  split
  · rfl
  · rw [if_pos (by omega)]
theorem room_n {A : Ar} (hA : real = A) {n b : Nat} (hn : n ≤ 1048577) (hb : b ≤ 100000) : A.room n b := by
  subst hA
  have h1 : n * b ≤ 1048577 * 100000 := Nat.mul_le_mul hn hb
  exact ⟨by omega, by omega⟩
end Go.Rk
/- Windows of a time, and pairs of records and windows, as lists. -/
namespace Go.Rk
set_option linter.unusedSimpArgs false
set_option linter.unusedVariables false
def zWin : WinT := ⟨0, 0⟩
def zLat : LatT := ⟨⟨0, 0, 0, 0, 0⟩, ⟨0, 0⟩⟩
def slideF (size step t : Int) : Nat → Int → List WinT
  | 0, _ => []
  | k + 1, f => if f ≤ t then (if t < f + size then [⟨f, f + size⟩] else []) ++ slideF size step t k (f + step) else []
theorem slideF_len (size step t : Int) : ∀ k f, (slideF size step t k f).length ≤ k
  | 0, _ => Nat.le_refl _
  | k + 1, f => by
    have := slideF_len size step t k (f + step)
    unfold slideF
    split
    · rw [List.length_append]
      split <;> simp <;> omega
    · simp
theorem slideF_st {size step t : Int} (hs : 1 ≤ step) : ∀ k f, (t + 1 - f).toNat ≤ k → slideF size step t (k + 1) f = slideF size step t k f
  | 0, f, h => by
    unfold slideF
    rw [if_neg (by omega)]
  | k + 1, f, h => by
    have ih := slideF_st (size := size) (t := t) hs k (f + step)
    unfold slideF
    by_cases hf : f ≤ t
    · rw [if_pos hf, if_pos hf, ih (by omega)]
    · rw [if_neg hf, if_neg hf]
/-- One step of it, with room to spare. -/
theorem slideF_go {size step t f : Int} (hs : 1 ≤ step) (h0 : 0 ≤ f) (h1 : t ≤ 60) (hf : f ≤ t) : slideF size step t 100 f = (if t < f + size then [⟨f, f + size⟩] else []) ++ slideF size step t 100 (f + step) := by
  have e : slideF size step t 100 (f + step) = slideF size step t 99 (f + step) := slideF_st hs 99 (f + step) (by omega)
  rw [e]
  show slideF size step t (99 + 1) f = _
  unfold slideF
  rw [if_pos hf]
  rfl
theorem slideF_end {size step t f : Int} (hf : ¬ f ≤ t) : slideF size step t 100 f = [] := by
  show slideF size step t (99 + 1) f = _
  unfold slideF
  rw [if_neg hf]
def winFrom (j : JobT) (t : Int) : Int := if j.kind = 1 then t - t.tmod j.size else if j.kind = 2 then 0 else t
def winStep (j : JobT) : Int := if j.kind = 1 then j.size else if j.kind = 2 then j.step else 1
def winsL (j : JobT) (t : Int) : List WinT := slideF j.size (winStep j) t 100 (winFrom j t)
theorem winsL_len (j : JobT) (t : Int) : (winsL j t).length ≤ 100 := slideF_len _ _ _ _ _
theorem winsL_fixed {j : JobT} {t : Int} (hk : j.kind = 1) (hs : 1 ≤ j.size) (h0 : 0 ≤ t) (h1 : t ≤ 60) : winsL j t = [⟨t - t.tmod j.size, t - t.tmod j.size + j.size⟩] := by
  have a := Int.tmod_nonneg j.size h0
  have b := Int.tmod_lt_of_pos t (show 0 < j.size by omega)
  have c : t.tmod j.size ≤ t := by
    rw [Int.tmod_eq_emod_of_nonneg h0]
    have := Int.emod_add_mul_ediv t j.size
    have := Int.mul_nonneg (show 0 ≤ j.size by omega) (Int.ediv_nonneg h0 (show 0 ≤ j.size by omega))
    omega
  unfold winsL winStep winFrom
  rw [if_pos hk, if_pos hk, slideF_go hs (by omega) h1 (by omega), if_pos (by omega), slideF_end (by omega)]
  rfl
theorem winsL_sess {j : JobT} {t : Int} (hk : j.kind = 3) (hs : 1 ≤ j.size) (h0 : 0 ≤ t) (h1 : t ≤ 60) : winsL j t = [⟨t, t + j.size⟩] := by
  unfold winsL winStep winFrom
  rw [if_neg (by omega), if_neg (by omega), if_neg (by omega), if_neg (by omega), slideF_go (by omega) h0 h1 (by omega), if_pos (by omega), slideF_end (by omega)]
  rfl
def pairsL (j : JobT) (g : Nat → ItmT) : Nat → List LatT
  | 0 => []
  | i + 1 => pairsL j g i ++ (winsL j (g i).t).map fun w => ⟨g i, w⟩
theorem pairsL_len (j : JobT) (g : Nat → ItmT) : ∀ i, (pairsL j g i).length ≤ 100 * i
  | 0 => Nat.le_refl _
  | i + 1 => by
    have := pairsL_len j g i
    have := winsL_len j (g i).t
    unfold pairsL
    rw [List.length_append, List.length_map]
    omega
def RecP (x : ItmT) : Prop := x.kind = 1 ∧ ItmOkP x
theorem recP_t {x : ItmT} (h : RecP x) : 0 ≤ x.t ∧ x.t ≤ 60 := by
  obtain ⟨h1, h2⟩ := h
  unfold ItmOkP at h2
  omega
def SpcOkP (j : JobT) (m : Nat) (g : Nat → ItmT) : Prop := JobOkP j ∧ m ≤ 120 ∧ ∀ i, i < m → RecP (g i)
open Classical in
noncomputable def spcL (j : JobT) (m : Nat) (g : Nat → ItmT) : List LatT := if SpcOkP j m g then pairsL j g m else []
def mkItm (k : Int) : ItmT := ⟨k, k + 1, k + 2, k + 3, k + 4⟩
def mkLat (k : Int) : LatT := ⟨⟨k, k + 1, k + 2, k + 3, k + 4⟩, ⟨k + 5, k + 6⟩⟩
/-- The list that so many rows tell. -/
def Tells {α : Type} (z : α) (e : α → List DV) (l : List α) (n : Nat) (row : Nat → List DV) : Prop := n = l.length ∧ ∀ k, k < n → row k = e (l.getD k z)
theorem tells_snoc {α : Type} {z : α} {e : α → List DV} {l : List α} {n : Nat} {row row' : Nat → List DV} {x : α} (h : Tells z e l n row)
    (h' : ∀ k, k < n + 1 → row' k = if k < n then row k else e x) : Tells z e (l ++ [x]) (n + 1) row' := by
  obtain ⟨rfl, h2⟩ := h
  refine ⟨by simp, fun k hk => ?_⟩
  rw [h' k hk]
  by_cases hl : k < l.length
  · rw [if_pos hl, h2 k hl, List.getD_eq_getElem?_getD, List.getD_eq_getElem?_getD, List.getElem?_append_left hl]
  · have : k = l.length := by omega
    subst this
    rw [if_neg hl]
    simp
theorem take_succ_getD {α : Type} {z : α} {l : List α} {k : Nat} (h : k < l.length) : l.take (k + 1) = l.take k ++ [l.getD k z] := by
  rw [List.take_add_one, List.getElem?_eq_getElem h, List.getD_eq_getElem?_getD, List.getElem?_eq_getElem h]
  rfl
end Go.Rk
/- Rows of a table, as lists. -/
namespace Go.Rk
set_option linter.unusedSimpArgs false
set_option linter.unusedVariables false
def zTab : TabT := ⟨0, ⟨0, 0⟩, ⟨0, 0, 0, 0⟩⟩
def IsRow (key : Int) (w : WinT) (r : TabT) : Prop := r.key = key ∧ (r.win.s = w.s ∧ r.win.e = w.e)
instance (key : Int) (w : WinT) (r : TabT) : Decidable (IsRow key w r) := inferInstanceAs (Decidable (_ ∧ _))
def Ahead (r q : TabT) : Prop := r.key < q.key ∨ (r.key = q.key ∧ (r.win.s < q.win.s ∨ (r.win.s = q.win.s ∧ r.win.e < q.win.e)))
instance (r q : TabT) : Decidable (Ahead r q) := inferInstanceAs (Decidable (_ ∨ _))
/-- A list, by its number and its members. -/
def Lst {α : Type} (z : α) (l : List α) (n : Nat) (g : Nat → α) : Prop := n = l.length ∧ ∀ k, k < n → g k = l.getD k z
theorem lst_self {α : Type} (z : α) (l : List α) : Lst z l l.length (fun k => l.getD k z) := ⟨rfl, fun _ _ => rfl⟩
theorem lst_tells {α : Type} {z : α} {l : List α} {n : Nat} {g : Nat → α} (e : α → List DV) (h : Lst z l n g) : Tells z e l n (fun i => e (g i)) := ⟨h.1, fun k hk => congrArg e (h.2 k hk)⟩
theorem lst_take {α : Type} {z : α} {l : List α} {n : Nat} {g : Nat → α} (h : Lst z l n g) {i : Nat} (hi : i < n) : l.take (i + 1) = l.take i ++ [g i] := by
  rw [h.2 i hi]
  exact take_succ_getD (by rw [← h.1]; exact hi)
theorem lst_all {α : Type} {z : α} {l : List α} {n : Nat} {g : Nat → α} (h : Lst z l n g) : l.take n = l := by rw [h.1, List.take_length]
theorem lst_drop {α : Type} {z : α} {l : List α} {n : Nat} {g : Nat → α} (h : Lst z l n g) {i : Nat} (hi : i < n) : l.drop i = g i :: l.drop (i + 1) := by
  have hl : i < l.length := by rw [← h.1]; exact hi
  rw [List.drop_eq_getElem_cons hl, h.2 i hi, List.getD_eq_getElem?_getD, List.getElem?_eq_getElem hl]
  rfl
theorem lst_mem {α : Type} {z : α} {l : List α} {n : Nat} {g : Nat → α} (h : Lst z l n g) {x : α} (hx : x ∈ l) : ∃ k, k < n ∧ g k = x := by
  obtain ⟨k, hk⟩ := List.mem_iff_getElem?.1 hx
  have hl : k < l.length := (List.getElem?_eq_some_iff.1 hk).1
  refine ⟨k, by rw [h.1]; exact hl, ?_⟩
  rw [h.2 k (by rw [h.1]; exact hl), List.getD_eq_getElem?_getD, hk]
  rfl
/-- From a function that has so many members. -/
theorem lst_of {α : Type} (z : α) (n : Nat) (g : Nat → α) : Lst z ((List.range n).map g) n g := by
  refine ⟨by simp, fun k hk => ?_⟩
  rw [List.getD_eq_getElem?_getD, List.getElem?_map, List.getElem?_range hk]
  rfl
def tOut (key : Int) (w : WinT) : List TabT → List TabT
  | [] => []
  | r :: l => if IsRow key w r then tOut key w l else r :: tOut key w l
theorem tOut_app (key : Int) (w : WinT) : ∀ l m, tOut key w (l ++ m) = tOut key w l ++ tOut key w m
  | [], _ => rfl
  | r :: l, m => by
    show (if IsRow key w r then tOut key w (l ++ m) else r :: tOut key w (l ++ m)) = _
    rw [tOut_app key w l m]
    show _ = (if IsRow key w r then tOut key w l else r :: tOut key w l) ++ tOut key w m
    split <;> rfl
theorem tOut_len (key : Int) (w : WinT) : ∀ l, (tOut key w l).length ≤ l.length
  | [] => Nat.le_refl _
  | r :: l => by
    have := tOut_len key w l
    show (if IsRow key w r then tOut key w l else r :: tOut key w l).length ≤ _
    split <;> simp <;> omega
theorem tOut_in {key : Int} {w : WinT} {r : TabT} : ∀ {l : List TabT}, r ∈ tOut key w l ↔ r ∈ l ∧ ¬ IsRow key w r
  | [] => ⟨fun h => absurd h (List.not_mem_nil), fun h => absurd h.1 (List.not_mem_nil)⟩
  | q :: l => by
    show r ∈ (if IsRow key w q then tOut key w l else q :: tOut key w l) ↔ _
    split
    · rename_i h
      rw [tOut_in, List.mem_cons]
      constructor
      · rintro ⟨h1, h2⟩; exact ⟨.inr h1, h2⟩
      · rintro ⟨rfl | h1, h2⟩
        · exact absurd h h2
        · exact ⟨h1, h2⟩
    · rename_i h
      rw [List.mem_cons, List.mem_cons, tOut_in]
      constructor
      · rintro (rfl | ⟨h1, h2⟩)
        · exact ⟨.inl rfl, h⟩
        · exact ⟨.inr h1, h2⟩
      · rintro ⟨rfl | h1, h2⟩
        · exact .inl rfl
        · exact .inr ⟨h1, h2⟩
def tIns (r : TabT) : List TabT → List TabT
  | [] => [r]
  | q :: l => if Ahead r q then r :: q :: l else q :: tIns r l
theorem tIns_len (r : TabT) : ∀ l, (tIns r l).length = l.length + 1
  | [] => rfl
  | q :: l => by
    have := tIns_len r l
    show (if Ahead r q then r :: q :: l else q :: tIns r l).length = _
    split <;> simp <;> omega
/-- At the first place that it stands ahead of. -/
theorem tIns_at (r : TabT) : ∀ (l : List TabT) (i : Nat), (∀ x, x ∈ l.take i → ¬ Ahead r x) → (∀ x, l[i]? = some x → Ahead r x) → i ≤ l.length → tIns r l = l.take i ++ r :: l.drop i
  | [], i, _, _, h => by
    have : i = 0 := by simpa using h
    subst this
    rfl
  | q :: l, 0, _, h2, _ => by
    show (if Ahead r q then r :: q :: l else q :: tIns r l) = _
    rw [if_pos (h2 q rfl)]
    rfl
  | q :: l, i + 1, h1, h2, h3 => by
    show (if Ahead r q then r :: q :: l else q :: tIns r l) = _
    rw [if_neg (h1 q (by simp)), tIns_at r l i (fun x hx => h1 x (by rw [List.take_succ_cons]; exact List.mem_cons_of_mem _ hx)) (fun x hx => h2 x hx) (by simpa using h3)]
    rfl
def tPut (r : TabT) (l : List TabT) : List TabT := tIns r (tOut r.key r.win l)
theorem tPut_len (r : TabT) (l : List TabT) : (tPut r l).length ≤ l.length + 1 := by
  unfold tPut
  rw [tIns_len]
  have := tOut_len r.key r.win l
  omega
def tFind (key : Int) (w : WinT) : List TabT → Option AggT
  | [] => none
  | r :: l => if IsRow key w r then some r.agg else tFind key w l
theorem tFind_app (key : Int) (w : WinT) (r : TabT) : ∀ l m, (∀ x, x ∈ l → ¬ IsRow key w x) → tFind key w (l ++ m) = tFind key w m
  | [], _, _ => rfl
  | q :: l, m, h => by
    show (if IsRow key w q then some q.agg else tFind key w (l ++ m)) = _
    rw [if_neg (h q (by simp)), tFind_app key w r l m fun x hx => h x (List.mem_cons_of_mem _ hx)]
theorem room_add2 {A : Ar} (hA : real = A) {n m b : Nat} (hn : n + m ≤ 2000000) (hb : b ≤ 100000) : A.room (A.add n m) b := by
  subst hA
  have h1 : (n + m) * b ≤ 2000000 * 100000 := Nat.mul_le_mul hn hb
  exact ⟨Nat.le_trans h1 (by omega), Nat.le_trans hn (by omega)⟩
def mkTab (k : Int) : TabT := ⟨k, ⟨k + 1, k + 2⟩, ⟨k + 3, k + 4, k + 5, k + 6⟩⟩
theorem lt_of {A : Ar} (hA : real = A) {i n : Nat} (h : A.cmp .lss (Int.ofNat i) (A.int n) = true) : i < n := by
  subst hA
  have h : decide ((i : Int) < (n : Int)) = true := h
  rw [decide_eq_true_eq] at h
  omega
theorem ge_of {A : Ar} (hA : real = A) {i n : Nat} (h : A.cmp .lss (Int.ofNat i) (A.int n) = false) : n ≤ i := by
  subst hA
  have h : decide ((i : Int) < (n : Int)) = false := h
  rw [decide_eq_false_iff_not] at h
  omega
theorem inb_lt {A : Ar} (hA : real = A) {g : Bool} {i n : Nat} (h : i < n) : A.inb g (Int.ofNat i) n := by
  refine inb_of hA fun _ => ?_
  have e : Int.ofNat i = (i : Int) := rfl
  rw [e]
  omega
theorem ix0 {A : Ar} (hA : real = A) (i : Nat) : A.add 0 (A.nat (Int.ofNat i)) = i := by subst hA; exact Nat.zero_add i
theorem ixn {A : Ar} (hA : real = A) (i : Nat) : A.nat (Int.ofNat i) = i := by subst hA; rfl
def zAgg : AggT := ⟨0, 0, 0, 0⟩
/-- A row that is put in its place, told by numbers. -/
theorem tIns_lst {r : TabT} {l : List TabT} {n0 n1 i : Nat} {G0 G : Nat → TabT} (h0 : Lst zTab l n0 G0) (h1 : Lst zTab (tIns r l) n1 G) (hi : i ≤ n0) (ha : ∀ k, k < i → ¬ Ahead r (G0 k)) (hb : i < n0 → Ahead r (G0 i)) :
    n1 = n0 + 1 ∧ ∀ k, k < n0 + 1 → G k = if k < i then G0 k else if k = i then r else G0 (k - 1) := by
  have e : tIns r l = l.take i ++ r :: l.drop i := by
    refine tIns_at r l i (fun x hx => ?_) (fun x hx => ?_) (by rw [← h0.1]; exact hi)
    · obtain ⟨k, hk⟩ := List.mem_iff_getElem?.1 hx
      rw [List.getElem?_take] at hk
      split at hk
      · rename_i hki
        have := h0.2 k (by omega)
        rw [List.getD_eq_getElem?_getD, hk] at this
        have := ha k hki
        simp_all
      · cases hk
    · have hin : i < n0 := by rw [h0.1]; exact (List.getElem?_eq_some_iff.1 hx).1
      have := h0.2 i hin
      rw [List.getD_eq_getElem?_getD, hx] at this
      have := hb hin
      simp_all
  have hlen := tIns_len r l
  have hn1 : n1 = n0 + 1 := by rw [h1.1, hlen, h0.1]
  refine ⟨hn1, fun k hk => ?_⟩
  have htl : (l.take i).length = i := by rw [List.length_take, ← h0.1]; omega
  rw [h1.2 k (by omega), e, List.getD_eq_getElem?_getD]
  by_cases hki : k < i
  · rw [if_pos hki, List.getElem?_append_left (by omega), List.getElem?_take, if_pos hki, h0.2 k (by omega), List.getD_eq_getElem?_getD]
  · rw [if_neg hki, List.getElem?_append_right (by omega), htl]
    by_cases hk2 : k = i
    · rw [if_pos hk2, hk2, Nat.sub_self]; rfl
    · rw [if_neg hk2, show k - i = (k - 1 - i) + 1 by omega, List.getElem?_cons_succ, List.getElem?_drop, show i + (k - 1 - i) = k - 1 by omega, h0.2 (k - 1) (by omega), List.getD_eq_getElem?_getD]
theorem tFind_first {key : Int} {w : WinT} {l : List TabT} {n i : Nat} {g : Nat → TabT} (h : Lst zTab l n g) (hi : i < n) (hq : IsRow key w (g i)) (hb : ∀ k, k < i → ¬ IsRow key w (g k)) : tFind key w l = some (g i).agg := by
  have e : l = l.take i ++ l.drop i := (List.take_append_drop i l).symm
  rw [e, tFind_app key w (g i) _ _ (fun x hx => ?_), lst_drop h hi]
  · show (if IsRow key w (g i) then some (g i).agg else _) = _
    rw [if_pos hq]
  · obtain ⟨k, hk⟩ := List.mem_iff_getElem?.1 hx
    rw [List.getElem?_take] at hk
    split at hk
    · rename_i hki
      have h2 := h.2 k (by omega)
      rw [List.getD_eq_getElem?_getD, hk] at h2
      have h2 : g k = x := h2
      rw [← h2]
      exact hb k hki
    · cases hk
theorem tFind_none {key : Int} {w : WinT} {l : List TabT} {n : Nat} {g : Nat → TabT} (h : Lst zTab l n g) (hb : ∀ k, k < n → ¬ IsRow key w (g k)) : tFind key w l = none := by
  have := tFind_app key w zTab l [] (fun x hx => by obtain ⟨k, hk, rfl⟩ := lst_mem h hx; exact hb k hk)
  rw [List.append_nil] at this
  rw [this]; rfl
end Go.Rk
/- What is known of values, by lists; tables that records lead to. -/
namespace Go.Rk
set_option linter.unusedSimpArgs false
set_option linter.unusedVariables false
def aggB (a b : AggT) : AggT := if a.n = 0 then b else if b.n = 0 then a else ⟨w64 (a.n + b.n), w64 (a.sum + b.sum), if b.least < a.least then b.least else a.least, if a.most < b.most then b.most else a.most⟩
def agg1 (v : Int) : AggT := ⟨1, v, v, v⟩
def aggAdd (a : AggT) (v : Int) : AggT := aggB a (agg1 v)
theorem aggB_z (a : AggT) : aggB zAgg a = a := rfl
def sumI : List Int → Int
  | [] => 0
  | x :: l => x + sumI l
theorem sumI_app : ∀ l m, sumI (l ++ m) = sumI l + sumI m
  | [], m => by simp [sumI]
  | x :: l, m => by simp [sumI, sumI_app l m]; omega
theorem sumI_perm {l m : List Int} (h : l.Perm m) : sumI l = sumI m := by
  induction h with
  | nil => rfl
  | cons x _ ih => simp [sumI, ih]
  | swap x y l => simp [sumI]; omega
  | trans _ _ h1 h2 => exact h1.trans h2
theorem sumI_bd : ∀ l : List Int, (∀ x, x ∈ l → -9 ≤ x ∧ x ≤ 9) → -9 * (l.length : Int) ≤ sumI l ∧ sumI l ≤ 9 * (l.length : Int)
  | [], _ => by simp [sumI]
  | x :: l, h => by
    have h1 := h x (by simp)
    have h2 := sumI_bd l fun y hy => h y (List.mem_cons_of_mem _ hy)
    simp only [sumI, List.length_cons, Int.natCast_add, Int.natCast_one]
    omega
/-- What is known of just these values. -/
structure AggIs (a : AggT) (L : List Int) : Prop where
  n : a.n = (L.length : Int)
  sum : a.sum = sumI L
  z : L = [] → a = zAgg
  nz : L ≠ [] → a.least ∈ L ∧ a.most ∈ L ∧ ∀ x, x ∈ L → a.least ≤ x ∧ x ≤ a.most
theorem aggIs_nil : AggIs zAgg [] := ⟨rfl, rfl, fun _ => rfl, fun h => absurd rfl h⟩
theorem aggIs_one (v : Int) : AggIs (agg1 v) [v] := ⟨rfl, by simp [agg1, sumI], fun h => by simp at h, fun _ => ⟨by simp [agg1], by simp [agg1], fun x hx => by simp at hx; subst hx; exact ⟨Int.le_refl _, Int.le_refl _⟩⟩⟩
theorem aggIs_uniq {a b : AggT} {L M : List Int} (ha : AggIs a L) (hb : AggIs b M) (h : L.Perm M) : a = b := by
  by_cases hL : L = []
  · have hM : M = [] := by subst hL; exact List.nil_perm.1 h
    rw [ha.z hL, hb.z hM]
  · have hM : M ≠ [] := fun e => hL (by subst e; exact List.perm_nil.1 h)
    obtain ⟨a1, a2, a3⟩ := ha.nz hL
    obtain ⟨b1, b2, b3⟩ := hb.nz hM
    have e1 : a.n = b.n := by rw [ha.n, hb.n, h.length_eq]
    have e2 : a.sum = b.sum := by rw [ha.sum, hb.sum, sumI_perm h]
    have h1 := a3 _ (h.mem_iff.2 b1)
    have h2 := b3 _ (h.mem_iff.1 a1)
    have h3 := a3 _ (h.mem_iff.2 b2)
    have h4 := b3 _ (h.mem_iff.1 a2)
    have e3 : a.least = b.least := by omega
    have e4 : a.most = b.most := by omega
    cases a; cases b; simp_all
theorem w64_in (x : Int) (h : -9223372036854775808 ≤ x ∧ x ≤ 9223372036854775807) : w64 x = x := IntWalk.i64_in x h
theorem aggB_is {a b : AggT} {L M : List Int} (ha : AggIs a L) (hb : AggIs b M) (hv : ∀ x, x ∈ L ++ M → -9 ≤ x ∧ x ≤ 9) (hn : (L ++ M).length ≤ 1000000) : AggIs (aggB a b) (L ++ M) := by
  unfold aggB
  by_cases hL : L = []
  · have := ha.z hL
    subst hL; rw [this]
    exact hb
  · have hl : L.length ≠ 0 := fun e => hL (List.length_eq_zero_iff.1 e)
    rw [if_neg (by rw [ha.n]; omega)]
    by_cases hM : M = []
    · have := hb.z hM
      subst hM; rw [this, List.append_nil]
      rw [if_pos (show zAgg.n = 0 from rfl)]
      exact ha
    · have hm : M.length ≠ 0 := fun e => hM (List.length_eq_zero_iff.1 e)
      rw [if_neg (by rw [hb.n]; omega)]
      obtain ⟨a1, a2, a3⟩ := ha.nz hL
      obtain ⟨b1, b2, b3⟩ := hb.nz hM
      have s1 := sumI_bd L fun x hx => hv x (List.mem_append_left _ hx)
      have s2 := sumI_bd M fun x hx => hv x (List.mem_append_right _ hx)
      rw [List.length_append] at hn
      refine ⟨?_, ?_, fun e => absurd (List.append_eq_nil_iff.1 e).1 hL, fun _ => ⟨?_, ?_, fun x hx => ?_⟩⟩
      · show w64 (a.n + b.n) = _
        rw [w64_in _ (by rw [ha.n, hb.n]; omega), ha.n, hb.n, List.length_append]
        omega
      · show w64 (a.sum + b.sum) = _
        rw [w64_in _ (by rw [ha.sum, hb.sum]; omega), ha.sum, hb.sum, sumI_app]
      · show (if b.least < a.least then b.least else a.least) ∈ _
        split
        · exact List.mem_append_right _ b1
        · exact List.mem_append_left _ a1
      · show (if a.most < b.most then b.most else a.most) ∈ _
        split
        · exact List.mem_append_right _ b2
        · exact List.mem_append_left _ a2
      · show (if b.least < a.least then b.least else a.least) ≤ x ∧ x ≤ (if a.most < b.most then b.most else a.most)
        rcases List.mem_append.1 hx with h | h
        · have := a3 x h
          constructor <;> split <;> omega
        · have := b3 x h
          constructor <;> split <;> omega
/-- Lists that rise are told by their members. -/
theorem sorted_ext {α : Type} {lt : α → α → Prop} (irr : ∀ a, ¬ lt a a) (tr : ∀ a b c, lt a b → lt b c → lt a c) : ∀ {l m : List α}, l.Pairwise lt → m.Pairwise lt → (∀ x, x ∈ l ↔ x ∈ m) → l = m
  | [], [], _, _, _ => rfl
  | [], b :: m, _, _, h => absurd ((h b).2 (by simp)) (by simp)
  | a :: l, [], _, _, h => absurd ((h a).1 (by simp)) (by simp)
  | a :: l, b :: m, hl, hm, h => by
    rw [List.pairwise_cons] at hl hm
    have hab : a = b := by
      rcases List.mem_cons.1 ((h a).1 (by simp)) with e | e
      · exact e
      · rcases List.mem_cons.1 ((h b).2 (by simp)) with f | f
        · exact f.symm
        · exact absurd (tr _ _ _ (hl.1 b f) (hm.1 a e)) (irr a)
    subst hab
    refine congrArg (a :: ·) (sorted_ext irr tr hl.2 hm.2 fun x => ⟨fun hx => ?_, fun hx => ?_⟩)
    · rcases List.mem_cons.1 ((h x).1 (List.mem_cons_of_mem _ hx)) with e | e
      · subst e; exact absurd (hl.1 x hx) (irr x)
      · exact e
    · rcases List.mem_cons.1 ((h x).2 (List.mem_cons_of_mem _ hx)) with e | e
      · subst e; exact absurd (hm.1 x hx) (irr x)
      · exact e
theorem ahead_irr (a : TabT) : ¬ Ahead a a := by unfold Ahead; omega
theorem ahead_tr (a b c : TabT) (h : Ahead a b) (h' : Ahead b c) : Ahead a c := by unfold Ahead at *; omega
theorem ahead_tot {r q : TabT} (h : ¬ Ahead r q) (h' : ¬ IsRow r.key r.win q) : Ahead q r := by unfold Ahead at *; unfold IsRow at h'; omega
abbrev Rise (l : List TabT) : Prop := l.Pairwise Ahead
theorem rise_two {l : List TabT} (h : Rise l) {r q : TabT} (hr : r ∈ l) (hq : q ∈ l) (e : IsRow r.key r.win q) : r = q := by
  induction l with
  | nil => simp at hr
  | cons a l ih =>
    rw [Rise, List.pairwise_cons] at h
    rcases List.mem_cons.1 hr with e1 | h1 <;> rcases List.mem_cons.1 hq with e2 | h2
    · rw [e1, e2]
    · have := h.1 q h2; rw [← e1] at this; unfold Ahead at this; unfold IsRow at e; omega
    · have := h.1 r h1; rw [← e2] at this; unfold Ahead at this; unfold IsRow at e; omega
    · exact ih h.2 h1 h2
theorem mem_tIns {r x : TabT} : ∀ {l : List TabT}, x ∈ tIns r l ↔ x = r ∨ x ∈ l
  | [] => by simp [tIns]
  | q :: l => by
    show x ∈ (if Ahead r q then r :: q :: l else q :: tIns r l) ↔ _
    split
    · simp
    · rw [List.mem_cons, mem_tIns, List.mem_cons]
      exact ⟨fun h => h.elim (fun e => .inr (.inl e)) (fun h => h.imp id .inr), fun h => h.elim (fun e => .inr (.inl e)) (fun h => h.elim .inl fun h => .inr (.inr h))⟩
theorem rise_tIns {r : TabT} : ∀ {l : List TabT}, Rise l → (∀ q, q ∈ l → ¬ IsRow r.key r.win q) → Rise (tIns r l)
  | [], _, _ => by simp [tIns, Rise]
  | q :: l, h, hn => by
    have h' := h
    rw [Rise, List.pairwise_cons] at h
    show Rise (if Ahead r q then r :: q :: l else q :: tIns r l)
    split
    · rename_i ha
      rw [Rise, List.pairwise_cons]
      refine ⟨fun x hx => ?_, h'⟩
      rcases List.mem_cons.1 hx with rfl | hx
      · exact ha
      · exact ahead_tr _ _ _ ha (h.1 x hx)
    · rename_i ha
      rw [Rise, List.pairwise_cons]
      refine ⟨fun x hx => ?_, rise_tIns h.2 fun y hy => hn y (List.mem_cons_of_mem _ hy)⟩
      rcases mem_tIns.1 hx with rfl | hx
      · exact ahead_tot ha (hn q (by simp))
      · exact h.1 x hx
theorem tOut_filter (key : Int) (w : WinT) : ∀ l, tOut key w l = l.filter fun r => !decide (IsRow key w r)
  | [] => rfl
  | r :: l => by
    show (if IsRow key w r then tOut key w l else r :: tOut key w l) = _
    rw [List.filter_cons, tOut_filter key w l]
    by_cases h : IsRow key w r <;> simp [h]
theorem rise_tOut {key : Int} {w : WinT} {l : List TabT} (h : Rise l) : Rise (tOut key w l) := by
  rw [tOut_filter]; exact h.sublist List.filter_sublist
theorem mem_tPut {r x : TabT} {l : List TabT} : x ∈ tPut r l ↔ x = r ∨ (x ∈ l ∧ ¬ IsRow r.key r.win x) := by
  unfold tPut; rw [mem_tIns, tOut_in]
theorem rise_tPut {r : TabT} {l : List TabT} (h : Rise l) : Rise (tPut r l) := rise_tIns (rise_tOut h) fun _ hq => (tOut_in.1 hq).2
theorem tFind_some {key : Int} {w : WinT} {a : AggT} : ∀ {l : List TabT}, tFind key w l = some a → ∃ r, r ∈ l ∧ IsRow key w r ∧ r.agg = a
  | [], h => by cases h
  | r :: l, h => by
    have h : (if IsRow key w r then some r.agg else tFind key w l) = some a := h
    split at h
    · rename_i hr
      exact ⟨r, by simp, hr, by simpa using h⟩
    · obtain ⟨q, h1, h2⟩ := tFind_some h
      exact ⟨q, List.mem_cons_of_mem _ h1, h2⟩
theorem tFind_no {key : Int} {w : WinT} : ∀ {l : List TabT}, tFind key w l = none → ∀ r, r ∈ l → ¬ IsRow key w r
  | [], _, r, hr => by simp at hr
  | q :: l, h, r, hr => by
    have h : (if IsRow key w q then some q.agg else tFind key w l) = none := h
    split at h
    · cases h
    · rename_i hq
      rcases List.mem_cons.1 hr with rfl | hr
      · exact hq
      · exact tFind_no h r hr
theorem tFind_rise {key : Int} {w : WinT} {l : List TabT} (h : Rise l) {r : TabT} (hr : r ∈ l) (e : IsRow key w r) : tFind key w l = some r.agg := by
  cases hf : tFind key w l with
  | none => exact absurd e (tFind_no hf r hr)
  | some a =>
    obtain ⟨q, h1, h2, h3⟩ := tFind_some hf
    have : r = q := rise_two h hr h1 (by unfold IsRow at *; omega)
    rw [this, h3]
def tCnt : List TabT → Int
  | [] => 0
  | r :: l => r.agg.n + tCnt l
theorem tCnt_app : ∀ l m, tCnt (l ++ m) = tCnt l + tCnt m
  | [], m => by simp [tCnt]
  | r :: l, m => by simp [tCnt, tCnt_app l m]; omega
theorem tCnt_ins (r : TabT) : ∀ l, tCnt (tIns r l) = r.agg.n + tCnt l
  | [] => rfl
  | q :: l => by
    show tCnt (if Ahead r q then r :: q :: l else q :: tIns r l) = _
    split
    · rfl
    · simp only [tCnt, tCnt_ins r l]; omega
theorem tOut_none {key : Int} {w : WinT} {l : List TabT} (h : ∀ q, q ∈ l → ¬ IsRow key w q) : tOut key w l = l := by
  rw [tOut_filter, List.filter_eq_self]
  intro q hq
  simp [h q hq]
theorem tCnt_out {key : Int} {w : WinT} : ∀ {l : List TabT}, Rise l → tCnt (tOut key w l) + ((tFind key w l).getD zAgg).n = tCnt l
  | [], _ => rfl
  | r :: l, h => by
    have h' := h
    rw [Rise, List.pairwise_cons] at h
    show tCnt (if IsRow key w r then tOut key w l else r :: tOut key w l) + ((if IsRow key w r then some r.agg else tFind key w l).getD zAgg).n = r.agg.n + tCnt l
    split
    · rename_i hr
      rw [tOut_none fun q hq e => absurd (h.1 q hq) (by unfold Ahead; unfold IsRow at hr e; omega)]
      show _ + r.agg.n = _
      omega
    · have := tCnt_out (key := key) (w := w) h.2
      simp only [tCnt]; omega
end Go.Rk
/- Tables of pairs of records and windows: what they say, and that they hang on no order. -/
namespace Go.Rk
set_option linter.unusedSimpArgs false
set_option linter.unusedVariables false
def winSpan (a b : WinT) : WinT := ⟨if b.s < a.s then b.s else a.s, if a.e < b.e then b.e else a.e⟩
def tchD (k : Int) (w : WinT) (r : TabT) : Bool := decide (r.key = k ∧ r.win.s < w.e ∧ w.s < r.win.e)
def sessS (k : Int) (w : WinT) (v : Int) (T : List TabT) : List TabT :=
  tPut ⟨k, ((T.filter (tchD k w)).map (·.win)).foldl winSpan w, ((T.filter (tchD k w)).map (·.agg)).foldl aggB (agg1 v)⟩ (T.filter fun r => !tchD k w r)
def sessI (k : Int) (w : WinT) (v : Int) (T : List TabT) : List TabT :=
  tPut ⟨k, ((T.filter (tchD k w)).map (·.win)).foldl winSpan w, aggAdd (((T.filter (tchD k w)).map (·.agg)).foldl aggB zAgg) v⟩ (T.filter fun r => !tchD k w r)
def stepW (k : Int) (w : WinT) (v : Int) (T : List TabT) : List TabT := tPut ⟨k, w, aggAdd ((tFind k w T).getD zAgg) v⟩ T
def stepS (kind : Int) (T : List TabT) (l : LatT) : List TabT := if kind = 3 then sessS l.itm.key l.win l.itm.v T else stepW l.itm.key l.win l.itm.v T
def stepI (kind : Int) (T : List TabT) (l : LatT) : List TabT := if kind = 3 then sessI l.itm.key l.win l.itm.v T else stepW l.itm.key l.win l.itm.v T
/-- Pairs of which all is small. -/
def Fine (P : List LatT) : Prop := P.length ≤ 100000 ∧ ∀ l, l ∈ P → l.win.s < l.win.e ∧ -9 ≤ l.itm.v ∧ l.itm.v ≤ 9
def valsW (k : Int) (w : WinT) (P : List LatT) : List Int := (P.filter fun l => decide (l.itm.key = k ∧ l.win.s = w.s ∧ l.win.e = w.e)).map (·.itm.v)
def valsS (k : Int) (w : WinT) (P : List LatT) : List Int := (P.filter fun l => decide (l.itm.key = k ∧ w.s ≤ l.win.s ∧ l.win.s < w.e)).map (·.itm.v)
theorem vals_bd {P : List LatT} (h : Fine P) {p : LatT → Bool} : ∀ x, x ∈ (P.filter p).map (·.itm.v) → -9 ≤ x ∧ x ≤ 9 := by
  intro x hx
  obtain ⟨l, hl, rfl⟩ := List.mem_map.1 hx
  exact (h.2 l (List.mem_filter.1 hl).1).2
theorem vals_len {P : List LatT} {p : LatT → Bool} : ((P.filter p).map (·.itm.v)).length ≤ P.length := by
  rw [List.length_map]; exact List.length_filter_le _ _
/-! ## Windows that do not grow -/
structure InvW (P : List LatT) (T : List TabT) : Prop where
  rise : Rise T
  row : ∀ r, r ∈ T → valsW r.key r.win P ≠ [] ∧ AggIs r.agg (valsW r.key r.win P)
  has : ∀ l, l ∈ P → ∃ r, r ∈ T ∧ IsRow l.itm.key l.win r
theorem valsW_snoc (k : Int) (w : WinT) (P : List LatT) (l : LatT) : valsW k w (P ++ [l]) = valsW k w P ++ if l.itm.key = k ∧ l.win.s = w.s ∧ l.win.e = w.e then [l.itm.v] else [] := by
  unfold valsW
  rw [List.filter_append, List.map_append]
  by_cases h : l.itm.key = k ∧ l.win.s = w.s ∧ l.win.e = w.e
  · have hd : decide (l.itm.key = k ∧ l.win.s = w.s ∧ l.win.e = w.e) = true := decide_eq_true h
    simp only [List.filter_cons, List.filter_nil, hd, if_pos h, if_true, List.map_cons, List.map_nil]
  · have hd : decide (l.itm.key = k ∧ l.win.s = w.s ∧ l.win.e = w.e) = false := decide_eq_false h
    simp only [List.filter_cons, List.filter_nil, hd, if_neg h, Bool.false_eq_true, if_false, List.map_nil]
theorem valsW_row {k : Int} {w : WinT} {r : TabT} (h : IsRow k w r) (P : List LatT) : valsW r.key r.win P = valsW k w P := by
  unfold valsW; obtain ⟨h1, h2, h3⟩ := h; rw [h1, h2, h3]
theorem invW_step {P : List LatT} {T : List TabT} {l : LatT} (h : InvW P T) (hf : Fine (P ++ [l])) : InvW (P ++ [l]) (stepW l.itm.key l.win l.itm.v T) ∧ tCnt (stepW l.itm.key l.win l.itm.v T) = tCnt T + 1 := by
  have hfp : Fine P := ⟨by have := hf.1; rw [List.length_append] at this; omega, fun x hx => hf.2 x (List.mem_append_left _ hx)⟩
  have hv := (hf.2 l (by simp)).2
  have hlen := hf.1
  rw [List.length_append] at hlen
  have hlen : P.length + 1 ≤ 100000 := hlen
  have hagg : AggIs ((tFind l.itm.key l.win T).getD zAgg) (valsW l.itm.key l.win P) := by
    cases hfi : tFind l.itm.key l.win T with
    | some a =>
      obtain ⟨r, hr, hi, rfl⟩ := tFind_some hfi
      have := (h.row r hr).2
      rwa [valsW_row hi] at this
    | none =>
      have e : valsW l.itm.key l.win P = [] := by
        unfold valsW
        rw [List.map_eq_nil_iff, List.filter_eq_nil_iff]
        intro x hx hc
        obtain ⟨r, hr, hi⟩ := h.has x hx
        simp at hc
        exact tFind_no hfi r hr (by unfold IsRow at *; omega)
      rw [e]; exact aggIs_nil
  have hnew : AggIs (aggAdd ((tFind l.itm.key l.win T).getD zAgg) l.itm.v) (valsW l.itm.key l.win (P ++ [l])) := by
    rw [valsW_snoc, if_pos ⟨rfl, rfl, rfl⟩]
    refine aggB_is hagg (aggIs_one _) (fun x hx => ?_) ?_
    · rcases List.mem_append.1 hx with hx | hx
      · exact vals_bd hfp x hx
      · simp at hx; subst hx; exact hv
    · rw [List.length_append]
      have : (valsW l.itm.key l.win P).length ≤ P.length := vals_len
      simp; omega
  refine ⟨⟨rise_tPut h.rise, fun r hr => ?_, fun x hx => ?_⟩, ?_⟩
  · rcases mem_tPut.1 hr with rfl | ⟨hr, hn⟩
    · refine ⟨?_, hnew⟩
      show valsW l.itm.key l.win _ ≠ []
      rw [valsW_snoc, if_pos ⟨rfl, rfl, rfl⟩]
      simp
    · rw [valsW_snoc, if_neg (fun e => hn ⟨e.1.symm, e.2.1.symm, e.2.2.symm⟩), List.append_nil]
      exact h.row r hr
  · by_cases he : IsRow l.itm.key l.win ⟨x.itm.key, x.win, zAgg⟩
    · exact ⟨_, mem_tPut.2 (.inl rfl), by unfold IsRow at *; simp only at *; omega⟩
    · rcases List.mem_append.1 hx with hx | hx
      · obtain ⟨r, hr, hi⟩ := h.has x hx
        exact ⟨r, mem_tPut.2 (.inr ⟨hr, by unfold IsRow at *; simp only at *; omega⟩), hi⟩
      · simp at hx; subst hx; exact absurd ⟨rfl, rfl, rfl⟩ he
  · unfold stepW tPut
    rw [tCnt_ins]
    have h1 := tCnt_out (key := l.itm.key) (w := l.win) h.rise
    have h2 := hagg.n
    have h3 := hnew.n
    rw [valsW_snoc, if_pos ⟨rfl, rfl, rfl⟩, List.length_append] at h3
    simp only [List.length_singleton] at h3
    show (aggAdd _ _).n + tCnt (tOut l.itm.key l.win T) = _
    omega
theorem invW_uniq {P P' : List LatT} {T T' : List TabT} (h : InvW P T) (h' : InvW P' T') (hp : P.Perm P') : T = T' := by
  refine sorted_ext ahead_irr ahead_tr h.rise h'.rise ?_
  have key : ∀ {P P' : List LatT} {T T' : List TabT}, InvW P T → InvW P' T' → P.Perm P' → ∀ r, r ∈ T → r ∈ T' := by
    intro P P' T T' h h' hp r hr
    obtain ⟨h1, h2⟩ := h.row r hr
    obtain ⟨x, hx⟩ := List.exists_mem_of_ne_nil _ h1
    obtain ⟨l, hl, _⟩ := List.mem_map.1 hx
    obtain ⟨hl, hc⟩ := List.mem_filter.1 hl
    simp at hc
    obtain ⟨q, hq, hi⟩ := h'.has l (hp.mem_iff.1 hl)
    have hi' : IsRow q.key q.win r := by unfold IsRow at *; omega
    have e := valsW_row hi' P
    have hq2 := (h'.row q hq).2
    have ea : r.agg = q.agg := by
      refine aggIs_uniq h2 hq2 ?_
      rw [e]
      exact (hp.filter _).map _
    have : r = q := by
      obtain ⟨k, ⟨s, e⟩, a⟩ := r; obtain ⟨k', ⟨s', e'⟩, a'⟩ := q
      unfold IsRow at hi'; simp only at *; obtain ⟨rfl, rfl, rfl⟩ := hi'; subst ea; rfl
    rw [this]; exact hq
  exact fun r => ⟨key h h' hp r, key h' h hp.symm r⟩
/-! ## Sessions -/
def CovP (P : List LatT) (k p : Int) : Prop := ∃ l, l ∈ P ∧ l.itm.key = k ∧ l.win.s < p ∧ p < l.win.e
structure SessP (P : List LatT) (r : TabT) : Prop where
  lt : r.win.s < r.win.e
  fst : ∃ l, l ∈ P ∧ l.itm.key = r.key ∧ l.win.s = r.win.s
  lst : ∃ l, l ∈ P ∧ l.itm.key = r.key ∧ l.win.e = r.win.e
  mid : ∀ p, r.win.s < p → p < r.win.e → CovP P r.key p
  low : ¬ CovP P r.key r.win.s
  top : ¬ CovP P r.key r.win.e
  agg : AggIs r.agg (valsS r.key r.win P)
structure InvS (P : List LatT) (T : List TabT) : Prop where
  rise : Rise T
  row : ∀ r, r ∈ T → SessP P r
  has : ∀ l, l ∈ P → ∃ r, r ∈ T ∧ r.key = l.itm.key ∧ r.win.s ≤ l.win.s ∧ l.win.e ≤ r.win.e
theorem sess_win {P : List LatT} {r q : TabT} (hr : SessP P r) (hq : SessP P q) (hk : r.key = q.key) (h1 : r.win.s < q.win.e) (h2 : q.win.s < r.win.e) : IsRow r.key r.win q := by
  have a : ¬ r.win.s < q.win.s := fun h => hq.low (by rw [← hk]; exact hr.mid _ h h2)
  have b : ¬ q.win.s < r.win.s := fun h => hr.low (by rw [hk]; exact hq.mid _ h h1)
  have c : ¬ r.win.e < q.win.e := fun h => hr.top (by rw [hk]; exact hq.mid _ h2 h)
  have d : ¬ q.win.e < r.win.e := fun h => hq.top (by rw [← hk]; exact hr.mid _ h1 h)
  unfold IsRow; omega
theorem sess_same {P : List LatT} {T : List TabT} (h : InvS P T) {r q : TabT} (hr : r ∈ T) (hq : q ∈ T) (hk : r.key = q.key) (h1 : r.win.s < q.win.e) (h2 : q.win.s < r.win.e) : r = q :=
  rise_two h.rise hr hq (sess_win (h.row r hr) (h.row q hq) hk h1 h2)
theorem sessP_perm {P P' : List LatT} (hp : P.Perm P') {r : TabT} (h : SessP P r) : SessP P' r := by
  have hc : ∀ k p, CovP P k p ↔ CovP P' k p := fun k p => ⟨fun ⟨l, hl, h⟩ => ⟨l, hp.mem_iff.1 hl, h⟩, fun ⟨l, hl, h⟩ => ⟨l, hp.mem_iff.2 hl, h⟩⟩
  obtain ⟨l1, h1, h1'⟩ := h.fst
  obtain ⟨l2, h2, h2'⟩ := h.lst
  have hpv : (valsS r.key r.win P).Perm (valsS r.key r.win P') := (hp.filter _).map _
  refine ⟨h.lt, ⟨l1, hp.mem_iff.1 h1, h1'⟩, ⟨l2, hp.mem_iff.1 h2, h2'⟩, fun p a b => (hc _ _).1 (h.mid p a b), fun c => h.low ((hc _ _).2 c), fun c => h.top ((hc _ _).2 c), ?_⟩
  have ha := h.agg
  refine ⟨by rw [ha.n, hpv.length_eq], by rw [ha.sum, sumI_perm hpv], fun e => ha.z (List.nil_perm.1 (by rw [e] at hpv; exact hpv.symm)), fun e => ?_⟩
  obtain ⟨a1, a2, a3⟩ := ha.nz fun e' => e (List.nil_perm.1 (by rw [e'] at hpv; exact hpv))
  exact ⟨hpv.mem_iff.1 a1, hpv.mem_iff.1 a2, fun x hx => a3 x (hpv.mem_iff.2 hx)⟩
theorem invS_uniq {P P' : List LatT} {T T' : List TabT} (hl : ∀ l, l ∈ P → l.win.s < l.win.e) (h : InvS P T) (h' : InvS P' T') (hp : P.Perm P') : T = T' := by
  refine sorted_ext ahead_irr ahead_tr h.rise h'.rise ?_
  have key : ∀ {P P' : List LatT} {T T' : List TabT}, (∀ l, l ∈ P → l.win.s < l.win.e) → InvS P T → InvS P' T' → P.Perm P' → ∀ r, r ∈ T → r ∈ T' := by
    intro P P' T T' hlt h h' hp r hr
    have hs := sessP_perm hp (h.row r hr)
    obtain ⟨l, hl, hk, he⟩ := (h.row r hr).fst
    have hlt := hlt l hl
    obtain ⟨q, hq, hqk, hq1, hq2⟩ := h'.has l (hp.mem_iff.1 hl)
    have hsq := h'.row q hq
    have hlt2 := hs.lt
    have hi := sess_win hs hsq (by omega) (by omega) (by omega)
    have : r = q := by
      have ea : r.agg = q.agg := by
        refine aggIs_uniq hs.agg hsq.agg ?_
        unfold valsS
        obtain ⟨e1, e2, e3⟩ := hi
        rw [e1, e2, e3]
      obtain ⟨k, ⟨s, e⟩, a⟩ := r; obtain ⟨k', ⟨s', e'⟩, a'⟩ := q
      unfold IsRow at hi; simp only at *; obtain ⟨rfl, rfl, rfl⟩ := hi; subst ea; rfl
    rw [this]; exact hq
  exact fun r => ⟨key hl h h' hp r, key (fun l h => hl l (hp.mem_iff.2 h)) h' h hp.symm r⟩
/-- What lies in one of several places that are apart, place by place. -/
theorem filter_parts {α β : Type} (P : List α) (f : α → Bool) (g : β → α → Bool) (v : α → Int) : ∀ (Q : List β), (Q.Pairwise fun q q' => ∀ l, l ∈ P → g q l = true → g q' l = true → False) →
    (∀ f : α → Bool, (∀ l, l ∈ P → (f l = true ↔ ∃ q, q ∈ Q ∧ g q l = true)) → ((P.filter f).map v).Perm (Q.flatMap fun q => (P.filter (g q)).map v))
  | [], _, f, h => by
    have : P.filter f = [] := List.filter_eq_nil_iff.2 fun l hl hf => by obtain ⟨q, hq, _⟩ := (h l hl).1 hf; simp at hq
    rw [this]; exact List.Perm.refl _
  | q :: Q, hp, f, h => by
    rw [List.pairwise_cons] at hp
    have ih := filter_parts P f g v Q hp.2 (fun l => f l && !g q l) (fun l hl => by
      simp only [Bool.and_eq_true, Bool.not_eq_true']
      constructor
      · rintro ⟨hf, hg⟩
        obtain ⟨q', hq', hg'⟩ := (h l hl).1 hf
        rcases List.mem_cons.1 hq' with rfl | hq'
        · rw [hg'] at hg; cases hg
        · exact ⟨q', hq', hg'⟩
      · rintro ⟨q', hq', hg'⟩
        refine ⟨(h l hl).2 ⟨q', List.mem_cons_of_mem _ hq', hg'⟩, ?_⟩
        cases hg : g q l with
        | false => rfl
        | true => exact (hp.1 q' hq' l hl hg hg').elim)
    have e : ∀ (P' : List α), (∀ l, l ∈ P' → g q l = true → f l = true) → (P'.filter f).Perm (P'.filter (g q) ++ P'.filter fun l => f l && !g q l) := by
      intro P'
      induction P' with
      | nil => intro _; exact List.Perm.refl _
      | cons l P' ih =>
        intro hs
        have i := ih fun l' hl' => hs l' (List.mem_cons_of_mem _ hl')
        have hs0 := hs l (by simp)
        simp only [List.filter_cons]
        cases hg : g q l with
        | true => rw [hs0 hg]; simp; exact i
        | false =>
          cases hf : f l with
          | false => simp; exact i
          | true => simp; exact (i.cons l).trans List.perm_middle.symm
    have e1 := (e P fun l hl hg => (h l hl).2 ⟨q, by simp, hg⟩).map v
    rw [List.map_append] at e1
    exact e1.trans (ih.append_left _)
theorem span_spec : ∀ (Q : List WinT) (w : WinT), (Q.foldl winSpan w).s ≤ w.s ∧ w.e ≤ (Q.foldl winSpan w).e ∧ (∀ q, q ∈ Q → (Q.foldl winSpan w).s ≤ q.s ∧ q.e ≤ (Q.foldl winSpan w).e) ∧
    ((Q.foldl winSpan w).s = w.s ∨ ∃ q, q ∈ Q ∧ (Q.foldl winSpan w).s = q.s) ∧ ((Q.foldl winSpan w).e = w.e ∨ ∃ q, q ∈ Q ∧ (Q.foldl winSpan w).e = q.e)
  | [], w => ⟨Int.le_refl _, Int.le_refl _, fun q h => by simp at h, .inl rfl, .inl rfl⟩
  | q :: Q, w => by
    obtain ⟨h1, h2, h3, h4, h5⟩ := span_spec Q (winSpan w q)
    have e1 : (winSpan w q).s ≤ w.s ∧ (winSpan w q).s ≤ q.s ∧ ((winSpan w q).s = w.s ∨ (winSpan w q).s = q.s) := by unfold winSpan; simp only; split <;> omega
    have e2 : w.e ≤ (winSpan w q).e ∧ q.e ≤ (winSpan w q).e ∧ ((winSpan w q).e = w.e ∨ (winSpan w q).e = q.e) := by unfold winSpan; simp only; split <;> omega
    rw [List.foldl_cons]
    refine ⟨by omega, by omega, fun x hx => ?_, ?_, ?_⟩
    · rcases List.mem_cons.1 hx with rfl | hx
      · omega
      · exact h3 x hx
    · rcases h4 with h | ⟨x, hx, h⟩
      · rcases e1.2.2 with h' | h'
        · exact .inl (by omega)
        · exact .inr ⟨q, by simp, by omega⟩
      · exact .inr ⟨x, List.mem_cons_of_mem _ hx, h⟩
    · rcases h5 with h | ⟨x, hx, h⟩
      · rcases e2.2.2 with h' | h'
        · exact .inl (by omega)
        · exact .inr ⟨q, by simp, by omega⟩
      · exact .inr ⟨x, List.mem_cons_of_mem _ hx, h⟩
/-- What is known of several, one behind the other. -/
theorem aggs_is {P : List LatT} (hf : ∀ q : TabT, ∀ x, x ∈ valsS q.key q.win P → -9 ≤ x ∧ x ≤ 9) : ∀ (Q : List TabT) (a : AggT) (L : List Int), (∀ q, q ∈ Q → AggIs q.agg (valsS q.key q.win P)) → AggIs a L → (∀ x, x ∈ L → -9 ≤ x ∧ x ≤ 9) →
    (L ++ Q.flatMap fun q => valsS q.key q.win P).length ≤ 1000000 → AggIs ((Q.map (·.agg)).foldl aggB a) (L ++ Q.flatMap fun q => valsS q.key q.win P)
  | [], a, L, _, h, _, _ => by simpa using h
  | q :: Q, a, L, hq, h, hv, hn => by
    rw [List.map_cons, List.foldl_cons, List.flatMap_cons, ← List.append_assoc]
    rw [List.flatMap_cons, ← List.append_assoc] at hn
    have hv2 : ∀ x, x ∈ L ++ valsS q.key q.win P → -9 ≤ x ∧ x ≤ 9 := fun x hx => (List.mem_append.1 hx).elim (hv x) (hf q x)
    refine aggs_is hf Q _ _ (fun x hx => hq x (List.mem_cons_of_mem _ hx)) (aggB_is h (hq q (by simp)) hv2 ?_) hv2 hn
    rw [List.length_append] at hn; omega
theorem tCnt_parts (p : TabT → Bool) : ∀ T : List TabT, tCnt T = tCnt (T.filter p) + tCnt (T.filter fun r => !p r)
  | [] => rfl
  | r :: T => by
    have := tCnt_parts p T
    simp only [List.filter_cons]
    cases h : p r <;> simp [tCnt] <;> omega
theorem tCnt_vals {P : List LatT} : ∀ Q : List TabT, (∀ q, q ∈ Q → AggIs q.agg (valsS q.key q.win P)) → tCnt Q = ((Q.flatMap fun q => valsS q.key q.win P).length : Int)
  | [], _ => rfl
  | q :: Q, h => by
    rw [List.flatMap_cons, List.length_append]
    have := tCnt_vals Q fun x hx => h x (List.mem_cons_of_mem _ hx)
    have := (h q (by simp)).n
    simp only [tCnt]; omega
theorem invS_step {P : List LatT} {T : List TabT} {l : LatT} (h : InvS P T) (hf : Fine (P ++ [l])) :
    InvS (P ++ [l]) (sessS l.itm.key l.win l.itm.v T) ∧ tCnt (sessS l.itm.key l.win l.itm.v T) = tCnt T + 1 ∧ sessI l.itm.key l.win l.itm.v T = sessS l.itm.key l.win l.itm.v T := by
  have hfp : Fine P := ⟨by have := hf.1; rw [List.length_append] at this; omega, fun x hx => hf.2 x (List.mem_append_left _ hx)⟩
  obtain ⟨hab, hv⟩ := hf.2 l (by simp)
  have hlen := hf.1
  rw [List.length_append] at hlen
  have hlen : P.length + 1 ≤ 100000 := hlen
  obtain ⟨Q, hQ⟩ : ∃ Q, Q = T.filter (tchD l.itm.key l.win) := ⟨_, rfl⟩
  obtain ⟨R, hR⟩ : ∃ R, R = T.filter fun r => !tchD l.itm.key l.win r := ⟨_, rfl⟩
  obtain ⟨W, hW⟩ : ∃ W, W = (Q.map (·.win)).foldl winSpan l.win := ⟨_, rfl⟩
  have mQ : ∀ q, q ∈ Q ↔ q ∈ T ∧ q.key = l.itm.key ∧ q.win.s < l.win.e ∧ l.win.s < q.win.e := fun q => by rw [hQ, List.mem_filter]; unfold tchD; rw [decide_eq_true_eq]
  have mR : ∀ q, q ∈ R ↔ q ∈ T ∧ ¬ (q.key = l.itm.key ∧ q.win.s < l.win.e ∧ l.win.s < q.win.e) := fun q => by rw [hR, List.mem_filter]; unfold tchD; simp only [Bool.not_eq_true', decide_eq_false_iff_not]
  obtain ⟨s1, s2, s3, s4, s5⟩ := span_spec (Q.map (·.win)) l.win
  rw [← hW] at s1 s2 s3 s4 s5
  have s3 : ∀ q, q ∈ Q → W.s ≤ q.win.s ∧ q.win.e ≤ W.e := fun q hq => s3 q.win (List.mem_map.2 ⟨q, hq, rfl⟩)
  have s4 : W.s = l.win.s ∨ ∃ q, q ∈ Q ∧ W.s = q.win.s := s4.imp id fun ⟨x, hx, e⟩ => by obtain ⟨q, hq, rfl⟩ := List.mem_map.1 hx; exact ⟨q, hq, e⟩
  have s5 : W.e = l.win.e ∨ ∃ q, q ∈ Q ∧ W.e = q.win.e := s5.imp id fun ⟨x, hx, e⟩ => by obtain ⟨q, hq, rfl⟩ := List.mem_map.1 hx; exact ⟨q, hq, e⟩
  have hcov : ∀ k p, CovP (P ++ [l]) k p ↔ CovP P k p ∨ (l.itm.key = k ∧ l.win.s < p ∧ p < l.win.e) := fun k p => by
    constructor
    · rintro ⟨x, hx, hc⟩
      rcases List.mem_append.1 hx with hx | hx
      · exact .inl ⟨x, hx, hc⟩
      · simp at hx; subst hx; exact .inr hc
    · rintro (⟨x, hx, hc⟩ | hc)
      · exact ⟨x, List.mem_append_left _ hx, hc⟩
      · exact ⟨l, by simp, hc⟩
  have hvs : ∀ k w, valsS k w (P ++ [l]) = valsS k w P ++ if l.itm.key = k ∧ w.s ≤ l.win.s ∧ l.win.s < w.e then [l.itm.v] else [] := fun k w => by
    unfold valsS
    rw [List.filter_append, List.map_append]
    by_cases h : l.itm.key = k ∧ w.s ≤ l.win.s ∧ l.win.s < w.e
    · have hd : decide (l.itm.key = k ∧ w.s ≤ l.win.s ∧ l.win.s < w.e) = true := decide_eq_true h
      simp only [List.filter_cons, List.filter_nil, hd, if_pos h, if_true, List.map_cons, List.map_nil]
    · have hd : decide (l.itm.key = k ∧ w.s ≤ l.win.s ∧ l.win.s < w.e) = false := decide_eq_false h
      simp only [List.filter_cons, List.filter_nil, hd, if_neg h, Bool.false_eq_true, if_false, List.map_nil]
  have hQT : ∀ q, q ∈ Q → q ∈ T := fun q hq => ((mQ q).1 hq).1
  -- the values of the new row
  have hbig : (valsS l.itm.key W P).Perm (Q.flatMap fun q => valsS q.key q.win P) := by
    have hpw : Q.Pairwise fun q q' => ∀ x, x ∈ P → decide (x.itm.key = q.key ∧ q.win.s ≤ x.win.s ∧ x.win.s < q.win.e) = true → decide (x.itm.key = q'.key ∧ q'.win.s ≤ x.win.s ∧ x.win.s < q'.win.e) = true → False := by
      have hrise : Rise Q := by rw [hQ]; exact h.rise.sublist List.filter_sublist
      refine hrise.imp_of_mem ?_
      intro q q' hq hq' ha x hx h1 h2
      rw [decide_eq_true_eq] at h1 h2
      have := sess_same h (hQT q hq) (hQT q' hq') (by omega) (by omega) (by omega)
      subst this
      exact ahead_irr _ ha
    refine filter_parts P (fun _ => true) (fun (q : TabT) (x : LatT) => decide (x.itm.key = q.key ∧ q.win.s ≤ x.win.s ∧ x.win.s < q.win.e)) (·.itm.v) Q hpw _ fun x hx => ?_
    simp only [decide_eq_true_eq]
    constructor
    · rintro ⟨hk, hx1, hx2⟩
      obtain ⟨q', hq', e1, e2, e3⟩ := h.has x hx
      have hxl := (hfp.2 x hx).1
      refine ⟨q', (mQ q').2 ⟨hq', by omega, ?_⟩, by omega, e2, by omega⟩
      by_cases c1 : l.win.s < q'.win.e
      · refine ⟨?_, c1⟩
        by_cases c2 : q'.win.s < l.win.e
        · exact c2
        · rcases s5 with s5 | ⟨q, hq, s5⟩
          · omega
          · have hq3 := (mQ q).1 hq
            have := sess_same h hq3.1 hq' (by omega) (by omega) (by omega)
            subst this; omega
      · rcases s4 with s4 | ⟨q, hq, s4⟩
        · omega
        · have hq3 := (mQ q).1 hq
          have := sess_same h hq3.1 hq' (by omega) (by omega) (by omega)
          subst this; omega
    · rintro ⟨q, hq, e1, e2, e3⟩
      have := s3 q hq
      have := (mQ q).1 hq
      omega
  have hfq : ∀ q : TabT, ∀ x, x ∈ valsS q.key q.win P → -9 ≤ x ∧ x ≤ 9 := fun q => vals_bd hfp
  have hlq : (Q.flatMap fun q => valsS q.key q.win P).length ≤ P.length := by rw [← hbig.length_eq]; exact vals_len
  have hagq : ∀ q, q ∈ Q → AggIs q.agg (valsS q.key q.win P) := fun q hq => (h.row q (hQT q hq)).agg
  have hag1 := aggs_is hfq Q (agg1 l.itm.v) [l.itm.v] hagq (aggIs_one _) (fun x hx => by simp at hx; subst hx; exact hv) (by rw [List.length_append, List.length_singleton]; omega)
  have hag0 := aggs_is hfq Q zAgg [] hagq aggIs_nil (fun x hx => by simp at hx) (by rw [List.nil_append]; omega)
  have hag2 : AggIs (aggAdd ((Q.map (·.agg)).foldl aggB zAgg) l.itm.v) (([] ++ Q.flatMap fun q => valsS q.key q.win P) ++ [l.itm.v]) := by
    refine aggB_is hag0 (aggIs_one _) (fun x hx => ?_) ?_
    · rcases List.mem_append.1 hx with hx | hx
      · rw [List.nil_append] at hx
        obtain ⟨q, hq, hx⟩ := List.mem_flatMap.1 hx
        exact hfq q x hx
      · simp at hx; subst hx; exact hv
    · rw [List.length_append, List.nil_append, List.length_singleton]; omega
  have heq : aggAdd ((Q.map (·.agg)).foldl aggB zAgg) l.itm.v = (Q.map (·.agg)).foldl aggB (agg1 l.itm.v) := aggIs_uniq hag2 hag1 (by rw [List.nil_append]; exact List.perm_append_comm)
  have hvnew : (valsS l.itm.key W (P ++ [l])).Perm ([l.itm.v] ++ Q.flatMap fun q => valsS q.key q.win P) := by
    rw [hvs, if_pos ⟨rfl, s1, by omega⟩]
    exact (hbig.append_right _).trans List.perm_append_comm
  have hagn : AggIs ((Q.map (·.agg)).foldl aggB (agg1 l.itm.v)) (valsS l.itm.key W (P ++ [l])) := by
    have hp := hvnew.symm
    refine ⟨by rw [hag1.n, hp.length_eq], by rw [hag1.sum, sumI_perm hp], fun e => hag1.z (List.nil_perm.1 (by rw [e] at hp; exact hp.symm)), fun e => ?_⟩
    obtain ⟨a1, a2, a3⟩ := hag1.nz (by simp)
    exact ⟨hp.mem_iff.1 a1, hp.mem_iff.1 a2, fun x hx => a3 x (hp.mem_iff.2 hx)⟩
  have hRn : ∀ q, q ∈ R → ¬ IsRow l.itm.key W q := fun q hq e => by
    have := (mR q).1 hq
    unfold IsRow at e
    exact this.2 (by omega)
  refine ⟨⟨?_, fun r hr => ?_, fun x hx => ?_⟩, ?_, ?_⟩
  · unfold sessS
    rw [← hQ, ← hR, ← hW]
    exact rise_tPut (by rw [hR]; exact h.rise.sublist List.filter_sublist)
  · unfold sessS at hr
    rw [← hQ, ← hR, ← hW] at hr
    rcases mem_tPut.1 hr with rfl | ⟨hr, hn⟩
    · refine ⟨show W.s < W.e by omega, ?_, ?_, ?_, ?_, ?_, hagn⟩
      · show ∃ x, x ∈ P ++ [l] ∧ x.itm.key = l.itm.key ∧ x.win.s = W.s
        rcases s4 with e | ⟨q, hq, e⟩
        · exact ⟨l, by simp, rfl, e.symm⟩
        · have hq' := (mQ q).1 hq
          obtain ⟨x, hx, h1, h2⟩ := (h.row q hq'.1).fst
          exact ⟨x, List.mem_append_left _ hx, by omega, by omega⟩
      · show ∃ x, x ∈ P ++ [l] ∧ x.itm.key = l.itm.key ∧ x.win.e = W.e
        rcases s5 with e | ⟨q, hq, e⟩
        · exact ⟨l, by simp, rfl, e.symm⟩
        · have hq' := (mQ q).1 hq
          obtain ⟨x, hx, h1, h2⟩ := (h.row q hq'.1).lst
          exact ⟨x, List.mem_append_left _ hx, by omega, by omega⟩
      · show ∀ p, W.s < p → p < W.e → CovP (P ++ [l]) l.itm.key p
        intro p hp1 hp2
        rw [hcov]
        by_cases c1 : l.win.s < p
        · by_cases c2 : p < l.win.e
          · exact .inr ⟨rfl, c1, c2⟩
          · rcases s5 with e | ⟨q, hq, e⟩
            · omega
            · have hq' := (mQ q).1 hq
              have := (h.row q hq'.1).mid p (by omega) (by omega)
              rw [hq'.2.1] at this
              exact .inl this
        · rcases s4 with e | ⟨q, hq, e⟩
          · omega
          · have hq' := (mQ q).1 hq
            have := (h.row q hq'.1).mid p (by omega) (by omega)
            rw [hq'.2.1] at this
            exact .inl this
      · show ¬ CovP (P ++ [l]) l.itm.key W.s
        rw [hcov]
        rintro (hc | hc)
        · rcases s4 with e | ⟨q, hq, e⟩
          · obtain ⟨x, hx, h1, h2, h3⟩ := hc
            obtain ⟨q', hq', e1, e2, e3⟩ := h.has x hx
            have := s3 q' ((mQ q').2 ⟨hq', by omega, by omega, by omega⟩)
            omega
          · have hq' := (mQ q).1 hq
            refine (h.row q hq'.1).low ?_
            rw [hq'.2.1, ← e]; exact hc
        · omega
      · show ¬ CovP (P ++ [l]) l.itm.key W.e
        rw [hcov]
        rintro (hc | hc)
        · rcases s5 with e | ⟨q, hq, e⟩
          · obtain ⟨x, hx, h1, h2, h3⟩ := hc
            obtain ⟨q', hq', e1, e2, e3⟩ := h.has x hx
            have := s3 q' ((mQ q').2 ⟨hq', by omega, by omega, by omega⟩)
            omega
          · have hq' := (mQ q).1 hq
            refine (h.row q hq'.1).top ?_
            rw [hq'.2.1, ← e]; exact hc
        · omega
    · have hr' := (mR r).1 hr
      have hs := h.row r hr'.1
      have hlt := hs.lt
      obtain ⟨x1, hx1, hx1'⟩ := hs.fst
      obtain ⟨x2, hx2, hx2'⟩ := hs.lst
      refine ⟨hs.lt, ⟨x1, List.mem_append_left _ hx1, hx1'⟩, ⟨x2, List.mem_append_left _ hx2, hx2'⟩, fun p a b => (hcov _ _).2 (.inl (hs.mid p a b)), ?_, ?_, ?_⟩
      · rw [hcov]
        rintro (hc | hc)
        · exact hs.low hc
        · exact hr'.2 (by omega)
      · rw [hcov]
        rintro (hc | hc)
        · exact hs.top hc
        · exact hr'.2 (by omega)
      · rw [hvs, if_neg (fun e => hr'.2 (by omega)), List.append_nil]
        exact hs.agg
  · unfold sessS
    rw [← hQ, ← hR, ← hW]
    rcases List.mem_append.1 hx with hx | hx
    · obtain ⟨q, hq, e1, e2, e3⟩ := h.has x hx
      by_cases hc : q ∈ Q
      · have := s3 q hc
        exact ⟨_, mem_tPut.2 (.inl rfl), by have := ((mQ q).1 hc).2.1; simp only; omega, by simp only; omega, by simp only; omega⟩
      · have hqR : q ∈ R := (mR q).2 ⟨hq, fun e => hc ((mQ q).2 ⟨hq, e⟩)⟩
        exact ⟨q, mem_tPut.2 (.inr ⟨hqR, hRn q hqR⟩), e1, e2, e3⟩
    · simp at hx; subst hx
      exact ⟨_, mem_tPut.2 (.inl rfl), rfl, s1, s2⟩
  · have e1 := tCnt_parts (tchD l.itm.key l.win) T
    rw [← hQ, ← hR] at e1
    have e2 := tCnt_vals Q hagq
    unfold sessS
    rw [← hQ, ← hR, ← hW]
    unfold tPut
    rw [tCnt_ins, tOut_none hRn]
    have e3 := hag1.n
    rw [List.length_append] at e3
    show ((Q.map (·.agg)).foldl aggB (agg1 l.itm.v)).n + _ = _
    simp only [List.length_singleton] at e3
    omega
  · unfold sessI sessS
    rw [← hQ, ← hR, ← hW, heq]
end Go.Rk
/- Draws. -/
namespace Go.Rk
set_option linter.unusedSimpArgs false
set_option linter.unusedVariables false
theorem br_t {A : Ar} (hA : real = A) {t : Bool} {p q : Prop} (h : t = true) (hp : p) : A.br t p q := by subst hA; exact ⟨fun _ => hp, fun h2 => by rw [h] at h2; cases h2⟩
theorem br_f {A : Ar} (hA : real = A) {t : Bool} {p q : Prop} (h : t = false) (hq : q) : A.br t p q := by subst hA; exact ⟨fun h2 => (by rw [h] at h2; cases h2), fun _ => hq⟩
abbrev eU (n : Int) : DV := .v (.int .u8 n)
def pickY (m : Nat) (b : Nat → Int) (p : Int) : Int := b (p.tmod m).toNat * 131 + b ((p * 7 + 3).tmod m).toNat * 1117 + p * 29 + p.tdiv m * 53
def pickX (y : Int) : Int := IntKind.i64.wrap (BitVec.ofInt 64 y ^^^ BitVec.ofInt 64 (y.tdiv 64)).toNat
def pickV (m : Nat) (b : Nat → Int) (p n : Int) : Int := if m = 0 then 0 else if p < m then (b p.toNat).tmod n else (pickX (pickY m b p)).tmod n
theorem xor_nn {a b : Int} (h0 : 0 ≤ a ∧ a < 4611686018427387904) (h1 : 0 ≤ b ∧ b < 4611686018427387904) : 0 ≤ ((BitVec.ofInt 64 a ^^^ BitVec.ofInt 64 b).toNat : Int) ∧ ((BitVec.ofInt 64 a ^^^ BitVec.ofInt 64 b).toNat : Int) < 4611686018427387904 := by
  have e : ∀ c : Int, 0 ≤ c ∧ c < 4611686018427387904 → (BitVec.ofInt 64 c).toNat < 2 ^ 62 := fun c hc => by
    rw [BitVec.toNat_ofInt]
    have h64 : ((2 ^ 64 : Nat) : Int) = 18446744073709551616 := by decide
    have h62 : (2 : Nat) ^ 62 = 4611686018427387904 := by decide
    rw [h64, h62]
    omega
  have h := Nat.xor_lt_two_pow (e a h0) (e b h1)
  rw [← BitVec.toNat_xor] at h
  have : (2 : Nat) ^ 62 = 4611686018427387904 := by decide
  exact ⟨by omega, by omega⟩
theorem tmod_in {a n : Int} (ha : 0 ≤ a) (hn : 1 ≤ n) : 0 ≤ a.tmod n ∧ a.tmod n < n := ⟨Int.tmod_nonneg n ha, Int.tmod_lt_of_pos a (by omega)⟩
theorem pickY_in {m : Nat} {b : Nat → Int} {p : Int} (hm : 1 ≤ m) (hb : ∀ i, 0 ≤ b i ∧ b i ≤ 255) (hp : 0 ≤ p ∧ p ≤ 1000000) : 0 ≤ pickY m b p ∧ pickY m b p ≤ 1000000000 := by
  unfold pickY
  have h1 := hb (p.tmod m).toNat
  have h2 := hb ((p * 7 + 3).tmod m).toNat
  have h3 : 0 ≤ p.tdiv m := Int.tdiv_nonneg hp.1 (by omega)
  have h4 : p.tdiv m ≤ p := by
    have := Int.tdiv_le_self (a := p) m hp.1
    exact this
  omega
theorem pickV_in {m : Nat} {b : Nat → Int} {p n : Int} (hb : ∀ i, 0 ≤ b i ∧ b i ≤ 255) (hp : 0 ≤ p ∧ p ≤ 1000000) (hn : 1 ≤ n) : 0 ≤ pickV m b p n ∧ pickV m b p n < n := by
  unfold pickV
  split
  · omega
  · split
    · exact tmod_in (hb _).1 hn
    · refine tmod_in ?_ hn
      have hy := pickY_in (m := m) (p := p) (by omega) hb hp
      have hd : 0 ≤ (pickY m b p).tdiv 64 := Int.tdiv_nonneg hy.1 (by decide)
      have hd2 : (pickY m b p).tdiv 64 ≤ pickY m b p := Int.tdiv_le_self 64 hy.1
      have hx := xor_nn (a := pickY m b p) (b := (pickY m b p).tdiv 64) ⟨hy.1, by omega⟩ ⟨hd, by omega⟩
      unfold pickX
      rw [IntWalk.i64_in _ (by omega)]
      exact hx.1
end Go.Rk
/- Tables of panes. -/
namespace Go.Rk
set_option linter.unusedSimpArgs false
set_option linter.unusedVariables false
theorem sub0r (f : Nat → List DV) : real.sub 0 f = f := sub0 rfl f
theorem args_sl {sz n : Nat} {f : Nat → List DV} {r r' : List XT} (h : r = r') : XT.c (.d (.sl sz n (real.sub 0 f))) :: r = XT.c (.d (.sl sz n f)) :: r' := by rw [sub0r, h]
theorem args_eq {x : XT} {r r' : List XT} (h : r = r') : x :: r = x :: r' := by rw [h]
def zPane : PaneT := ⟨0, ⟨0, 0⟩, 0, 0, ⟨0, 0, 0, 0⟩⟩
def ofAgg (piece : Bool) (T : List TabT) (p : PaneT) : AggT := if piece = true then aggB ((tFind p.key p.win T).getD zAgg) p.agg else p.agg
def ofStep (piece : Bool) (T : List TabT) (p : PaneT) : List TabT := if p.kind = 3 then tOut p.key p.win T else tPut ⟨p.key, p.win, ofAgg piece T p⟩ T
def ofL (piece : Bool) (l : List PaneT) : List TabT := l.foldl (ofStep piece) []
theorem ofL_snoc (piece : Bool) (l : List PaneT) (p : PaneT) : ofL piece (l ++ [p]) = ofStep piece (ofL piece l) p := by unfold ofL; rw [List.foldl_append]; rfl
theorem ofStep_len (piece : Bool) (T : List TabT) (p : PaneT) : (ofStep piece T p).length ≤ T.length + 1 := by
  unfold ofStep
  split
  · exact Nat.le_succ_of_le (tOut_len _ _ _)
  · exact tPut_len _ _
theorem ofFold_len (piece : Bool) : ∀ (l : List PaneT) (T : List TabT), (l.foldl (ofStep piece) T).length ≤ T.length + l.length
  | [], T => Nat.le_refl _
  | p :: l, T => by
    have h1 := ofFold_len piece l (ofStep piece T p)
    have h2 := ofStep_len piece T p
    rw [List.foldl_cons, List.length_cons]; omega
theorem ofL_len (piece : Bool) (l : List PaneT) : (ofL piece l).length ≤ l.length := by have := ofFold_len piece l []; simpa [ofL] using this
/-- A list, given its number and its members. -/
theorem lst_ex {α : Type} (z : α) (l : List α) : ∃ (n : Nat) (g : Nat → α), Lst z l n g := ⟨_, _, lst_self z l⟩
def mkPane (k : Int) : PaneT := ⟨k, ⟨k + 1, k + 2⟩, k + 3, k + 4, ⟨k + 5, k + 6, k + 7, k + 8⟩⟩
theorem lst_snoc {α : Type} {z : α} {l : List α} {n : Nat} {g : Nat → α} {x : α} (h : Lst z l n g) : Lst z (l ++ [x]) (n + 1) (fun q => if q < n then g q else x) := by
  obtain ⟨rfl, h2⟩ := h
  refine ⟨by simp, fun k hk => ?_⟩
  by_cases hl : k < l.length
  · simp only [if_pos hl]
    rw [h2 k hl, List.getD_eq_getElem?_getD, List.getD_eq_getElem?_getD, List.getElem?_append_left hl]
  · have : k = l.length := by omega
    subst this
    simp
/-- One row more at the end, told by its own shape. -/
theorem push_if {A : Ar} {α : Type} (e : α → List DV) (hA : real = A) (n : Nat) (G : Nat → α) (x : α) (z : Nat → List DV) (k : Nat) (hk : k < n + 1) : A.app n (fun i => e (G i)) (A.sub 0 (A.app 1 (A.rep (e x)) z)) k = e (if k < n then G k else x) := by
  subst hA
  show (if k < n then e (G k) else (if 0 + (k - n) < 1 then e x else z (0 + (k - n) - 1))) = _
  split
  · rfl
  · rw [if_pos (by omega)]
theorem flatI {A : Ar} (hA : real = A) (n : Nat) (G : Nat → ItmT) : A.flat n (fun i => eItm (G i)) := by
  subst hA
  intro i _ x hx
  simp only [eItm, List.mem_cons, List.not_mem_nil, or_false] at hx
  rcases hx with rfl | rfl | rfl | rfl | rfl <;> exact ⟨_, rfl⟩
theorem flatP {A : Ar} (hA : real = A) (n : Nat) (G : Nat → PaneT) : A.flat n (fun i => ePane (G i)) := by
  subst hA
  intro i _ x hx
  simp only [ePane, List.mem_cons, List.not_mem_nil, or_false] at hx
  rcases hx with rfl | rfl | rfl | rfl | rfl | rfl | rfl | rfl | rfl <;> exact ⟨_, rfl⟩
theorem lt2_of {A : Ar} (hA : real = A) {i n : Nat} (h : A.cmp .lss (Int.ofNat i) (Int.ofNat n) = true) : i < n := by
  subst hA
  have h : decide ((i : Int) < (n : Int)) = true := h
  rw [decide_eq_true_eq] at h
  omega
theorem ge2_of {A : Ar} (hA : real = A) {i n : Nat} (h : A.cmp .lss (Int.ofNat i) (Int.ofNat n) = false) : n ≤ i := by
  subst hA
  have h : decide ((i : Int) < (n : Int)) = false := h
  rw [decide_eq_false_iff_not] at h
  omega
theorem eq_of {A : Ar} (hA : real = A) {a b : Int} (h : A.cmp .eql a b = true) : a = b := by subst hA; exact of_decide_eq_true h
theorem ne_of {A : Ar} (hA : real = A) {a b : Int} (h : A.cmp .eql a b = false) : ¬ a = b := by subst hA; exact of_decide_eq_false h
end Go.Rk
/- What a mark does to rows, in plain words. -/
namespace Go.Rk
set_option linter.unusedSimpArgs false
set_option linter.unusedVariables false
def dueB (m : Int) (r : RowT) : Bool := !r.timely && decide (r.win.e ≤ m)
def toldR (r : RowT) : RowT := { r with told := w64 (r.told + 1), timely := true, fresh := zAgg }
def paneP (piece : Bool) (r : RowT) (kind : Int) : PaneT := ⟨r.key, r.win, r.told, kind, if piece = true then r.fresh else r.all⟩
def markR (m : Int) (r : RowT) : RowT := if dueB m r = true then toldR r else r
def overB (late m : Int) (r : RowT) : Bool := decide (m ≥ w64 (r.win.e + late))
/-- The rows that stay behind a mark, and what it tells. -/
def keepL (late m : Int) (l : List RowT) : List RowT := (l.map (markR m)).filter fun r => !overB late m r
def tellL (piece : Bool) (m : Int) (l : List RowT) : List PaneT := (l.filter (dueB m)).map fun r => paneP piece r 1
theorem markR_win (m : Int) (r : RowT) : (markR m r).win = r.win := by unfold markR; split <;> rfl
theorem overB_mark (late m : Int) (r : RowT) : overB late m (markR m r) = overB late m r := by unfold overB; rw [markR_win]
def zRow : RowT := ⟨0, ⟨0, 0⟩, zAgg, zAgg, 0, false⟩
/-- Of the first 'j', those that are not deleted. -/
def keepN (g : Nat → RowT) (d : RowT → Bool) (j : Nat) : List RowT := ((List.range j).map g).filter fun r => !d r
theorem keepN_succ (g : Nat → RowT) (d : RowT → Bool) (j : Nat) : keepN g d (j + 1) = keepN g d j ++ if d (g j) = true then [] else [g j] := by
  unfold keepN
  rw [List.range_succ, List.map_append, List.filter_append]
  congr 1
  cases hd : d (g j) <;> simp [hd]
theorem keepN_len (g : Nat → RowT) (d : RowT → Bool) (j : Nat) : (keepN g d j).length ≤ j := by
  unfold keepN
  refine Nat.le_trans (List.length_filter_le _ _) ?_
  simp
theorem lst_push {α : Type} {z : α} {l : List α} {i : Nat} {R R' : Nat → α} {x : α} (h : Lst z l i R) (h' : ∀ q, q < i + 1 → R' q = if q = i then x else R q) : Lst z (l ++ [x]) (i + 1) R' := by
  refine ⟨by rw [h.1]; simp, fun k hk => ?_⟩
  rw [h' k hk]
  by_cases e : k = i
  · rw [if_pos e, e, h.1]
    simp [List.getD_eq_getElem?_getD]
  · rw [if_neg e, h.2 k (by omega)]
    have : k < l.length := by rw [← h.1]; omega
    simp [List.getD_eq_getElem?_getD, List.getElem?_append_left this]
theorem keepN_none {g : Nat → RowT} {d : RowT → Bool} : ∀ {j : Nat}, (∀ q, q < j → ¬ d (g q) = true) → Lst zRow (keepN g d j) j g
  | 0, _ => ⟨rfl, fun k hk => absurd hk (Nat.not_lt_zero k)⟩
  | j + 1, h => by
    rw [keepN_succ, if_neg (h j (by omega))]
    refine lst_push (keepN_none fun q hq => h q (by omega)) fun q _ => ?_
    by_cases e : q = j
    · rw [if_pos e, e]
    · rw [if_neg e]
theorem flat_row {A : Ar} (hA : real = A) (n : Nat) (G : Nat → RowT) : A.flat n fun i => eRow (G i) := by
  subst hA
  intro i hi x hx
  unfold eRow at hx
  simp only [List.mem_cons, List.not_mem_nil, or_false] at hx
  rcases hx with rfl | rfl | rfl | rfl | rfl | rfl | rfl | rfl | rfl | rfl | rfl | rfl | rfl <;> exact ⟨_, rfl⟩
theorem flat_pane {A : Ar} (hA : real = A) (n : Nat) (G : Nat → PaneT) : A.flat n fun i => ePane (G i) := by
  subst hA
  intro i hi x hx
  unfold ePane at hx
  simp only [List.mem_cons, List.not_mem_nil, or_false] at hx
  rcases hx with rfl | rfl | rfl | rfl | rfl | rfl | rfl | rfl | rfl <;> exact ⟨_, rfl⟩
/-- What is told of the first 'i' rows. -/
def tellN (piece : Bool) (m : Int) (g : Nat → RowT) (i : Nat) : List PaneT := tellL piece m ((List.range i).map g)
theorem tellN_succ (piece : Bool) (m : Int) (g : Nat → RowT) (i : Nat) : tellN piece m g (i + 1) = tellN piece m g i ++ if dueB m (g i) = true then [paneP piece (g i) 1] else [] := by
  unfold tellN tellL
  rw [List.range_succ, List.map_append, List.filter_append, List.map_append]
  congr 1
  cases hd : dueB m (g i) <;> simp [hd]
theorem tellN_len (piece : Bool) (m : Int) (g : Nat → RowT) (i : Nat) : (tellN piece m g i).length ≤ i := by
  unfold tellN tellL
  rw [List.length_map]
  refine Nat.le_trans (List.length_filter_le _ _) ?_
  simp
def zPan : PaneT := ⟨0, ⟨0, 0⟩, 0, 0, zAgg⟩
/-- What OpMark answers: the mark, the rows, and what is told. -/
noncomputable def opMarkL (j : JobT) (s : OpStT) (m : Int) : Int × List RowT × List PaneT :=
  open Classical in
  if ¬ (OpOkP j s ∧ (0 ≤ m ∧ m ≤ 1000)) then (0, [], [])
  else if m ≤ s.mark then (s.mark, (List.range s.rows.n).map s.rows.g, [])
  else (m, keepN (fun i => markR m (s.rows.g i)) (overB j.late m) s.rows.n, tellN j.piece m s.rows.g s.rows.n)
theorem push_ite {α : Type} (R : Nat → α) (x : α) {k q : Nat} (hq : q < k + 1) : (if q < k then R q else x) = if q = k then x else R q := by
  by_cases e : q = k
  · rw [if_pos e, if_neg (by omega)]
  · rw [if_neg e, if_pos (by omega)]
def mkRow (k : Int) : RowT := ⟨k, ⟨k + 1, k + 2⟩, ⟨k + 3, k + 4, k + 5, k + 6⟩, ⟨k + 7, k + 8, k + 9, k + 10⟩, k + 11, ((k + 12).tmod 3 == 0)⟩
theorem wr1 (k : Int) (h : 0 ≤ k ∧ k ≤ 150000000) : IntKind.i64.wrap (k + 1) = k + 1 := IntWalk.i64_in _ (by omega)
theorem wrn (k c d : Int) (h : 0 ≤ k ∧ k ≤ 150000000) (hc : 0 ≤ c ∧ c ≤ 1000) (hd : c + 1 = d) : IntKind.i64.wrap (k + c + 1) = k + d := by
  rw [IntWalk.i64_in _ (by omega)]; omega
end Go.Rk
/- Marks of operators. -/
namespace Go.Rk
set_option linter.unusedSimpArgs false
set_option linter.unusedVariables false
open Go.Proofs
set_option maxRecDepth 100000
set_option maxHeartbeats 1000000
theorem c_CloneRow (n : Nat) (hn : n ≤ 1080000) (g : Nat → RowT) : Meets Try.prog 102 [.c (.d (.sl 13 n fun i => eRow (g i)))] ⟨.one (.c (.own 13 n fun i => eRow (g i))), [none]⟩ := by
  refine meets_slice (fun h0 ad cap => ?_) (fun h1 => ?_)
  · subst h0
    cases ad with
    | none =>
      refine meets_up (res := .one (.c (.d (.v nilS)))) (UpV.nil 13 fun i => eRow (g i)) ?_
      refine meets_of (H := []) (EX := EXA) ttok mixed Try.func102 rfl (by kernel_rfl) (by decide) ?_
      generalize hA : real = A
      generalize hM : MeetsB Try.prog = M
      cbv
      repeat' first
        | exact absurd (show true = false by assumption) (by decide)
        | exact absurd (show false = true by assumption) (by decide)
        | apply And.intro
        | exact True.intro
        | with_reducible rfl
        | exact same_of hA rfl
        | refine br_of hA (fun _ => ?_) (fun _ => ?_)
        | exact imp_of hA id
        | (refine imp_of hA ?_; subst hA; simp only [real, Bool.true_and]; exact id)
        | (refine ind_of hA ?_; decide +kernel)
    | some ad =>
      refine meets_up (res := .one (.c (.own 13 0 fun i => (real.rep ([0,0,0,0,0,0,0,0,0,0,0,0].map eI ++ [eB false]) i)))) (UpV.row fun i hi => absurd hi (Nat.not_lt_zero i)) ?_
      refine meets_of (H := []) (EX := EXA) ttok mixed Try.func102 rfl (by kernel_rfl) (by decide) ?_
      generalize hA : real = A
      generalize hM : MeetsB Try.prog = M
      cbv
      repeat' first
        | exact absurd (show true = false by assumption) (by decide)
        | exact absurd (show false = true by assumption) (by decide)
        | apply And.intro
        | exact True.intro
        | with_reducible rfl
        | exact same_of hA rfl
        | refine br_of hA (fun _ => ?_) (fun _ => ?_)
        | exact imp_of hA id
        | (refine imp_of hA ?_; subst hA; simp only [real, Bool.true_and]; exact id)
        | (refine ind_of hA ?_; decide +kernel)
        | exact room_z hA (by omega) (by decide)
      exact own_cp hA (by subst hA; rfl)
  · skip
    refine meets_of (H := []) (EX := EXA) ttok mixed Try.func102 rfl (by kernel_rfl) (by decide) ?_
    generalize hA : real = A
    generalize hM : MeetsB Try.prog = M
    cbv
    repeat' first
      | exact absurd (show true = false by assumption) (by decide)
      | exact absurd (show false = true by assumption) (by decide)
      | apply And.intro
      | exact True.intro
      | with_reducible rfl
      | exact same_of hA rfl
      | refine br_of hA (fun _ => ?_) (fun _ => ?_)
      | exact imp_of hA id
      | (refine imp_of hA ?_; subst hA; simp only [real, Bool.true_and]; exact id)
      | (refine ind_of hA ?_; decide +kernel)
      | exact room_z hA (by omega) (by decide)
      | (refine inb_of hA (fun _ => ⟨by omega, by omega⟩))
      | (rename_i hb; cases hb; done)
    exact own_cp hA rfl
theorem c_copied (mk : Int) (n : Nat) (hn : n ≤ 1080000) (g : Nat → RowT) : Meets Try.prog 59 [.agg [.d (eI mk), .d (.sl 13 n fun i => eRow (g i))]] ⟨.one (.agg [.d (eI mk), .own 13 n fun i => eRow (g i)]), [none]⟩ := by
  refine meets_of (H := []) (EX := EXA) ttok mixed Try.func59 rfl (by kernel_rfl) (by decide) ?_
  generalize hA : real = A
  generalize hM : MeetsB Try.prog = M
  cbv
  repeat' first
    | apply And.intro
    | exact True.intro
    | with_reducible rfl
    | exact same_of hA rfl
    | refine br_of hA (fun _ => ?_) (fun _ => ?_)
    | exact imp_of hA id
    | (refine imp_of hA ?_; subst hA; simp only [real, Bool.true_and]; exact id)
    | (refine ind_of hA ?_; decide +kernel)
    | exact room_z hA (by omega) (by decide)
    | (refine call_of2 hA hM _ (c_CloneRow n hn g) rfl ?_; cbv)
theorem c_sCopy (mk : Int) (n : Nat) (hn : n ≤ 1080000) (g : Nat → RowT) : Meets Try.prog 58 [.agg [.d (eI mk), .d (.sl 13 n fun i => eRow (g i))]] ⟨.one (.agg [.d (eI mk), .own 13 n fun i => eRow (g i)]), [none]⟩ := by
  refine meets_of (H := []) (EX := EXA) ttok mixed Try.func58 rfl (by kernel_rfl) (by decide) ?_
  generalize hA : real = A
  generalize hM : MeetsB Try.prog = M
  cbv
  repeat' first
    | apply And.intro
    | exact True.intro
    | with_reducible rfl
    | exact same_of hA rfl
    | refine br_of hA (fun _ => ?_) (fun _ => ?_)
    | exact imp_of hA id
    | (refine imp_of hA ?_; subst hA; simp only [real, Bool.true_and]; exact id)
    | (refine ind_of hA ?_; decide +kernel)
    | exact room_z hA (by omega) (by decide)
    | (refine call_of2 hA hM _ (c_CloneRow n hn g) rfl ?_; cbv)
  exact own_cp2 hA rfl
theorem c_l7Pane (j : JobT) (r : RowT) (kind : Int) (p : PaneT) (hp : p = paneP j.piece r kind) : Meets Try.prog 101 [xd (eJob j), xd (eRow r), .c (.d (eI kind))] ⟨.one (xd (ePane p)), [none, none, none]⟩ := by
  obtain ⟨j0, j1, j2, j3, j4, j5, j6, pc, j8, j9⟩ := j
  obtain ⟨k0, ⟨k1, k2⟩, ⟨k3, k4, k5, k6⟩, ⟨k7, k8, k9, k10⟩, k11, k12⟩ := r
  refine meets_of (H := []) (EX := EXA) ttok mixed Try.func101 rfl (by kernel_rfl) (by decide) ?_
  generalize hA : real = A
  generalize hM : MeetsB Try.prog = M
  cbv
  repeat' first
    | apply And.intro
    | exact True.intro
    | with_reducible rfl
    | exact same_of hA rfl
    | refine br_of hA (fun _ => ?_) (fun _ => ?_)
    | exact imp_of hA id
    | (refine imp_of hA ?_; subst hA; simp only [real, Bool.true_and]; exact id)
    | (refine ind_of hA ?_; decide +kernel)
  all_goals (subst hp; subst hA; rename_i hpc; dsimp only [paneP]; first | rw [if_pos hpc] | rw [if_neg (by rw [hpc]; simp)])
theorem c_over (j : JobT) (m : Int) (r : RowT) (b : Bool) (hb : b = overB j.late m r) : Meets Try.prog 62 [xd (eRow r), .c (.d (.p [eI m])), .c (.d (.p (eJob j)))] ⟨.one (.c (.d (eB b))), [none, none, none]⟩ := by
  refine meets_of (H := []) (EX := EXA) ttok mixed Try.func62 rfl (by kernel_rfl) (by decide) ?_
  generalize hA : real = A
  generalize hM : MeetsB Try.prog = M
  cbv
  repeat' first
    | apply And.intro
    | exact True.intro
    | with_reducible rfl
    | exact same_of hA rfl
    | refine br_of hA (fun _ => ?_) (fun _ => ?_)
    | exact imp_of hA id
    | (refine imp_of hA ?_; subst hA; simp only [real, Bool.true_and]; exact id)
    | (refine ind_of hA ?_; decide +kernel)
  subst hA; subst hb; rfl
def EXI : FuncId → List Nat × Bool := fun f => bif nbeq f 1 then ([6000], false) else ([], false)
theorem c_tell (j : JobT) (mk : Int) (n : Nat) (R : Nat → RowT) (q : Nat) (lt : CV) (hq : q < n) (c : Nat) (hc : c ≤ 1080000) (G : Nat → PaneT) (kind : Int) (R' : Nat → RowT) (hR' : ∀ i, R' i = if i = q then toldR (R q) else R i) (G' : Nat → PaneT) (hG' : ∀ i, G' i = if i < c then G i else paneP j.piece (R q) kind) : MeetsO Try.prog 60 [.c (.bp 1600 1 0), .c (.op 1473 1 q 0), .c (.d (eI kind))]
    [(1600, 1, .box [.d (eI j.srcs), .d (eI j.tsks), .d (eI j.kind), .d (eI j.size), .d (eI j.step), .d (eI j.late), .d (eI j.tell), .d (eB j.piece), .d (eI j.least), .d (eI j.room), .d (eI mk), .own 1473 0 n 1, .own 5000 0 c 1, lt]), (1473, 1, .arr 13 n fun i => eRow (R i)), (5000, 1, .arr 9 c fun i => ePane (G i))] (.tup [])
    [(1600, 1, .box [.d (eI j.srcs), .d (eI j.tsks), .d (eI j.kind), .d (eI j.size), .d (eI j.step), .d (eI j.late), .d (eI j.tell), .d (eB j.piece), .d (eI j.least), .d (eI j.room), .d (eI mk), .own 1473 0 n 1, .own 5000 0 (c + 1) 2, lt]), (1473, 1, .arr 13 n fun i => eRow (R' i)), (5000, 2, .arr 9 (c + 1) fun i => ePane (G' i)), (6384, 1, .dead), (8560, 1, .dead)] := by
  refine inl_of (EX := EXI) ttok mixed Try.func60 rfl (by kernel_rfl) (by decide) (by kernel_rfl) rfl rfl ?_
  generalize hA : real = A
  generalize hM : MeetsB Try.prog = M
  rcases A with ⟨a1, a2, a3, a4, a5, a6, a7, a8, a9, a10, a11, a12, a13, a14, a15, a16, a17, a18, a19, a20, a21, a22, up, a24, a25, a26, a27, a28, a29⟩
  have hup : ∀ (f : Nat → List DV) (q : Nat) (l : List DV), up f q l q = l := by
    have h : real.upd = up := congrArg Ar.upd hA
    intro f q l; rw [← h]; exact if_pos rfl
  cbv
  repeat' first
    | apply And.intro
    | exact True.intro
    | with_reducible rfl
    | exact same_of hA rfl
    | refine br_of hA (fun _ => ?_) (fun _ => ?_)
    | exact imp_of hA id
    | (refine imp_of hA ?_; subst hA; simp only [real, Bool.true_and]; exact id)
    | (refine ind_of hA ?_; decide +kernel)
    | exact room_add2 hA (by omega) (by decide)
    | (simp only [hup]; cbv)
  all_goals (rename_i hpc; unfold real at hA; cases hA)
  all_goals first
    | rfl
    | (intro i hi
       by_cases e : i = q
       · refine Eq.trans ?_ (congrArg eRow ((hR' i).trans (if_pos e)).symm)
         dsimp only
         simp only [if_pos e]
         rfl
       · refine Eq.trans ?_ (congrArg eRow ((hR' i).trans (if_neg e)).symm)
         dsimp only
         simp only [if_neg e])
    | (intro i hi
       refine Eq.trans (push_if (A := real) ePane rfl c G (paneP j.piece (R q) kind) _ i hi) (congrArg ePane (hG' i).symm))
    | (intro i hi
       refine Eq.trans ?_ (congrArg ePane (hG' i).symm)
       have e := push_if (A := real) ePane rfl c G (paneP j.piece (R q) kind) (fun _ => [eI 0, eI 0, eI 0, eI 0, eI 0, eI 0, eI 0, eI 0, eI 0]) i hi
       refine Eq.trans ?_ e
       unfold paneP
       first | rw [if_pos hpc] | rw [if_neg (by rw [hpc]; simp)]
       rfl)
end Go.Rk
