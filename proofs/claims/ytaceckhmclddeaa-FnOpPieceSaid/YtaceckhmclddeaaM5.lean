/- The walk over this seat's functions, part 5: what each of them answers, at all data. -/
import Derived.Test.YtaceckhmclddeaaM1
import Derived.Test.YtaceckhmclddeaaM2
import Derived.Test.YtaceckhmclddeaaM3
import Derived.Test.YtaceckhmclddeaaM4
import Derived.Shelf.Spec.SlicesInsertGrow
/- Small functions: what they answer. -/
namespace Go.Rk
set_option linter.unusedSimpArgs false
set_option linter.unusedVariables false
open Go.Proofs
set_option maxRecDepth 100000 in
theorem c_isNaN (n : Int) : ∃ b, b = decide (False) ∧ Meets Try.prog 154 [.c (.d (eI n))] ⟨.one (.c (.d (eB b))), [none]⟩ := by
  obtain ⟨b, hb⟩ : ∃ b, b = decide (False) := ⟨_, rfl⟩
  refine ⟨b, hb, ?_⟩
  refine meets_of (H := []) (EX := EXA) ttok mixed Try.func154 rfl (by kernel_rfl) (by decide) ?_
  generalize hA : real = A
  generalize hM : MeetsB Try.prog = M
  cbv
  repeat' first
    | apply And.intro
    | exact True.intro
    | with_reducible rfl
    | exact same_of hA rfl
    | refine br_of hA (fun _ => ?_) (fun _ => ?_)
    | exact imp_of hA id
    | (refine imp_of hA ?_; subst hA; simp only [real, Bool.true_and]; exact id)
    | (refine ind_of hA ?_; decide +kernel)
  all_goals subst hA
  all_goals refine congrArg (fun b => XA.one (.c (.d (eB b)))) (Bool.eq_iff_iff.2 ?_)
  all_goals subst_vars
  all_goals try simp only [real, bifA, bifB, bifC, bifD, decide_eq_true_eq, decide_eq_false_iff_not, beq_iff_eq, bne_iff_ne, beq_eq_false_iff_ne, bne_eq_false_iff_eq, ne_eq, Bool.and_eq_true, Bool.or_eq_true, Bool.not_eq_true', Bool.not_eq_false', Bool.and_eq_false_iff, Bool.or_eq_false_iff, Bool.false_eq_true, and_false, false_and, or_false, false_or, and_true, true_and, not_true_eq_false, not_false_eq_true, true_iff, false_iff, IntKind.wrap_i64] at *
  all_goals first
    | omega
    | skip
set_option maxRecDepth 100000 in
theorem c_Compare (a b : Int) : ∃ x : Int, x = (if a < b then -1 else if b < a then 1 else 0) ∧ Meets Try.prog 136 [.c (.d (eI a)), .c (.d (eI b))] ⟨.one (.c (.d (eI x))), [none, none]⟩ := by
  obtain ⟨x, hx⟩ : ∃ x : Int, x = (if a < b then -1 else if b < a then 1 else 0) := ⟨_, rfl⟩
  refine ⟨x, hx, ?_⟩
  refine meets_of (H := []) (EX := EXA) ttok mixed Try.func136 rfl (by kernel_rfl) (by decide) ?_
  generalize hA : real = A
  generalize hM : MeetsB Try.prog = M
  cbv
  repeat' first
    | apply And.intro
    | exact True.intro
    | with_reducible rfl
    | exact same_of hA rfl
    | refine br_of hA (fun _ => ?_) (fun _ => ?_)
    | exact imp_of hA id
    | (refine imp_of hA ?_; subst hA; simp only [real, Bool.true_and]; exact id)
    | (refine ind_of hA ?_; decide +kernel)
    | (refine call_ex hA hM (c_isNaN _) (fun _ _ => ?_); cbv)
  all_goals subst hA
  all_goals refine congrArg (fun x => XA.one (.c (.d (eI x)))) ?_
  all_goals subst_vars
  all_goals try simp only [real, bifA, bifB, bifC, bifD, decide_eq_true_eq, decide_eq_false_iff_not, beq_iff_eq, bne_iff_ne, beq_eq_false_iff_ne, bne_eq_false_iff_eq, ne_eq, Bool.and_eq_true, Bool.or_eq_true, Bool.not_eq_true', Bool.not_eq_false', Bool.and_eq_false_iff, Bool.or_eq_false_iff, Bool.false_eq_true, reduceCtorEq] at *
  all_goals first
    | omega
    | skip
/-- The first that is not 0. -/
inductive FirstNz (n : Nat) (g : Nat → Int) : Int → Prop
  | at (i : Nat) (h : i < n) (hi : g i ≠ 0) (hb : ∀ j, j < i → g j = 0) : FirstNz n g (g i)
  | none (hb : ∀ j, j < n → g j = 0) : FirstNz n g 0
theorem firstNz_ex (n : Nat) (g : Nat → Int) : ∃ x, FirstNz n g x := by
  by_cases h : ∃ i, i < n ∧ g i ≠ 0
  · obtain ⟨i, hi⟩ := h
    induction i using Nat.strongRecOn with
    | _ i ih =>
      by_cases hm : ∃ j, j < i ∧ g j ≠ 0
      · obtain ⟨j, hj1, hj2⟩ := hm
        exact ih j hj1 ⟨by omega, hj2⟩
      · exact ⟨_, .at i hi.1 hi.2 fun j hj => Classical.not_not.1 fun e => hm ⟨j, hj, e⟩⟩
  · exact ⟨0, .none fun j hj => Classical.not_not.1 fun e => h ⟨j, hj, e⟩⟩
theorem firstNz_one {n : Nat} {g : Nat → Int} {x y : Int} (h : FirstNz n g x) (h' : FirstNz n g y) : x = y := by
  cases h with
  | «at» i hi hh hb =>
    cases h' with
    | «at» j hj hh' hb' =>
      have : i = j := by
        rcases Nat.lt_trichotomy i j with h | h | h
        · exact absurd (hb' i h) hh
        · exact h
        · exact absurd (hb j h) hh'
      rw [this]
    | none hb' => exact absurd (hb' i hi) hh
  | none hb =>
    cases h' with
    | «at» j hj hh' hb' => exact absurd (hb j hj) hh'
    | none hb' => rfl
theorem firstNz_two {g : Nat → Int} {x : Int} (h : FirstNz 2 g x) : x = if g 0 = 0 then g 1 else g 0 := by
  refine firstNz_one h ?_
  by_cases h0 : g 0 = 0
  · rw [if_pos h0]
    by_cases h1 : g 1 = 0
    · rw [h1]; exact .none fun j hj => by rcases j with _ | _ | j; exact h0; exact h1; omega
    · exact .at 1 (by omega) h1 fun j hj => by rcases j with _ | j; exact h0; omega
  · rw [if_neg h0]; exact .at 0 (by omega) h0 fun j hj => by omega
def stOr (n : Nat) (g : Nat → Int) (i : Nat) : St := ⟨[(8, .c (.d (eI i))), (7, .c (.d (eI n))), (6, .c (.d (.sl 1 n fun i => [eI (g i)]))), (3, .c (.d (eI 0)))], []⟩
set_option maxRecDepth 100000 in
theorem m_Or (n : Nat) (hn : n ≤ maxLen) (g : Nat → Int) (x : Int) (hx : FirstNz n g x) : Meets Try.prog 135 [.c (.d (.sl 1 n fun i => [eI (g i)]))] ⟨.one (.c (.d (eI x))), [none]⟩ := by
  refine meets_of (H := []) (EX := EXA) ttok mixed Try.func135 rfl (by kernel_rfl) (by decide) ?_
  generalize hA : real = A
  generalize hM : MeetsB Try.prog = M
  cbv
  repeat' first
    | apply And.intro
    | exact True.intro
    | with_reducible rfl
    | exact same_of hA rfl
    | refine br_of hA (fun _ => ?_) (fun _ => ?_)
    | exact imp_of hA id
    | (refine imp_of hA ?_; subst hA; simp only [real, Bool.true_and]; exact id)
    | (refine ind_of hA ?_; decide +kernel)
  refine loop_of hA (α := { i : Nat // i ≤ n ∧ ∀ j, j < i → g j = 0 }) (fun x => stOr n g x.1) (fun x => n - x.1) ⟨0, Nat.zero_le _, fun j h => absurd h (Nat.not_lt_zero _)⟩ ?_ ?_
  · refine cov_of ?_ ?_ ?_
    · cbv; subst hA; exact ⟨rfl, rfl, trivial⟩
    · cbv
    · cbv
  rintro ⟨i, hi, hb⟩
  cbv
  repeat' first
    | apply And.intro
    | exact True.intro
    | with_reducible rfl
    | exact same_of hA rfl
    | refine br_of hA (fun _ => ?_) (fun _ => ?_)
    | exact imp_of hA id
    | (refine imp_of hA ?_; subst hA; simp only [real, Bool.true_and]; exact id)
    | (refine ind_of hA ?_; decide +kernel)
    | (refine inb_of hA fun _ => ?_; subst hA; simp only [real, decide_eq_true_eq, Int.ofNat_eq_natCast] at *; omega)
  · rename_i hlt hne
    subst hA
    simp only [real, decide_eq_true_eq, Int.ofNat_eq_natCast, Int.toNat_natCast, bne_iff_ne] at *
    obtain rfl := firstNz_one hx (.at i (by omega) hne hb)
    rfl
  · rename_i hlt hne
    have hlt' : i < n := by subst hA; simp only [real, decide_eq_true_eq, Int.ofNat_eq_natCast] at hlt; omega
    refine ⟨⟨i + 1, by omega, fun j hj => ?_⟩, by simp only; omega, cov_of ?_ ?_ ?_⟩
    · by_cases e : j = i
      · subst e
        subst hA
        simpa [real] using hne
      · exact hb j (by omega)
    · cbv
      subst hA
      exact ⟨congrArg (fun x => DV.v (.int .i64 x)) (up64 hlt' hn), trivial⟩
    · cbv
    · cbv
  · subst hA
    simp only [real, decide_eq_false_iff_not, Int.ofNat_eq_natCast] at *
    obtain rfl := firstNz_one hx (.none fun j hj => hb j (by omega))
    rfl
theorem two_of {A : Ar} (hA : real = A) (a b : Int) : A.sub 0 (A.app 1 (A.rep [eI a]) (A.app 1 (A.rep [eI b]) (A.rep [eI 0]))) = fun i => [eI (if i = 0 then a else if i = 1 then b else 0)] := by
  subst hA
  funext i
  rcases i with _ | _ | i
  · rfl
  · rfl
  · simp [real]
theorem c_Or (a b : Int) : ∃ x : Int, x = (if a = 0 then b else a) ∧ Meets Try.prog 135 [.c (.d (.sl 1 2 fun i => [eI (if i = 0 then a else if i = 1 then b else 0)]))] ⟨.one (.c (.d (eI x))), [none]⟩ := by
  obtain ⟨x, hx⟩ := firstNz_ex 2 fun i => if i = 0 then a else if i = 1 then b else 0
  exact ⟨x, firstNz_two hx, m_Or 2 (by decide) _ x hx⟩
set_option maxRecDepth 100000 in
theorem c_wcompare (s e s2 e2 : Int) : ∃ x : Int, x = (if s < s2 then -1 else if s2 < s then 1 else if e < e2 then -1 else if e2 < e then 1 else 0) ∧ Meets Try.prog 137 [.agg [.d (eI s), .d (eI e)], .agg [.d (eI s2), .d (eI e2)]] ⟨.one (.c (.d (eI x))), [none, none]⟩ := by
  obtain ⟨x, hx⟩ : ∃ x : Int, x = (if s < s2 then -1 else if s2 < s then 1 else if e < e2 then -1 else if e2 < e then 1 else 0) := ⟨_, rfl⟩
  refine ⟨x, hx, ?_⟩
  refine meets_of (H := []) (EX := EXA) ttok mixed Try.func137 rfl (by kernel_rfl) (by decide) ?_
  generalize hA : real = A
  generalize hM : MeetsB Try.prog = M
  cbv
  repeat' first
    | apply And.intro
    | exact True.intro
    | with_reducible rfl
    | exact same_of hA rfl
    | refine br_of hA (fun _ => ?_) (fun _ => ?_)
    | exact imp_of hA id
    | (refine imp_of hA ?_; subst hA; simp only [real, Bool.true_and]; exact id)
    | (refine ind_of hA ?_; decide +kernel)
    | (refine call_ex hA hM (c_Compare _ _) (fun _ _ => ?_); cbv)
    | (refine call_ex2 hA hM (c_Or _ _) (congrArg (fun f => [XT.c (.d (.sl 1 2 f))]) (two_of hA _ _)) (fun _ _ => ?_); cbv)
  all_goals subst hA
  all_goals refine congrArg (fun x => XA.one (.c (.d (eI x)))) ?_
  all_goals subst_vars
  all_goals try simp only [real, bifA, bifB, bifC, bifD, decide_eq_true_eq, decide_eq_false_iff_not, beq_iff_eq, bne_iff_ne, beq_eq_false_iff_ne, bne_eq_false_iff_eq, ne_eq, Bool.and_eq_true, Bool.or_eq_true, Bool.not_eq_true', Bool.not_eq_false', Bool.and_eq_false_iff, Bool.or_eq_false_iff, Bool.false_eq_true, reduceCtorEq] at *
  all_goals first
    | omega
    | skip
set_option maxRecDepth 100000 in
theorem c_rcompare (r q : RowT) : ∃ x : Int, x = (if r.key < q.key then -1 else if q.key < r.key then 1 else if r.win.s < q.win.s then -1 else if q.win.s < r.win.s then 1 else if r.win.e < q.win.e then -1 else if q.win.e < r.win.e then 1 else 0) ∧ Meets Try.prog 99 [xd (eRow r), xd (eRow q)] ⟨.one (.c (.d (eI x))), [none, none]⟩ := by
  obtain ⟨x, hx⟩ : ∃ x : Int, x = (if r.key < q.key then -1 else if q.key < r.key then 1 else if r.win.s < q.win.s then -1 else if q.win.s < r.win.s then 1 else if r.win.e < q.win.e then -1 else if q.win.e < r.win.e then 1 else 0) := ⟨_, rfl⟩
  refine ⟨x, hx, ?_⟩
  refine meets_of (H := []) (EX := EXA) ttok mixed Try.func99 rfl (by kernel_rfl) (by decide) ?_
  generalize hA : real = A
  generalize hM : MeetsB Try.prog = M
  cbv
  repeat' first
    | apply And.intro
    | exact True.intro
    | with_reducible rfl
    | exact same_of hA rfl
    | refine br_of hA (fun _ => ?_) (fun _ => ?_)
    | exact imp_of hA id
    | (refine imp_of hA ?_; subst hA; simp only [real, Bool.true_and]; exact id)
    | (refine ind_of hA ?_; decide +kernel)
    | (refine call_ex hA hM (c_Compare _ _) (fun _ _ => ?_); cbv)
    | (refine call_ex hA hM (c_wcompare _ _ _ _) (fun _ _ => ?_); cbv)
    | (refine call_ex2 hA hM (c_Or _ _) (congrArg (fun f => [XT.c (.d (.sl 1 2 f))]) (two_of hA _ _)) (fun _ _ => ?_); cbv)
  all_goals subst hA
  all_goals refine congrArg (fun x => XA.one (.c (.d (eI x)))) ?_
  all_goals subst_vars
  all_goals try simp only [real, bifA, bifB, bifC, bifD, decide_eq_true_eq, decide_eq_false_iff_not, beq_iff_eq, bne_iff_ne, beq_eq_false_iff_ne, bne_eq_false_iff_eq, ne_eq, Bool.and_eq_true, Bool.or_eq_true, Bool.not_eq_true', Bool.not_eq_false', Bool.and_eq_false_iff, Bool.or_eq_false_iff, Bool.false_eq_true, reduceCtorEq] at *
  all_goals first
    | omega
    | skip
set_option maxRecDepth 100000 in
theorem c_WinTouch (s e s2 e2 : Int) : ∃ b, b = decide (s < e2 ∧ s2 < e) ∧ Meets Try.prog 79 [.agg [.d (eI s), .d (eI e)], .agg [.d (eI s2), .d (eI e2)]] ⟨.one (.c (.d (eB b))), [none, none]⟩ := by
  obtain ⟨b, hb⟩ : ∃ b, b = decide (s < e2 ∧ s2 < e) := ⟨_, rfl⟩
  refine ⟨b, hb, ?_⟩
  refine meets_of (H := []) (EX := EXA) ttok mixed Try.func79 rfl (by kernel_rfl) (by decide) ?_
  generalize hA : real = A
  generalize hM : MeetsB Try.prog = M
  cbv
  repeat' first
    | apply And.intro
    | exact True.intro
    | with_reducible rfl
    | exact same_of hA rfl
    | refine br_of hA (fun _ => ?_) (fun _ => ?_)
    | exact imp_of hA id
    | (refine imp_of hA ?_; subst hA; simp only [real, Bool.true_and]; exact id)
    | (refine ind_of hA ?_; decide +kernel)
  all_goals subst hA
  all_goals refine congrArg (fun b => XA.one (.c (.d (eB b)))) (Bool.eq_iff_iff.2 ?_)
  all_goals subst_vars
  all_goals try simp only [real, bifA, bifB, bifC, bifD, decide_eq_true_eq, decide_eq_false_iff_not, beq_iff_eq, bne_iff_ne, beq_eq_false_iff_ne, bne_eq_false_iff_eq, ne_eq, Bool.and_eq_true, Bool.or_eq_true, Bool.not_eq_true', Bool.not_eq_false', Bool.and_eq_false_iff, Bool.or_eq_false_iff, Bool.false_eq_true, and_false, false_and, or_false, false_or, and_true, true_and, not_true_eq_false, not_false_eq_true, true_iff, false_iff, IntKind.wrap_i64] at *
  all_goals first
    | omega
    | skip
set_option maxRecDepth 100000 in
theorem c_AggOk (n sum least most : Int) : ∃ b, b = decide ((n = 0 ∧ sum = 0 ∧ least = 0 ∧ most = 0) ∨ (n ≠ 0 ∧ (1 ≤ n ∧ n ≤ 1000) ∧ (-9 ≤ least ∧ least ≤ 9) ∧ (least ≤ most ∧ most ≤ 9) ∧ (IntKind.i64.wrap (n * least) ≤ sum ∧ sum ≤ IntKind.i64.wrap (n * most)))) ∧ Meets Try.prog 109 [.agg [.d (eI n), .d (eI sum), .d (eI least), .d (eI most)]] ⟨.one (.c (.d (eB b))), [none]⟩ := by
  obtain ⟨b, hb⟩ : ∃ b, b = decide ((n = 0 ∧ sum = 0 ∧ least = 0 ∧ most = 0) ∨ (n ≠ 0 ∧ (1 ≤ n ∧ n ≤ 1000) ∧ (-9 ≤ least ∧ least ≤ 9) ∧ (least ≤ most ∧ most ≤ 9) ∧ (IntKind.i64.wrap (n * least) ≤ sum ∧ sum ≤ IntKind.i64.wrap (n * most)))) := ⟨_, rfl⟩
  refine ⟨b, hb, ?_⟩
  refine meets_of (H := []) (EX := EXA) ttok mixed Try.func109 rfl (by kernel_rfl) (by decide) ?_
  generalize hA : real = A
  generalize hM : MeetsB Try.prog = M
  cbv
  repeat' first
    | apply And.intro
    | exact True.intro
    | with_reducible rfl
    | exact same_of hA rfl
    | refine br_of hA (fun _ => ?_) (fun _ => ?_)
    | exact imp_of hA id
    | (refine imp_of hA ?_; subst hA; simp only [real, Bool.true_and]; exact id)
    | (refine ind_of hA ?_; decide +kernel)
    | (refine call_ex hA hM (c_in _ _ _) (fun _ _ => ?_); cbv)
  all_goals subst hA
  all_goals refine congrArg (fun b => XA.one (.c (.d (eB b)))) (Bool.eq_iff_iff.2 ?_)
  all_goals subst_vars
  all_goals try simp only [real, bifA, bifB, bifC, bifD, decide_eq_true_eq, decide_eq_false_iff_not, beq_iff_eq, bne_iff_ne, beq_eq_false_iff_ne, bne_eq_false_iff_eq, ne_eq, Bool.and_eq_true, Bool.or_eq_true, Bool.not_eq_true', Bool.not_eq_false', Bool.and_eq_false_iff, Bool.or_eq_false_iff, Bool.false_eq_true, and_false, false_and, or_false, false_or, and_true, true_and, not_true_eq_false, not_false_eq_true, true_iff, false_iff, IntKind.wrap_i64] at *
  all_goals first
    | omega
    | skip
end Go.Rk
/- First places. -/
namespace Go.Rk
set_option linter.unusedSimpArgs false
set_option linter.unusedVariables false
open Go.Proofs
def stIxRow1 (n : Nat) (g : Nat → RowT) (F : FuncId) (c0 : DV) (i : Nat) : St := ⟨[(8, .c (.d (eI i))), (7, .c (.d (eI n))), (0, .c (.d (.sl 13 n fun i => eRow (g i)))), (1, .c (.d (.fn F [c0])))], []⟩
set_option maxRecDepth 100000 in
theorem c_IndexRow1 (n : Nat) (hn : n ≤ maxLen) (g : Nat → RowT) (F : FuncId) (c0 : DV) (Q : RowT → Prop) (hc : ∀ r, ∃ b, (b = true ↔ Q r) ∧ Meets Try.prog F [xd (eRow r), .c (.d c0)] ⟨.one (.c (.d (eB b))), [none, none]⟩) : ∃ x, FirstIx n (fun i => Q (g i)) x ∧ Meets Try.prog 120 [.c (.d (.sl 13 n fun i => eRow (g i))), .c (.d (.fn F [c0]))] ⟨.one (.c (.d (eI x))), [none, none]⟩ := by
  obtain ⟨x, hx⟩ := firstIx_ex n fun i => Q (g i)
  refine ⟨x, hx, ?_⟩
  refine meets_of (H := []) (EX := EXA) ttok mixed Try.func120 rfl (by kernel_rfl) (by decide) ?_
  generalize hA : real = A
  generalize hM : MeetsB Try.prog = M
  cbv
  repeat' first
    | apply And.intro
    | exact True.intro
    | with_reducible rfl
    | exact same_of hA rfl
    | refine br_of hA (fun _ => ?_) (fun _ => ?_)
    | exact imp_of hA id
    | (refine imp_of hA ?_; subst hA; simp only [real, Bool.true_and]; exact id)
    | (refine ind_of hA ?_; decide +kernel)
  refine loop_of hA (α := { i : Nat // i ≤ n ∧ ∀ j, j < i → ¬ Q (g j) }) (fun x => stIxRow1 n g F c0 x.1) (fun x => n - x.1) ⟨0, Nat.zero_le _, fun j h => absurd h (Nat.not_lt_zero _)⟩ ?_ ?_
  · refine cov_of ?_ ?_ ?_
    · cbv; subst hA; exact ⟨rfl, rfl, trivial⟩
    · cbv
    · cbv
  rintro ⟨i, hi, hb⟩
  cbv
  repeat' first
    | apply And.intro
    | exact True.intro
    | with_reducible rfl
    | exact same_of hA rfl
    | refine br_of hA (fun _ => ?_) (fun _ => ?_)
    | exact imp_of hA id
    | (refine imp_of hA ?_; subst hA; simp only [real, Bool.true_and]; exact id)
    | (refine ind_of hA ?_; decide +kernel)
    | (refine inb_of hA fun _ => ?_; subst hA; simp only [real, decide_eq_true_eq, Int.ofNat_eq_natCast] at *; omega)
  · refine call_ex hA hM (hc (g (A.nat (Int.ofNat i)))) (fun b hbb => ?_)
    cbv
    repeat' first
      | apply And.intro
      | exact True.intro
      | with_reducible rfl
      | exact same_of hA rfl
      | refine br_of hA (fun _ => ?_) (fun _ => ?_)
      | exact imp_of hA id
      | (refine imp_of hA ?_; subst hA; simp only [real, Bool.true_and]; exact id)
      | (refine ind_of hA ?_; decide +kernel)
    · rename_i hlt ht
      subst hA
      simp only [real, decide_eq_true_eq, Int.ofNat_eq_natCast, Int.toNat_natCast] at *
      obtain rfl := firstIx_one hx (.at i (by omega) (hbb.1 ht) hb)
      rfl
    · rename_i hlt ht
      have hlt' : i < n := by subst hA; simp only [real, decide_eq_true_eq, Int.ofNat_eq_natCast] at hlt; omega
      refine ⟨⟨i + 1, by omega, fun j hj => ?_⟩, by simp only; omega, cov_of ?_ ?_ ?_⟩
      · by_cases e : j = i
        · subst e
          subst hA
          intro hq
          have := hbb.2 hq
          rw [ht] at this
          cases this
        · exact hb j (by omega)
      · cbv
        subst hA
        exact ⟨congrArg (fun x => DV.v (.int .i64 x)) (up64 hlt' hn), trivial⟩
      · cbv
      · cbv
  · subst hA
    simp only [real, decide_eq_false_iff_not, Int.ofNat_eq_natCast] at *
    obtain rfl := firstIx_one hx (.none fun j hj => hb j (by omega))
    rfl
set_option maxRecDepth 100000 in
theorem c_ContainsRow1 (n : Nat) (hn : n ≤ maxLen) (g : Nat → RowT) (F : FuncId) (c0 : DV) (Q : RowT → Prop) (hc : ∀ r, ∃ b, (b = true ↔ Q r) ∧ Meets Try.prog F [xd (eRow r), .c (.d c0)] ⟨.one (.c (.d (eB b))), [none, none]⟩) : ∃ b, (b = true ↔ ∃ i, i < n ∧ Q (g i)) ∧ Meets Try.prog 101 [.c (.d (.sl 13 n fun i => eRow (g i))), .c (.d (.fn F [c0]))] ⟨.one (.c (.d (eB b))), [none, none]⟩ := by
  obtain ⟨x, hx, hm⟩ := c_IndexRow1 n hn g F c0 Q hc
  obtain ⟨b, hb⟩ : ∃ b, b = decide (0 ≤ x) := ⟨_, rfl⟩
  have hxx := firstIx_neg hx
  refine ⟨b, by rw [hb, decide_eq_true_eq]; exact hxx.1, ?_⟩
  refine meets_of (H := []) (EX := EXA) ttok mixed Try.func101 rfl (by kernel_rfl) (by decide) ?_
  generalize hA : real = A
  generalize hM : MeetsB Try.prog = M
  cbv
  repeat' first
    | apply And.intro
    | exact True.intro
    | with_reducible rfl
    | exact same_of hA rfl
    | refine br_of hA (fun _ => ?_) (fun _ => ?_)
    | exact imp_of hA id
    | (refine imp_of hA ?_; subst hA; simp only [real, Bool.true_and]; exact id)
    | (refine ind_of hA ?_; decide +kernel)
    | (refine call_of hA hM _ hm ?_; cbv)
  all_goals subst hA
  all_goals refine congrArg (fun b => XA.one (.c (.d (eB b)))) (Bool.eq_iff_iff.2 ?_)
  all_goals subst_vars
  all_goals try simp only [real, bifA, bifB, bifC, bifD, decide_eq_true_eq, decide_eq_false_iff_not, beq_iff_eq, bne_iff_ne, beq_eq_false_iff_ne, bne_eq_false_iff_eq, ne_eq, Bool.and_eq_true, Bool.or_eq_true, Bool.not_eq_true', Bool.not_eq_false', Bool.and_eq_false_iff, Bool.or_eq_false_iff, Bool.false_eq_true, and_false, false_and, or_false, false_or, and_true, true_and, not_true_eq_false, not_false_eq_true, true_iff, false_iff, IntKind.wrap_i64] at *
  all_goals first
    | omega
    | skip
end Go.Rk
/- Rows. -/
namespace Go.Rk
set_option linter.unusedSimpArgs false
set_option linter.unusedVariables false
open Go.Proofs
theorem beqB (a b : Bool) : ((a == b) = true) = (a = true ↔ b = true) := by cases a <;> cases b <;> simp
theorem beqI (a b : Int) : ((a == b) = true) = (a = b) := by simp
theorem bneI (a b : Int) : ((a != b) = true) = ¬ (a = b) := by simp
theorem beqIF (a b : Int) : ((a == b) = false) = ¬ (a = b) := by simp
theorem bneIF (a b : Int) : ((a != b) = false) = (a = b) := by simp
open Classical in
set_option maxRecDepth 100000 in
theorem c_rowOk (j : JobT) (r : RowT) (mark : Int) : ∃ b, (b = true ↔ RowOkP j r mark) ∧ Meets Try.prog 98 [xd (eRow r), xd (eJob j), .c (.d (eI mark))] ⟨.one (.c (.d (eB b))), [none, none, none]⟩ := by
  obtain ⟨b, hb⟩ : ∃ b, b = decide (RowOkP j r mark) := ⟨_, rfl⟩
  refine ⟨b, by rw [hb, decide_eq_true_eq], ?_⟩
  refine meets_of (H := []) (EX := EXA) ttok mixed Try.func98 rfl (by kernel_rfl) (by decide) ?_
  generalize hA : real = A
  generalize hM : MeetsB Try.prog = M
  cbv
  repeat' first
    | apply And.intro
    | exact True.intro
    | with_reducible rfl
    | exact same_of hA rfl
    | refine br_of hA (fun _ => ?_) (fun _ => ?_)
    | exact imp_of hA id
    | (refine imp_of hA ?_; subst hA; simp only [real, Bool.true_and]; exact id)
    | (refine ind_of hA ?_; decide +kernel)
    | (refine call_ex hA hM (c_in _ _ _) (fun _ _ => ?_); cbv)
    | (refine call_ex hA hM (c_isKey _) (fun _ _ => ?_); cbv)
    | (refine call_ex hA hM (c_WinOk _ _) (fun _ _ => ?_); cbv)
    | (refine call_ex hA hM (c_AggOk _ _ _ _) (fun _ _ => ?_); cbv)
  all_goals obtain ⟨key, ⟨s, e⟩, ⟨n1, sum1, least1, most1⟩, ⟨n2, sum2, least2, most2⟩, told, timely⟩ := r
  all_goals obtain ⟨_, _, _, _, _, late, _, _, _, _⟩ := j
  all_goals subst hA
  all_goals refine congrArg (fun b => XA.one (.c (.d (eB b)))) (Bool.eq_iff_iff.2 ?_)
  all_goals subst_vars
  all_goals simp only [real, bifA, bifB, bifC, bifD, beqB, decide_eq_true_eq, decide_eq_false_iff_not, beqI, bneI, beqIF, bneIF, ne_eq, Bool.and_eq_true, Bool.or_eq_true, Bool.not_eq_true', Bool.not_eq_false', Bool.and_eq_false_iff, Bool.or_eq_false_iff, Bool.false_eq_true, and_false, false_and, or_false, false_or, and_true, true_and, not_true_eq_false, not_false_eq_true, true_iff, false_iff, IntKind.wrap_i64, RowOkP, WinOkP, AggOkP] at *
  all_goals first
    | omega
    | (cases timely <;> simp only [true_iff, false_iff, iff_true, iff_false, Bool.false_eq_true, not_true_eq_false, not_false_eq_true, reduceCtorEq] at * <;> omega)
end Go.Rk
/- Operators. -/
namespace Go.Rk
set_option linter.unusedSimpArgs false
set_option linter.unusedVariables false
open Go.Proofs
def OkAt (j : JobT) (mark : Int) (g : Nat → RowT) (i : Nat) : Prop := RowOkP j (g i) mark ∧ (0 < i → AheadP (g (i - 1)).key (g (i - 1)).win (g i).key (g i).win) ∧
    (j.kind = 3 → ∀ k, k < i → ¬ ((g k).key = (g i).key ∧ TouchP (g k).win (g i).win))
theorem down64 {i : Nat} (h : 0 < i) (hn : i ≤ maxLen) : (IntKind.i64.wrap ((i : Int) - 1)).toNat = i - 1 := by
  have hm : maxLen = 9223372036854775807 := by decide
  rw [hm] at hn
  rw [IntWalk.i64_in _ (by omega)]
  omega
theorem c_rcmpA (r q : RowT) : ∃ x : Int, (x < 0 ↔ AheadP r.key r.win q.key q.win) ∧ Meets Try.prog 99 [xd (eRow r), xd (eRow q)] ⟨.one (.c (.d (eI x))), [none, none]⟩ := by
  obtain ⟨x, hx, hm⟩ := c_rcompare r q
  refine ⟨x, ?_, hm⟩
  unfold AheadP WinLt
  omega
set_option maxRecDepth 100000 in
theorem c_OpOk1 (r q : RowT) : ∃ b, (b = true ↔ q.key = r.key ∧ TouchP q.win r.win) ∧ Meets Try.prog 100 [xd (eRow q), .c (.d (.p (eRow r)))] ⟨.one (.c (.d (eB b))), [none, none]⟩ := by
  obtain ⟨b, hb⟩ : ∃ b, b = decide (q.key = r.key ∧ q.win.s < r.win.e ∧ r.win.s < q.win.e) := ⟨_, rfl⟩
  refine ⟨b, by rw [hb, decide_eq_true_eq]; exact Iff.rfl, ?_⟩
  refine meets_of (H := []) (EX := EXA) ttok mixed Try.func100 rfl (by kernel_rfl) (by decide) ?_
  generalize hA : real = A
  generalize hM : MeetsB Try.prog = M
  cbv
  repeat' first
    | apply And.intro
    | exact True.intro
    | with_reducible rfl
    | exact same_of hA rfl
    | refine br_of hA (fun _ => ?_) (fun _ => ?_)
    | exact imp_of hA id
    | (refine imp_of hA ?_; subst hA; simp only [real, Bool.true_and]; exact id)
    | (refine ind_of hA ?_; decide +kernel)
    | (refine call_ex hA hM (c_WinTouch _ _ _ _) (fun _ _ => ?_); cbv)
  all_goals subst hA
  all_goals refine congrArg (fun b => XA.one (.c (.d (eB b)))) (Bool.eq_iff_iff.2 ?_)
  all_goals subst_vars
  all_goals try simp only [real, bifA, bifB, bifC, bifD, decide_eq_true_eq, decide_eq_false_iff_not, beq_iff_eq, bne_iff_ne, beq_eq_false_iff_ne, bne_eq_false_iff_eq, ne_eq, Bool.and_eq_true, Bool.or_eq_true, Bool.not_eq_true', Bool.not_eq_false', Bool.and_eq_false_iff, Bool.or_eq_false_iff, Bool.false_eq_true, and_false, false_and, or_false, false_or, and_true, true_and, not_true_eq_false, not_false_eq_true, true_iff, false_iff, IntKind.wrap_i64] at *
  all_goals first
    | omega
    | skip
def stOk (j : JobT) (mark : Int) (n : Nat) (g : Nat → RowT) (i : Nat) : St := ⟨[(26, .c (.d (eI i))), (25, .c (.d (eI n))), (24, .c (.d (.sl 13 n fun i => eRow (g i)))), (2, .c (.bp 128 1 0)), (3, .c (.bp 192 1 0))], [(128, 1, .box ((eJob j).map .d)), (192, 1, .box ([eI mark, .sl 13 n fun i => eRow (g i)].map .d))]⟩
open Classical in
set_option maxRecDepth 100000 in
theorem c_OpOk (j : JobT) (s : OpStT) : ∃ b, (b = true ↔ OpOkP j s) ∧ Meets Try.prog 46 [xd (eJob j), xd (eOpSt s)] ⟨.one (.c (.d (eB b))), [none, none]⟩ := by
  obtain ⟨b, hb⟩ : ∃ b : Bool, (b = true ↔ OpOkP j s) := ⟨decide (OpOkP j s), by rw [decide_eq_true_eq]⟩
  refine ⟨b, hb, ?_⟩
  obtain ⟨mark, n, g, hn⟩ := s
  show Meets Try.prog 46 [xd (eJob j), xd [eI mark, .sl 13 n fun i => eRow (g i)]] _
  refine meets_of (H := []) (EX := EXA) ttok mixed Try.func46 rfl (by kernel_rfl) (by decide) ?_
  generalize hA : real = A
  generalize hM : MeetsB Try.prog = M
  cbv
  repeat' first
    | apply And.intro
    | exact True.intro
    | with_reducible rfl
    | exact same_of hA rfl
    | refine br_of hA (fun _ => ?_) (fun _ => ?_)
    | exact imp_of hA id
    | (refine imp_of hA ?_; subst hA; simp only [real, Bool.true_and]; exact id)
    | (refine ind_of hA ?_; decide +kernel)
    | (refine call_ex hA hM (c_JobOk _ _ _ _ _ _ _ _ _ _) (fun _ _ => ?_); cbv)
    | (refine call_ex hA hM (c_isTime _) (fun _ _ => ?_); cbv)
  · rename_i hbad
    subst hA; subst_vars
    refine congrArg (fun b => XA.one (.c (.d (eB b)))) ?_
    simp only [real, bifA, bifB, bifC, bifD, beqB, decide_eq_true_eq, decide_eq_false_iff_not, beqI, bneI, beqIF, bneIF, ne_eq, Bool.and_eq_true, Bool.or_eq_true, Bool.not_eq_true', Bool.not_eq_false', Bool.and_eq_false_iff, Bool.or_eq_false_iff, Bool.false_eq_true, and_false, false_and, or_false, false_or, and_true, true_and, not_true_eq_false, not_false_eq_true, true_iff, false_iff, Int.ofNat_eq_natCast, Int.toNat_natCast] at hbad
    cases b with
    | false => rfl
    | true =>
      exfalso
      obtain ⟨h1, h2, h3, _⟩ := hb.1 rfl
      unfold JobOkP at h1
      simp only at h2 h3
      omega
  rename_i hgood
  have hpre : JobOkP j ∧ (0 ≤ mark ∧ mark ≤ 1000) ∧ n ≤ 300 := by
    subst hA; subst_vars
    simp only [real, bifA, bifB, bifC, bifD, beqB, decide_eq_true_eq, decide_eq_false_iff_not, beqI, bneI, beqIF, bneIF, ne_eq, Bool.and_eq_true, Bool.or_eq_true, Bool.not_eq_true', Bool.not_eq_false', Bool.and_eq_false_iff, Bool.or_eq_false_iff, Bool.false_eq_true, and_false, false_and, or_false, false_or, and_true, true_and, not_true_eq_false, not_false_eq_true, true_iff, false_iff, Int.ofNat_eq_natCast, Int.toNat_natCast] at hgood
    unfold JobOkP
    omega
  clear hgood
  refine loop_of hA (α := { i : Nat // i ≤ n ∧ ∀ k, k < i → OkAt j mark g k }) (fun x => stOk j mark n g x.1) (fun x => n - x.1) ⟨0, Nat.zero_le _, fun j h => absurd h (Nat.not_lt_zero _)⟩ ?_ ?_
  · refine cov_of ?_ ?_ ?_
    · cbv; subst hA; repeat' first | apply And.intro | exact True.intro | rfl
    · cbv; try (repeat' first | apply And.intro | exact True.intro | rfl)
    · cbv
  rintro ⟨i, hi, hk⟩
  cbv
  repeat' first
    | apply And.intro
    | exact True.intro
    | with_reducible rfl
    | exact same_of hA rfl
    | refine br_of hA (fun _ => ?_) (fun _ => ?_)
    | exact imp_of hA id
    | (refine imp_of hA ?_; subst hA; simp only [real, Bool.true_and]; exact id)
    | (refine ind_of hA ?_; decide +kernel)
    | (refine call_ex hA hM (c_rowOk _ _ _) (fun _ _ => ?_); cbv)
    | (refine call_ex hA hM (c_rcmpA _ _) (fun _ _ => ?_); cbv)
    | (refine inb_of hA fun _ => ?_; subst hA; simp only [real, Bool.and_eq_true, Bool.not_eq_true', Bool.not_eq_false', decide_eq_true_eq, Int.ofNat_eq_natCast, IntKind.wrap_i64] at *; omega)
    | (refine cut_of hA ?_; subst hA; simp only [real, decide_eq_true_eq, Int.ofNat_eq_natCast] at *; omega)
    | (refine call_ex2 hA hM (c_ContainsRow1 i (Nat.le_trans hi hn) g 100 (.p (eRow (g (A.nat (Int.ofNat i))))) _ (fun q => c_OpOk1 (g (A.nat (Int.ofNat i))) q)) (congrArg (fun d => [XT.c (.d d), XT.c (.d (.fn 100 [.p (eRow (g (A.nat (Int.ofNat i))))]))]) (sl0 hA _ _ _)) (fun _ _ => ?_); cbv)
  · rename_i hlt b1 hb1 x hx hc
    subst hA
    refine congrArg (fun b => XA.one (.c (.d (eB b)))) ?_
    simp only [real, bifA, bifB, bifC, bifD, beqB, decide_eq_true_eq, decide_eq_false_iff_not, beqI, bneI, beqIF, bneIF, ne_eq, Bool.and_eq_true, Bool.or_eq_true, Bool.not_eq_true', Bool.not_eq_false', Bool.and_eq_false_iff, Bool.or_eq_false_iff, Bool.false_eq_true, and_false, false_and, or_false, false_or, and_true, true_and, not_true_eq_false, not_false_eq_true, true_iff, false_iff, Int.ofNat_eq_natCast, Int.toNat_natCast] at hlt hb1 hx hc
    cases b with
    | false => rfl
    | true =>
      exfalso
      have h : OkAt j mark g i := (hb.1 rfl).2.2.2 i (show i < n by omega)
      rcases hc with hc | hc
      · have := hb1.2 h.1; rw [hc] at this; cases this
      · rw [down64 (by omega) (Nat.le_trans hi hn)] at hx
        have := hx.2 (h.2.1 (by omega)); omega
  · rename_i hlt b1 hb1 x hx hc b2 hb2 hc2
    subst hA
    refine congrArg (fun b => XA.one (.c (.d (eB b)))) ?_
    simp only [real, bifA, bifB, bifC, bifD, beqB, decide_eq_true_eq, decide_eq_false_iff_not, beqI, bneI, beqIF, bneIF, ne_eq, Bool.and_eq_true, Bool.or_eq_true, Bool.not_eq_true', Bool.not_eq_false', Bool.and_eq_false_iff, Bool.or_eq_false_iff, Bool.false_eq_true, and_false, false_and, or_false, false_or, and_true, true_and, not_true_eq_false, not_false_eq_true, true_iff, false_iff, Int.ofNat_eq_natCast, Int.toNat_natCast] at hlt hb2 hc2
    cases b with
    | false => rfl
    | true =>
      exfalso
      have h : OkAt j mark g i := (hb.1 rfl).2.2.2 i (show i < n by omega)
      obtain ⟨k, hk1, hk2⟩ := hb2.1 hc2.2
      exact h.2.2 hc2.1 k hk1 hk2
  · rename_i hlt b1 hb1 x hx hc b2 hb2 hc2
    have hlt' : i < n := by subst hA; simp only [real, decide_eq_true_eq, Int.ofNat_eq_natCast] at hlt; omega
    refine ⟨⟨i + 1, by omega, fun k hk' => ?_⟩, by simp only; omega, cov_of ?_ ?_ ?_⟩
    · by_cases e : k = i
      · subst e
        subst hA
        simp only [real, bifA, bifB, bifC, bifD, beqB, decide_eq_true_eq, decide_eq_false_iff_not, beqI, bneI, beqIF, bneIF, ne_eq, Bool.and_eq_true, Bool.or_eq_true, Bool.not_eq_true', Bool.not_eq_false', Bool.and_eq_false_iff, Bool.or_eq_false_iff, Bool.false_eq_true, and_false, false_and, or_false, false_or, and_true, true_and, not_true_eq_false, not_false_eq_true, true_iff, false_iff, Int.ofNat_eq_natCast, Int.toNat_natCast] at hlt hb1 hx hc hb2 hc2
        refine ⟨hb1.1 (by cases b1 <;> simp_all), fun hp => ?_, fun h3 q hq hqq => ?_⟩
        · rw [down64 hp (Nat.le_trans hi hn)] at hx
          refine hx.1 ?_
          rcases hc.2 with h | h <;> omega
        · rcases hc2 with h | h
          · exact h h3
          · have := hb2.2 ⟨q, hq, hqq⟩; rw [h] at this; cases this
      · exact hk k (by omega)
    · cbv
      subst hA
      exact ⟨congrArg (fun x => DV.v (.int .i64 x)) (up64 hlt' hn), trivial⟩
    · cbv; try (repeat' first | apply And.intro | exact True.intro | rfl)
    · cbv
  · rename_i hge
    refine congrArg (fun b => XA.one (.c (.d (eB b)))) ?_
    refine (hb.2 ⟨hpre.1, hpre.2.1, hpre.2.2, fun k hk' => ?_⟩).symm
    have hk' : k < n := hk'
    exact hk k (by subst hA; simp only [real, decide_eq_false_iff_not, Int.ofNat_eq_natCast] at hge; omega)
end Go.Rk
/- Counts and least numbers. -/
namespace Go.Rk
set_option linter.unusedSimpArgs false
set_option linter.unusedVariables false
theorem room_add {A : Ar} (hA : real = A) {n m b : Nat} (hn : n + m ≤ 1048577) (hb : b ≤ 100000) : A.room (A.add n m) b := by
  subst hA
  have h1 : (n + m) * b ≤ 1048577 * 100000 := Nat.mul_le_mul hn hb
  exact ⟨Nat.le_trans h1 (by omega), Nat.le_trans hn (by omega)⟩
/-- One row more at the end. -/
theorem push_at {A : Ar} (hA : real = A) (n : Nat) (row : Nat → List DV) (x : List DV) (z : Nat → List DV) (k : Nat) (hk : k < n + 1) : A.app n row (A.sub 0 (A.app 1 (A.rep x) z)) k = if k < n then row k else x := by
  subst hA
  show (if k < n then row k else (if 0 + (k - n) < 1 then x else z (0 + (k - n) - 1))) = _
  split
  · rfl
  · rw [if_pos (by omega)]
theorem room_n {A : Ar} (hA : real = A) {n b : Nat} (hn : n ≤ 1048577) (hb : b ≤ 100000) : A.room n b := by
  subst hA
  have h1 : n * b ≤ 1048577 * 100000 := Nat.mul_le_mul hn hb
  exact ⟨by omega, by omega⟩
end Go.Rk
/- Windows of a time, and pairs of records and windows, as lists. -/
namespace Go.Rk
set_option linter.unusedSimpArgs false
set_option linter.unusedVariables false
def zWin : WinT := ⟨0, 0⟩
def zLat : LatT := ⟨⟨0, 0, 0, 0, 0⟩, ⟨0, 0⟩⟩
def slideF (size step t : Int) : Nat → Int → List WinT
  | 0, _ => []
  | k + 1, f => if f ≤ t then (if t < f + size then [⟨f, f + size⟩] else []) ++ slideF size step t k (f + step) else []
theorem slideF_len (size step t : Int) : ∀ k f, (slideF size step t k f).length ≤ k
  | 0, _ => Nat.le_refl _
  | k + 1, f => by
    have := slideF_len size step t k (f + step)
    unfold slideF
    split
    · rw [List.length_append]
      split <;> simp <;> omega
    · simp
theorem slideF_st {size step t : Int} (hs : 1 ≤ step) : ∀ k f, (t + 1 - f).toNat ≤ k → slideF size step t (k + 1) f = slideF size step t k f
  | 0, f, h => by
    unfold slideF
    rw [if_neg (by omega)]
  | k + 1, f, h => by
    have ih := slideF_st (size := size) (t := t) hs k (f + step)
    unfold slideF
    by_cases hf : f ≤ t
    · rw [if_pos hf, if_pos hf, ih (by omega)]
    · rw [if_neg hf, if_neg hf]
/-- One step of it, with room to spare. -/
theorem slideF_go {size step t f : Int} (hs : 1 ≤ step) (h0 : 0 ≤ f) (h1 : t ≤ 60) (hf : f ≤ t) : slideF size step t 100 f = (if t < f + size then [⟨f, f + size⟩] else []) ++ slideF size step t 100 (f + step) := by
  have e : slideF size step t 100 (f + step) = slideF size step t 99 (f + step) := slideF_st hs 99 (f + step) (by omega)
  rw [e]
  show slideF size step t (99 + 1) f = _
  unfold slideF
  rw [if_pos hf]
  rfl
theorem slideF_end {size step t f : Int} (hf : ¬ f ≤ t) : slideF size step t 100 f = [] := by
  show slideF size step t (99 + 1) f = _
  unfold slideF
  rw [if_neg hf]
def winFrom (j : JobT) (t : Int) : Int := if j.kind = 1 then t - t.tmod j.size else if j.kind = 2 then 0 else t
def winStep (j : JobT) : Int := if j.kind = 1 then j.size else if j.kind = 2 then j.step else 1
def winsL (j : JobT) (t : Int) : List WinT := slideF j.size (winStep j) t 100 (winFrom j t)
theorem winsL_len (j : JobT) (t : Int) : (winsL j t).length ≤ 100 := slideF_len _ _ _ _ _
theorem winsL_fixed {j : JobT} {t : Int} (hk : j.kind = 1) (hs : 1 ≤ j.size) (h0 : 0 ≤ t) (h1 : t ≤ 60) : winsL j t = [⟨t - t.tmod j.size, t - t.tmod j.size + j.size⟩] := by
  have a := Int.tmod_nonneg j.size h0
  have b := Int.tmod_lt_of_pos t (show 0 < j.size by omega)
  have c : t.tmod j.size ≤ t := by
    rw [Int.tmod_eq_emod_of_nonneg h0]
    have := Int.emod_add_mul_ediv t j.size
    have := Int.mul_nonneg (show 0 ≤ j.size by omega) (Int.ediv_nonneg h0 (show 0 ≤ j.size by omega))
    omega
  unfold winsL winStep winFrom
  rw [if_pos hk, if_pos hk, slideF_go hs (by omega) h1 (by omega), if_pos (by omega), slideF_end (by omega)]
  rfl
theorem winsL_sess {j : JobT} {t : Int} (hk : j.kind = 3) (hs : 1 ≤ j.size) (h0 : 0 ≤ t) (h1 : t ≤ 60) : winsL j t = [⟨t, t + j.size⟩] := by
  unfold winsL winStep winFrom
  rw [if_neg (by omega), if_neg (by omega), if_neg (by omega), if_neg (by omega), slideF_go (by omega) h0 h1 (by omega), if_pos (by omega), slideF_end (by omega)]
  rfl
def RecP (x : ItmT) : Prop := x.kind = 1 ∧ ItmOkP x
theorem recP_t {x : ItmT} (h : RecP x) : 0 ≤ x.t ∧ x.t ≤ 60 := by
  obtain ⟨h1, h2⟩ := h
  unfold ItmOkP at h2
  omega
/-- The list that so many rows tell. -/
def Tells {α : Type} (z : α) (e : α → List DV) (l : List α) (n : Nat) (row : Nat → List DV) : Prop := n = l.length ∧ ∀ k, k < n → row k = e (l.getD k z)
theorem tells_snoc {α : Type} {z : α} {e : α → List DV} {l : List α} {n : Nat} {row row' : Nat → List DV} {x : α} (h : Tells z e l n row)
    (h' : ∀ k, k < n + 1 → row' k = if k < n then row k else e x) : Tells z e (l ++ [x]) (n + 1) row' := by
  obtain ⟨rfl, h2⟩ := h
  refine ⟨by simp, fun k hk => ?_⟩
  rw [h' k hk]
  by_cases hl : k < l.length
  · rw [if_pos hl, h2 k hl, List.getD_eq_getElem?_getD, List.getD_eq_getElem?_getD, List.getElem?_append_left hl]
  · have : k = l.length := by omega
    subst this
    rw [if_neg hl]
    simp
theorem take_succ_getD {α : Type} {z : α} {l : List α} {k : Nat} (h : k < l.length) : l.take (k + 1) = l.take k ++ [l.getD k z] := by
  rw [List.take_add_one, List.getElem?_eq_getElem h, List.getD_eq_getElem?_getD, List.getElem?_eq_getElem h]
  rfl
end Go.Rk
/- Rows of a table, as lists. -/
namespace Go.Rk
set_option linter.unusedSimpArgs false
set_option linter.unusedVariables false
def zTab : TabT := ⟨0, ⟨0, 0⟩, ⟨0, 0, 0, 0⟩⟩
def IsRow (key : Int) (w : WinT) (r : TabT) : Prop := r.key = key ∧ (r.win.s = w.s ∧ r.win.e = w.e)
instance (key : Int) (w : WinT) (r : TabT) : Decidable (IsRow key w r) := inferInstanceAs (Decidable (_ ∧ _))
def Ahead (r q : TabT) : Prop := r.key < q.key ∨ (r.key = q.key ∧ (r.win.s < q.win.s ∨ (r.win.s = q.win.s ∧ r.win.e < q.win.e)))
instance (r q : TabT) : Decidable (Ahead r q) := inferInstanceAs (Decidable (_ ∨ _))
/-- A list, by its number and its members. -/
def Lst {α : Type} (z : α) (l : List α) (n : Nat) (g : Nat → α) : Prop := n = l.length ∧ ∀ k, k < n → g k = l.getD k z
theorem lst_self {α : Type} (z : α) (l : List α) : Lst z l l.length (fun k => l.getD k z) := ⟨rfl, fun _ _ => rfl⟩
theorem lst_tells {α : Type} {z : α} {l : List α} {n : Nat} {g : Nat → α} (e : α → List DV) (h : Lst z l n g) : Tells z e l n (fun i => e (g i)) := ⟨h.1, fun k hk => congrArg e (h.2 k hk)⟩
theorem lst_take {α : Type} {z : α} {l : List α} {n : Nat} {g : Nat → α} (h : Lst z l n g) {i : Nat} (hi : i < n) : l.take (i + 1) = l.take i ++ [g i] := by
  rw [h.2 i hi]
  exact take_succ_getD (by rw [← h.1]; exact hi)
theorem lst_all {α : Type} {z : α} {l : List α} {n : Nat} {g : Nat → α} (h : Lst z l n g) : l.take n = l := by rw [h.1, List.take_length]
theorem lst_drop {α : Type} {z : α} {l : List α} {n : Nat} {g : Nat → α} (h : Lst z l n g) {i : Nat} (hi : i < n) : l.drop i = g i :: l.drop (i + 1) := by
  have hl : i < l.length := by rw [← h.1]; exact hi
  rw [List.drop_eq_getElem_cons hl, h.2 i hi, List.getD_eq_getElem?_getD, List.getElem?_eq_getElem hl]
  rfl
theorem lst_mem {α : Type} {z : α} {l : List α} {n : Nat} {g : Nat → α} (h : Lst z l n g) {x : α} (hx : x ∈ l) : ∃ k, k < n ∧ g k = x := by
  obtain ⟨k, hk⟩ := List.mem_iff_getElem?.1 hx
  have hl : k < l.length := (List.getElem?_eq_some_iff.1 hk).1
  refine ⟨k, by rw [h.1]; exact hl, ?_⟩
  rw [h.2 k (by rw [h.1]; exact hl), List.getD_eq_getElem?_getD, hk]
  rfl
/-- From a function that has so many members. -/
theorem lst_of {α : Type} (z : α) (n : Nat) (g : Nat → α) : Lst z ((List.range n).map g) n g := by
  refine ⟨by simp, fun k hk => ?_⟩
  rw [List.getD_eq_getElem?_getD, List.getElem?_map, List.getElem?_range hk]
  rfl
def tOut (key : Int) (w : WinT) : List TabT → List TabT
  | [] => []
  | r :: l => if IsRow key w r then tOut key w l else r :: tOut key w l
theorem tOut_app (key : Int) (w : WinT) : ∀ l m, tOut key w (l ++ m) = tOut key w l ++ tOut key w m
  | [], _ => rfl
  | r :: l, m => by
    show (if IsRow key w r then tOut key w (l ++ m) else r :: tOut key w (l ++ m)) = _
    rw [tOut_app key w l m]
    show _ = (if IsRow key w r then tOut key w l else r :: tOut key w l) ++ tOut key w m
    split <;> rfl
theorem tOut_len (key : Int) (w : WinT) : ∀ l, (tOut key w l).length ≤ l.length
  | [] => Nat.le_refl _
  | r :: l => by
    have := tOut_len key w l
    show (if IsRow key w r then tOut key w l else r :: tOut key w l).length ≤ _
    split <;> simp <;> omega
theorem tOut_in {key : Int} {w : WinT} {r : TabT} : ∀ {l : List TabT}, r ∈ tOut key w l ↔ r ∈ l ∧ ¬ IsRow key w r
  | [] => ⟨fun h => absurd h (List.not_mem_nil), fun h => absurd h.1 (List.not_mem_nil)⟩
  | q :: l => by
    show r ∈ (if IsRow key w q then tOut key w l else q :: tOut key w l) ↔ _
    split
    · rename_i h
      rw [tOut_in, List.mem_cons]
      constructor
      · rintro ⟨h1, h2⟩; exact ⟨.inr h1, h2⟩
      · rintro ⟨rfl | h1, h2⟩
        · exact absurd h h2
        · exact ⟨h1, h2⟩
    · rename_i h
      rw [List.mem_cons, List.mem_cons, tOut_in]
      constructor
      · rintro (rfl | ⟨h1, h2⟩)
        · exact ⟨.inl rfl, h⟩
        · exact ⟨.inr h1, h2⟩
      · rintro ⟨rfl | h1, h2⟩
        · exact .inl rfl
        · exact .inr ⟨h1, h2⟩
def tIns (r : TabT) : List TabT → List TabT
  | [] => [r]
  | q :: l => if Ahead r q then r :: q :: l else q :: tIns r l
theorem tIns_len (r : TabT) : ∀ l, (tIns r l).length = l.length + 1
  | [] => rfl
  | q :: l => by
    have := tIns_len r l
    show (if Ahead r q then r :: q :: l else q :: tIns r l).length = _
    split <;> simp <;> omega
/-- At the first place that it stands ahead of. -/
theorem tIns_at (r : TabT) : ∀ (l : List TabT) (i : Nat), (∀ x, x ∈ l.take i → ¬ Ahead r x) → (∀ x, l[i]? = some x → Ahead r x) → i ≤ l.length → tIns r l = l.take i ++ r :: l.drop i
  | [], i, _, _, h => by
    have : i = 0 := by simpa using h
    subst this
    rfl
  | q :: l, 0, _, h2, _ => by
    show (if Ahead r q then r :: q :: l else q :: tIns r l) = _
    rw [if_pos (h2 q rfl)]
    rfl
  | q :: l, i + 1, h1, h2, h3 => by
    show (if Ahead r q then r :: q :: l else q :: tIns r l) = _
    rw [if_neg (h1 q (by simp)), tIns_at r l i (fun x hx => h1 x (by rw [List.take_succ_cons]; exact List.mem_cons_of_mem _ hx)) (fun x hx => h2 x hx) (by simpa using h3)]
    rfl
def tPut (r : TabT) (l : List TabT) : List TabT := tIns r (tOut r.key r.win l)
theorem tPut_len (r : TabT) (l : List TabT) : (tPut r l).length ≤ l.length + 1 := by
  unfold tPut
  rw [tIns_len]
  have := tOut_len r.key r.win l
  omega
def tFind (key : Int) (w : WinT) : List TabT → Option AggT
  | [] => none
  | r :: l => if IsRow key w r then some r.agg else tFind key w l
theorem tFind_app (key : Int) (w : WinT) (r : TabT) : ∀ l m, (∀ x, x ∈ l → ¬ IsRow key w x) → tFind key w (l ++ m) = tFind key w m
  | [], _, _ => rfl
  | q :: l, m, h => by
    show (if IsRow key w q then some q.agg else tFind key w (l ++ m)) = _
    rw [if_neg (h q (by simp)), tFind_app key w r l m fun x hx => h x (List.mem_cons_of_mem _ hx)]
theorem room_add2 {A : Ar} (hA : real = A) {n m b : Nat} (hn : n + m ≤ 2000000) (hb : b ≤ 100000) : A.room (A.add n m) b := by
  subst hA
  have h1 : (n + m) * b ≤ 2000000 * 100000 := Nat.mul_le_mul hn hb
  exact ⟨Nat.le_trans h1 (by omega), Nat.le_trans hn (by omega)⟩
theorem lt_of {A : Ar} (hA : real = A) {i n : Nat} (h : A.cmp .lss (Int.ofNat i) (A.int n) = true) : i < n := by
  subst hA
  have h : decide ((i : Int) < (n : Int)) = true := h
  rw [decide_eq_true_eq] at h
  omega
theorem ge_of {A : Ar} (hA : real = A) {i n : Nat} (h : A.cmp .lss (Int.ofNat i) (A.int n) = false) : n ≤ i := by
  subst hA
  have h : decide ((i : Int) < (n : Int)) = false := h
  rw [decide_eq_false_iff_not] at h
  omega
theorem inb_lt {A : Ar} (hA : real = A) {g : Bool} {i n : Nat} (h : i < n) : A.inb g (Int.ofNat i) n := by
  refine inb_of hA fun _ => ?_
  have e : Int.ofNat i = (i : Int) := rfl
  rw [e]
  omega
def zAgg : AggT := ⟨0, 0, 0, 0⟩
/-- A row that is put in its place, told by numbers. -/
theorem tIns_lst {r : TabT} {l : List TabT} {n0 n1 i : Nat} {G0 G : Nat → TabT} (h0 : Lst zTab l n0 G0) (h1 : Lst zTab (tIns r l) n1 G) (hi : i ≤ n0) (ha : ∀ k, k < i → ¬ Ahead r (G0 k)) (hb : i < n0 → Ahead r (G0 i)) :
    n1 = n0 + 1 ∧ ∀ k, k < n0 + 1 → G k = if k < i then G0 k else if k = i then r else G0 (k - 1) := by
  have e : tIns r l = l.take i ++ r :: l.drop i := by
    refine tIns_at r l i (fun x hx => ?_) (fun x hx => ?_) (by rw [← h0.1]; exact hi)
    · obtain ⟨k, hk⟩ := List.mem_iff_getElem?.1 hx
      rw [List.getElem?_take] at hk
      split at hk
      · rename_i hki
        have := h0.2 k (by omega)
        rw [List.getD_eq_getElem?_getD, hk] at this
        have := ha k hki
        simp_all
      · cases hk
    · have hin : i < n0 := by rw [h0.1]; exact (List.getElem?_eq_some_iff.1 hx).1
      have := h0.2 i hin
      rw [List.getD_eq_getElem?_getD, hx] at this
      have := hb hin
      simp_all
  have hlen := tIns_len r l
  have hn1 : n1 = n0 + 1 := by rw [h1.1, hlen, h0.1]
  refine ⟨hn1, fun k hk => ?_⟩
  have htl : (l.take i).length = i := by rw [List.length_take, ← h0.1]; omega
  rw [h1.2 k (by omega), e, List.getD_eq_getElem?_getD]
  by_cases hki : k < i
  · rw [if_pos hki, List.getElem?_append_left (by omega), List.getElem?_take, if_pos hki, h0.2 k (by omega), List.getD_eq_getElem?_getD]
  · rw [if_neg hki, List.getElem?_append_right (by omega), htl]
    by_cases hk2 : k = i
    · rw [if_pos hk2, hk2, Nat.sub_self]; rfl
    · rw [if_neg hk2, show k - i = (k - 1 - i) + 1 by omega, List.getElem?_cons_succ, List.getElem?_drop, show i + (k - 1 - i) = k - 1 by omega, h0.2 (k - 1) (by omega), List.getD_eq_getElem?_getD]
theorem tFind_first {key : Int} {w : WinT} {l : List TabT} {n i : Nat} {g : Nat → TabT} (h : Lst zTab l n g) (hi : i < n) (hq : IsRow key w (g i)) (hb : ∀ k, k < i → ¬ IsRow key w (g k)) : tFind key w l = some (g i).agg := by
  have e : l = l.take i ++ l.drop i := (List.take_append_drop i l).symm
  rw [e, tFind_app key w (g i) _ _ (fun x hx => ?_), lst_drop h hi]
  · show (if IsRow key w (g i) then some (g i).agg else _) = _
    rw [if_pos hq]
  · obtain ⟨k, hk⟩ := List.mem_iff_getElem?.1 hx
    rw [List.getElem?_take] at hk
    split at hk
    · rename_i hki
      have h2 := h.2 k (by omega)
      rw [List.getD_eq_getElem?_getD, hk] at h2
      have h2 : g k = x := h2
      rw [← h2]
      exact hb k hki
    · cases hk
theorem tFind_none {key : Int} {w : WinT} {l : List TabT} {n : Nat} {g : Nat → TabT} (h : Lst zTab l n g) (hb : ∀ k, k < n → ¬ IsRow key w (g k)) : tFind key w l = none := by
  have := tFind_app key w zTab l [] (fun x hx => by obtain ⟨k, hk, rfl⟩ := lst_mem h hx; exact hb k hk)
  rw [List.append_nil] at this
  rw [this]; rfl
end Go.Rk
/- What is known of values, by lists; tables that records lead to. -/
namespace Go.Rk
set_option linter.unusedSimpArgs false
set_option linter.unusedVariables false
def aggB (a b : AggT) : AggT := if a.n = 0 then b else if b.n = 0 then a else ⟨w64 (a.n + b.n), w64 (a.sum + b.sum), if b.least < a.least then b.least else a.least, if a.most < b.most then b.most else a.most⟩
def agg1 (v : Int) : AggT := ⟨1, v, v, v⟩
def aggAdd (a : AggT) (v : Int) : AggT := aggB a (agg1 v)
theorem aggB_z (a : AggT) : aggB zAgg a = a := rfl
def sumI : List Int → Int
  | [] => 0
  | x :: l => x + sumI l
/-- What is known of just these values. -/
structure AggIs (a : AggT) (L : List Int) : Prop where
  n : a.n = (L.length : Int)
  sum : a.sum = sumI L
  z : L = [] → a = zAgg
  nz : L ≠ [] → a.least ∈ L ∧ a.most ∈ L ∧ ∀ x, x ∈ L → a.least ≤ x ∧ x ≤ a.most
theorem w64_in (x : Int) (h : -9223372036854775808 ≤ x ∧ x ≤ 9223372036854775807) : w64 x = x := IntWalk.i64_in x h
theorem ahead_tr (a b c : TabT) (h : Ahead a b) (h' : Ahead b c) : Ahead a c := by unfold Ahead at *; omega
theorem ahead_tot {r q : TabT} (h : ¬ Ahead r q) (h' : ¬ IsRow r.key r.win q) : Ahead q r := by unfold Ahead at *; unfold IsRow at h'; omega
abbrev Rise (l : List TabT) : Prop := l.Pairwise Ahead
theorem mem_tIns {r x : TabT} : ∀ {l : List TabT}, x ∈ tIns r l ↔ x = r ∨ x ∈ l
  | [] => by simp [tIns]
  | q :: l => by
    show x ∈ (if Ahead r q then r :: q :: l else q :: tIns r l) ↔ _
    split
    · simp
    · rw [List.mem_cons, mem_tIns, List.mem_cons]
      exact ⟨fun h => h.elim (fun e => .inr (.inl e)) (fun h => h.imp id .inr), fun h => h.elim (fun e => .inr (.inl e)) (fun h => h.elim .inl fun h => .inr (.inr h))⟩
theorem rise_tIns {r : TabT} : ∀ {l : List TabT}, Rise l → (∀ q, q ∈ l → ¬ IsRow r.key r.win q) → Rise (tIns r l)
  | [], _, _ => by simp [tIns, Rise]
  | q :: l, h, hn => by
    have h' := h
    rw [Rise, List.pairwise_cons] at h
    show Rise (if Ahead r q then r :: q :: l else q :: tIns r l)
    split
    · rename_i ha
      rw [Rise, List.pairwise_cons]
      refine ⟨fun x hx => ?_, h'⟩
      rcases List.mem_cons.1 hx with rfl | hx
      · exact ha
      · exact ahead_tr _ _ _ ha (h.1 x hx)
    · rename_i ha
      rw [Rise, List.pairwise_cons]
      refine ⟨fun x hx => ?_, rise_tIns h.2 fun y hy => hn y (List.mem_cons_of_mem _ hy)⟩
      rcases mem_tIns.1 hx with rfl | hx
      · exact ahead_tot ha (hn q (by simp))
      · exact h.1 x hx
theorem tOut_filter (key : Int) (w : WinT) : ∀ l, tOut key w l = l.filter fun r => !decide (IsRow key w r)
  | [] => rfl
  | r :: l => by
    show (if IsRow key w r then tOut key w l else r :: tOut key w l) = _
    rw [List.filter_cons, tOut_filter key w l]
    by_cases h : IsRow key w r <;> simp [h]
theorem rise_tOut {key : Int} {w : WinT} {l : List TabT} (h : Rise l) : Rise (tOut key w l) := by
  rw [tOut_filter]; exact h.sublist List.filter_sublist
theorem mem_tPut {r x : TabT} {l : List TabT} : x ∈ tPut r l ↔ x = r ∨ (x ∈ l ∧ ¬ IsRow r.key r.win x) := by
  unfold tPut; rw [mem_tIns, tOut_in]
theorem rise_tPut {r : TabT} {l : List TabT} (h : Rise l) : Rise (tPut r l) := rise_tIns (rise_tOut h) fun _ hq => (tOut_in.1 hq).2
theorem tFind_some {key : Int} {w : WinT} {a : AggT} : ∀ {l : List TabT}, tFind key w l = some a → ∃ r, r ∈ l ∧ IsRow key w r ∧ r.agg = a
  | [], h => by cases h
  | r :: l, h => by
    have h : (if IsRow key w r then some r.agg else tFind key w l) = some a := h
    split at h
    · rename_i hr
      exact ⟨r, by simp, hr, by simpa using h⟩
    · obtain ⟨q, h1, h2⟩ := tFind_some h
      exact ⟨q, List.mem_cons_of_mem _ h1, h2⟩
theorem tFind_no {key : Int} {w : WinT} : ∀ {l : List TabT}, tFind key w l = none → ∀ r, r ∈ l → ¬ IsRow key w r
  | [], _, r, hr => by simp at hr
  | q :: l, h, r, hr => by
    have h : (if IsRow key w q then some q.agg else tFind key w l) = none := h
    split at h
    · cases h
    · rename_i hq
      rcases List.mem_cons.1 hr with rfl | hr
      · exact hq
      · exact tFind_no h r hr
end Go.Rk
/- Tables of pairs of records and windows: what they say, and that they hang on no order. -/
namespace Go.Rk
set_option linter.unusedSimpArgs false
set_option linter.unusedVariables false
def winSpan (a b : WinT) : WinT := ⟨if b.s < a.s then b.s else a.s, if a.e < b.e then b.e else a.e⟩
def valsW (k : Int) (w : WinT) (P : List LatT) : List Int := (P.filter fun l => decide (l.itm.key = k ∧ l.win.s = w.s ∧ l.win.e = w.e)).map (·.itm.v)
def valsS (k : Int) (w : WinT) (P : List LatT) : List Int := (P.filter fun l => decide (l.itm.key = k ∧ w.s ≤ l.win.s ∧ l.win.s < w.e)).map (·.itm.v)
/-! ## Windows that do not grow -/
structure InvW (P : List LatT) (T : List TabT) : Prop where
  rise : Rise T
  row : ∀ r, r ∈ T → valsW r.key r.win P ≠ [] ∧ AggIs r.agg (valsW r.key r.win P)
  has : ∀ l, l ∈ P → ∃ r, r ∈ T ∧ IsRow l.itm.key l.win r
/-! ## Sessions -/
def CovP (P : List LatT) (k p : Int) : Prop := ∃ l, l ∈ P ∧ l.itm.key = k ∧ l.win.s < p ∧ p < l.win.e
structure SessP (P : List LatT) (r : TabT) : Prop where
  lt : r.win.s < r.win.e
  fst : ∃ l, l ∈ P ∧ l.itm.key = r.key ∧ l.win.s = r.win.s
  lst : ∃ l, l ∈ P ∧ l.itm.key = r.key ∧ l.win.e = r.win.e
  mid : ∀ p, r.win.s < p → p < r.win.e → CovP P r.key p
  low : ¬ CovP P r.key r.win.s
  top : ¬ CovP P r.key r.win.e
  agg : AggIs r.agg (valsS r.key r.win P)
structure InvS (P : List LatT) (T : List TabT) : Prop where
  rise : Rise T
  row : ∀ r, r ∈ T → SessP P r
  has : ∀ l, l ∈ P → ∃ r, r ∈ T ∧ r.key = l.itm.key ∧ r.win.s ≤ l.win.s ∧ l.win.e ≤ r.win.e
end Go.Rk
/- Draws. -/
namespace Go.Rk
set_option linter.unusedSimpArgs false
set_option linter.unusedVariables false
theorem br_t {A : Ar} (hA : real = A) {t : Bool} {p q : Prop} (h : t = true) (hp : p) : A.br t p q := by subst hA; exact ⟨fun _ => hp, fun h2 => by rw [h] at h2; cases h2⟩
theorem br_f {A : Ar} (hA : real = A) {t : Bool} {p q : Prop} (h : t = false) (hq : q) : A.br t p q := by subst hA; exact ⟨fun h2 => (by rw [h] at h2; cases h2), fun _ => hq⟩
abbrev eU (n : Int) : DV := .v (.int .u8 n)
def pickY (m : Nat) (b : Nat → Int) (p : Int) : Int := b (p.tmod m).toNat * 131 + b ((p * 7 + 3).tmod m).toNat * 1117 + p * 29 + p.tdiv m * 53
def pickX (y : Int) : Int := IntKind.i64.wrap (BitVec.ofInt 64 y ^^^ BitVec.ofInt 64 (y.tdiv 64)).toNat
def pickV (m : Nat) (b : Nat → Int) (p n : Int) : Int := if m = 0 then 0 else if p < m then (b p.toNat).tmod n else (pickX (pickY m b p)).tmod n
theorem xor_nn {a b : Int} (h0 : 0 ≤ a ∧ a < 4611686018427387904) (h1 : 0 ≤ b ∧ b < 4611686018427387904) : 0 ≤ ((BitVec.ofInt 64 a ^^^ BitVec.ofInt 64 b).toNat : Int) ∧ ((BitVec.ofInt 64 a ^^^ BitVec.ofInt 64 b).toNat : Int) < 4611686018427387904 := by
  have e : ∀ c : Int, 0 ≤ c ∧ c < 4611686018427387904 → (BitVec.ofInt 64 c).toNat < 2 ^ 62 := fun c hc => by
    rw [BitVec.toNat_ofInt]
    have h64 : ((2 ^ 64 : Nat) : Int) = 18446744073709551616 := by decide
    have h62 : (2 : Nat) ^ 62 = 4611686018427387904 := by decide
    rw [h64, h62]
    omega
  have h := Nat.xor_lt_two_pow (e a h0) (e b h1)
  rw [← BitVec.toNat_xor] at h
  have : (2 : Nat) ^ 62 = 4611686018427387904 := by decide
  exact ⟨by omega, by omega⟩
theorem tmod_in {a n : Int} (ha : 0 ≤ a) (hn : 1 ≤ n) : 0 ≤ a.tmod n ∧ a.tmod n < n := ⟨Int.tmod_nonneg n ha, Int.tmod_lt_of_pos a (by omega)⟩
theorem pickY_in {m : Nat} {b : Nat → Int} {p : Int} (hm : 1 ≤ m) (hb : ∀ i, 0 ≤ b i ∧ b i ≤ 255) (hp : 0 ≤ p ∧ p ≤ 1000000) : 0 ≤ pickY m b p ∧ pickY m b p ≤ 1000000000 := by
  unfold pickY
  have h1 := hb (p.tmod m).toNat
  have h2 := hb ((p * 7 + 3).tmod m).toNat
  have h3 : 0 ≤ p.tdiv m := Int.tdiv_nonneg hp.1 (by omega)
  have h4 : p.tdiv m ≤ p := by
    have := Int.tdiv_le_self (a := p) m hp.1
    exact this
  omega
theorem pickV_in {m : Nat} {b : Nat → Int} {p n : Int} (hb : ∀ i, 0 ≤ b i ∧ b i ≤ 255) (hp : 0 ≤ p ∧ p ≤ 1000000) (hn : 1 ≤ n) : 0 ≤ pickV m b p n ∧ pickV m b p n < n := by
  unfold pickV
  split
  · omega
  · split
    · exact tmod_in (hb _).1 hn
    · refine tmod_in ?_ hn
      have hy := pickY_in (m := m) (p := p) (by omega) hb hp
      have hd : 0 ≤ (pickY m b p).tdiv 64 := Int.tdiv_nonneg hy.1 (by decide)
      have hd2 : (pickY m b p).tdiv 64 ≤ pickY m b p := Int.tdiv_le_self 64 hy.1
      have hx := xor_nn (a := pickY m b p) (b := (pickY m b p).tdiv 64) ⟨hy.1, by omega⟩ ⟨hd, by omega⟩
      unfold pickX
      rw [IntWalk.i64_in _ (by omega)]
      exact hx.1
end Go.Rk
/- Tables of panes. -/
namespace Go.Rk
set_option linter.unusedSimpArgs false
set_option linter.unusedVariables false
theorem sub0r (f : Nat → List DV) : real.sub 0 f = f := sub0 rfl f
def zPane : PaneT := ⟨0, ⟨0, 0⟩, 0, 0, ⟨0, 0, 0, 0⟩⟩
def ofAgg (piece : Bool) (T : List TabT) (p : PaneT) : AggT := if piece = true then aggB ((tFind p.key p.win T).getD zAgg) p.agg else p.agg
def ofStep (piece : Bool) (T : List TabT) (p : PaneT) : List TabT := if p.kind = 3 then tOut p.key p.win T else tPut ⟨p.key, p.win, ofAgg piece T p⟩ T
def ofL (piece : Bool) (l : List PaneT) : List TabT := l.foldl (ofStep piece) []
theorem ofL_snoc (piece : Bool) (l : List PaneT) (p : PaneT) : ofL piece (l ++ [p]) = ofStep piece (ofL piece l) p := by unfold ofL; rw [List.foldl_append]; rfl
theorem ofStep_len (piece : Bool) (T : List TabT) (p : PaneT) : (ofStep piece T p).length ≤ T.length + 1 := by
  unfold ofStep
  split
  · exact Nat.le_succ_of_le (tOut_len _ _ _)
  · exact tPut_len _ _
theorem ofFold_len (piece : Bool) : ∀ (l : List PaneT) (T : List TabT), (l.foldl (ofStep piece) T).length ≤ T.length + l.length
  | [], T => Nat.le_refl _
  | p :: l, T => by
    have h1 := ofFold_len piece l (ofStep piece T p)
    have h2 := ofStep_len piece T p
    rw [List.foldl_cons, List.length_cons]; omega
theorem ofL_len (piece : Bool) (l : List PaneT) : (ofL piece l).length ≤ l.length := by have := ofFold_len piece l []; simpa [ofL] using this
/-- A list, given its number and its members. -/
theorem lst_ex {α : Type} (z : α) (l : List α) : ∃ (n : Nat) (g : Nat → α), Lst z l n g := ⟨_, _, lst_self z l⟩
theorem lst_snoc {α : Type} {z : α} {l : List α} {n : Nat} {g : Nat → α} {x : α} (h : Lst z l n g) : Lst z (l ++ [x]) (n + 1) (fun q => if q < n then g q else x) := by
  obtain ⟨rfl, h2⟩ := h
  refine ⟨by simp, fun k hk => ?_⟩
  by_cases hl : k < l.length
  · simp only [if_pos hl]
    rw [h2 k hl, List.getD_eq_getElem?_getD, List.getD_eq_getElem?_getD, List.getElem?_append_left hl]
  · have : k = l.length := by omega
    subst this
    simp
/-- One row more at the end, told by its own shape. -/
theorem push_if {A : Ar} {α : Type} (e : α → List DV) (hA : real = A) (n : Nat) (G : Nat → α) (x : α) (z : Nat → List DV) (k : Nat) (hk : k < n + 1) : A.app n (fun i => e (G i)) (A.sub 0 (A.app 1 (A.rep (e x)) z)) k = e (if k < n then G k else x) := by
  subst hA
  show (if k < n then e (G k) else (if 0 + (k - n) < 1 then e x else z (0 + (k - n) - 1))) = _
  split
  · rfl
  · rw [if_pos (by omega)]
theorem lt2_of {A : Ar} (hA : real = A) {i n : Nat} (h : A.cmp .lss (Int.ofNat i) (Int.ofNat n) = true) : i < n := by
  subst hA
  have h : decide ((i : Int) < (n : Int)) = true := h
  rw [decide_eq_true_eq] at h
  omega
theorem ge2_of {A : Ar} (hA : real = A) {i n : Nat} (h : A.cmp .lss (Int.ofNat i) (Int.ofNat n) = false) : n ≤ i := by
  subst hA
  have h : decide ((i : Int) < (n : Int)) = false := h
  rw [decide_eq_false_iff_not] at h
  omega
theorem eq_of {A : Ar} (hA : real = A) {a b : Int} (h : A.cmp .eql a b = true) : a = b := by subst hA; exact of_decide_eq_true h
theorem ne_of {A : Ar} (hA : real = A) {a b : Int} (h : A.cmp .eql a b = false) : ¬ a = b := by subst hA; exact of_decide_eq_false h
end Go.Rk
/- What a mark does to rows, in plain words. -/
namespace Go.Rk
set_option linter.unusedSimpArgs false
set_option linter.unusedVariables false
def dueB (m : Int) (r : RowT) : Bool := !r.timely && decide (r.win.e ≤ m)
def toldR (r : RowT) : RowT := { r with told := w64 (r.told + 1), timely := true, fresh := zAgg }
def paneP (piece : Bool) (r : RowT) (kind : Int) : PaneT := ⟨r.key, r.win, r.told, kind, if piece = true then r.fresh else r.all⟩
def markR (m : Int) (r : RowT) : RowT := if dueB m r = true then toldR r else r
def overB (late m : Int) (r : RowT) : Bool := decide (m ≥ w64 (r.win.e + late))
/-- The rows that stay behind a mark, and what it tells. -/
def keepL (late m : Int) (l : List RowT) : List RowT := (l.map (markR m)).filter fun r => !overB late m r
def tellL (piece : Bool) (m : Int) (l : List RowT) : List PaneT := (l.filter (dueB m)).map fun r => paneP piece r 1
theorem markR_win (m : Int) (r : RowT) : (markR m r).win = r.win := by unfold markR; split <;> rfl
theorem overB_mark (late m : Int) (r : RowT) : overB late m (markR m r) = overB late m r := by unfold overB; rw [markR_win]
def zRow : RowT := ⟨0, ⟨0, 0⟩, zAgg, zAgg, 0, false⟩
/-- Of the first 'j', those that are not deleted. -/
def keepN (g : Nat → RowT) (d : RowT → Bool) (j : Nat) : List RowT := ((List.range j).map g).filter fun r => !d r
theorem keepN_succ (g : Nat → RowT) (d : RowT → Bool) (j : Nat) : keepN g d (j + 1) = keepN g d j ++ if d (g j) = true then [] else [g j] := by
  unfold keepN
  rw [List.range_succ, List.map_append, List.filter_append]
  congr 1
  cases hd : d (g j) <;> simp [hd]
theorem keepN_len (g : Nat → RowT) (d : RowT → Bool) (j : Nat) : (keepN g d j).length ≤ j := by
  unfold keepN
  refine Nat.le_trans (List.length_filter_le _ _) ?_
  simp
theorem lst_push {α : Type} {z : α} {l : List α} {i : Nat} {R R' : Nat → α} {x : α} (h : Lst z l i R) (h' : ∀ q, q < i + 1 → R' q = if q = i then x else R q) : Lst z (l ++ [x]) (i + 1) R' := by
  refine ⟨by rw [h.1]; simp, fun k hk => ?_⟩
  rw [h' k hk]
  by_cases e : k = i
  · rw [if_pos e, e, h.1]
    simp [List.getD_eq_getElem?_getD]
  · rw [if_neg e, h.2 k (by omega)]
    have : k < l.length := by rw [← h.1]; omega
    simp [List.getD_eq_getElem?_getD, List.getElem?_append_left this]
theorem keepN_none {g : Nat → RowT} {d : RowT → Bool} : ∀ {j : Nat}, (∀ q, q < j → ¬ d (g q) = true) → Lst zRow (keepN g d j) j g
  | 0, _ => ⟨rfl, fun k hk => absurd hk (Nat.not_lt_zero k)⟩
  | j + 1, h => by
    rw [keepN_succ, if_neg (h j (by omega))]
    refine lst_push (keepN_none fun q hq => h q (by omega)) fun q _ => ?_
    by_cases e : q = j
    · rw [if_pos e, e]
    · rw [if_neg e]
theorem flat_row {A : Ar} (hA : real = A) (n : Nat) (G : Nat → RowT) : A.flat n fun i => eRow (G i) := by
  subst hA
  intro i hi x hx
  unfold eRow at hx
  simp only [List.mem_cons, List.not_mem_nil, or_false] at hx
  rcases hx with rfl | rfl | rfl | rfl | rfl | rfl | rfl | rfl | rfl | rfl | rfl | rfl | rfl <;> exact ⟨_, rfl⟩
/-- What is told of the first 'i' rows. -/
def tellN (piece : Bool) (m : Int) (g : Nat → RowT) (i : Nat) : List PaneT := tellL piece m ((List.range i).map g)
theorem tellN_succ (piece : Bool) (m : Int) (g : Nat → RowT) (i : Nat) : tellN piece m g (i + 1) = tellN piece m g i ++ if dueB m (g i) = true then [paneP piece (g i) 1] else [] := by
  unfold tellN tellL
  rw [List.range_succ, List.map_append, List.filter_append, List.map_append]
  congr 1
  cases hd : dueB m (g i) <;> simp [hd]
theorem tellN_len (piece : Bool) (m : Int) (g : Nat → RowT) (i : Nat) : (tellN piece m g i).length ≤ i := by
  unfold tellN tellL
  rw [List.length_map]
  refine Nat.le_trans (List.length_filter_le _ _) ?_
  simp
def zPan : PaneT := ⟨0, ⟨0, 0⟩, 0, 0, zAgg⟩
/-- What OpMark answers: the mark, the rows, and what is told. -/
noncomputable def opMarkL (j : JobT) (s : OpStT) (m : Int) : Int × List RowT × List PaneT :=
  open Classical in
  if ¬ (OpOkP j s ∧ (0 ≤ m ∧ m ≤ 1000)) then (0, [], [])
  else if m ≤ s.mark then (s.mark, (List.range s.rows.n).map s.rows.g, [])
  else (m, keepN (fun i => markR m (s.rows.g i)) (overB j.late m) s.rows.n, tellN j.piece m s.rows.g s.rows.n)
end Go.Rk
/- Marks of operators. -/
namespace Go.Rk
set_option linter.unusedSimpArgs false
set_option linter.unusedVariables false
open Go.Proofs
set_option maxRecDepth 100000
set_option maxHeartbeats 1000000
theorem c_CloneRow (n : Nat) (hn : n ≤ 1080000) (g : Nat → RowT) : Meets Try.prog 119 [.c (.d (.sl 13 n fun i => eRow (g i)))] ⟨.one (.c (.own 13 n fun i => eRow (g i))), [none]⟩ := by
  refine meets_slice (fun h0 ad cap => ?_) (fun h1 => ?_)
  · subst h0
    cases ad with
    | none =>
      refine meets_up (res := .one (.c (.d (.v nilS)))) (UpV.nil 13 fun i => eRow (g i)) ?_
      refine meets_of (H := []) (EX := EXA) ttok mixed Try.func119 rfl (by kernel_rfl) (by decide) ?_
      generalize hA : real = A
      generalize hM : MeetsB Try.prog = M
      cbv
      repeat' first
        | exact absurd (show true = false by assumption) (by decide)
        | exact absurd (show false = true by assumption) (by decide)
        | apply And.intro
        | exact True.intro
        | with_reducible rfl
        | exact same_of hA rfl
        | refine br_of hA (fun _ => ?_) (fun _ => ?_)
        | exact imp_of hA id
        | (refine imp_of hA ?_; subst hA; simp only [real, Bool.true_and]; exact id)
        | (refine ind_of hA ?_; decide +kernel)
    | some ad =>
      refine meets_up (res := .one (.c (.own 13 0 fun i => (real.rep ([0,0,0,0,0,0,0,0,0,0,0,0].map eI ++ [eB false]) i)))) (UpV.row fun i hi => absurd hi (Nat.not_lt_zero i)) ?_
      refine meets_of (H := []) (EX := EXA) ttok mixed Try.func119 rfl (by kernel_rfl) (by decide) ?_
      generalize hA : real = A
      generalize hM : MeetsB Try.prog = M
      cbv
      repeat' first
        | exact absurd (show true = false by assumption) (by decide)
        | exact absurd (show false = true by assumption) (by decide)
        | apply And.intro
        | exact True.intro
        | with_reducible rfl
        | exact same_of hA rfl
        | refine br_of hA (fun _ => ?_) (fun _ => ?_)
        | exact imp_of hA id
        | (refine imp_of hA ?_; subst hA; simp only [real, Bool.true_and]; exact id)
        | (refine ind_of hA ?_; decide +kernel)
        | exact room_z hA (by omega) (by decide)
      exact own_cp hA (by subst hA; rfl)
  · skip
    refine meets_of (H := []) (EX := EXA) ttok mixed Try.func119 rfl (by kernel_rfl) (by decide) ?_
    generalize hA : real = A
    generalize hM : MeetsB Try.prog = M
    cbv
    repeat' first
      | exact absurd (show true = false by assumption) (by decide)
      | exact absurd (show false = true by assumption) (by decide)
      | apply And.intro
      | exact True.intro
      | with_reducible rfl
      | exact same_of hA rfl
      | refine br_of hA (fun _ => ?_) (fun _ => ?_)
      | exact imp_of hA id
      | (refine imp_of hA ?_; subst hA; simp only [real, Bool.true_and]; exact id)
      | (refine ind_of hA ?_; decide +kernel)
      | exact room_z hA (by omega) (by decide)
      | (refine inb_of hA (fun _ => ⟨by omega, by omega⟩))
      | (rename_i hb; cases hb; done)
    exact own_cp hA rfl
theorem c_copied (mk : Int) (n : Nat) (hn : n ≤ 1080000) (g : Nat → RowT) : Meets Try.prog 64 [.agg [.d (eI mk), .d (.sl 13 n fun i => eRow (g i))]] ⟨.one (.agg [.d (eI mk), .own 13 n fun i => eRow (g i)]), [none]⟩ := by
  refine meets_of (H := []) (EX := EXA) ttok mixed Try.func64 rfl (by kernel_rfl) (by decide) ?_
  generalize hA : real = A
  generalize hM : MeetsB Try.prog = M
  cbv
  repeat' first
    | apply And.intro
    | exact True.intro
    | with_reducible rfl
    | exact same_of hA rfl
    | refine br_of hA (fun _ => ?_) (fun _ => ?_)
    | exact imp_of hA id
    | (refine imp_of hA ?_; subst hA; simp only [real, Bool.true_and]; exact id)
    | (refine ind_of hA ?_; decide +kernel)
    | exact room_z hA (by omega) (by decide)
    | (refine call_of2 hA hM _ (c_CloneRow n hn g) rfl ?_; cbv)
theorem c_over (j : JobT) (m : Int) (r : RowT) (b : Bool) (hb : b = overB j.late m r) : Meets Try.prog 67 [xd (eRow r), .c (.d (.p [eI m])), .c (.d (.p (eJob j)))] ⟨.one (.c (.d (eB b))), [none, none, none]⟩ := by
  refine meets_of (H := []) (EX := EXA) ttok mixed Try.func67 rfl (by kernel_rfl) (by decide) ?_
  generalize hA : real = A
  generalize hM : MeetsB Try.prog = M
  cbv
  repeat' first
    | apply And.intro
    | exact True.intro
    | with_reducible rfl
    | exact same_of hA rfl
    | refine br_of hA (fun _ => ?_) (fun _ => ?_)
    | exact imp_of hA id
    | (refine imp_of hA ?_; subst hA; simp only [real, Bool.true_and]; exact id)
    | (refine ind_of hA ?_; decide +kernel)
  subst hA; subst hb; rfl
def EXI : FuncId → List Nat × Bool := fun f => bif nbeq f 1 then ([6000], false) else ([], false)
theorem c_tell (j : JobT) (mk : Int) (n : Nat) (R : Nat → RowT) (q : Nat) (lt : CV) (hq : q < n) (c : Nat) (hc : c ≤ 1080000) (G : Nat → PaneT) (kind : Int) (R' : Nat → RowT) (hR' : ∀ i, R' i = if i = q then toldR (R q) else R i) (G' : Nat → PaneT) (hG' : ∀ i, G' i = if i < c then G i else paneP j.piece (R q) kind) : MeetsO Try.prog 65 [.c (.bp 1600 1 0), .c (.op 1473 1 q 0), .c (.d (eI kind))]
    [(1600, 1, .box [.d (eI j.srcs), .d (eI j.tsks), .d (eI j.kind), .d (eI j.size), .d (eI j.step), .d (eI j.late), .d (eI j.tell), .d (eB j.piece), .d (eI j.least), .d (eI j.room), .d (eI mk), .own 1473 0 n 1, .own 5000 0 c 1, lt]), (1473, 1, .arr 13 n fun i => eRow (R i)), (5000, 1, .arr 9 c fun i => ePane (G i))] (.tup [])
    [(1600, 1, .box [.d (eI j.srcs), .d (eI j.tsks), .d (eI j.kind), .d (eI j.size), .d (eI j.step), .d (eI j.late), .d (eI j.tell), .d (eB j.piece), .d (eI j.least), .d (eI j.room), .d (eI mk), .own 1473 0 n 1, .own 5000 0 (c + 1) 2, lt]), (1473, 1, .arr 13 n fun i => eRow (R' i)), (5000, 2, .arr 9 (c + 1) fun i => ePane (G' i)), (6384, 1, .dead), (8560, 1, .dead)] := by
  refine inl_of (EX := EXI) ttok mixed Try.func65 rfl (by kernel_rfl) (by decide) (by kernel_rfl) rfl rfl ?_
  generalize hA : real = A
  generalize hM : MeetsB Try.prog = M
  rcases A with ⟨a1, a2, a3, a4, a5, a6, a7, a8, a9, a10, a11, a12, a13, a14, a15, a16, a17, a18, a19, a20, a21, a22, up, a24, a25, a26, a27, a28, a29⟩
  have hup : ∀ (f : Nat → List DV) (q : Nat) (l : List DV), up f q l q = l := by
    have h : real.upd = up := congrArg Ar.upd hA
    intro f q l; rw [← h]; exact if_pos rfl
  cbv
  repeat' first
    | apply And.intro
    | exact True.intro
    | with_reducible rfl
    | exact same_of hA rfl
    | refine br_of hA (fun _ => ?_) (fun _ => ?_)
    | exact imp_of hA id
    | (refine imp_of hA ?_; subst hA; simp only [real, Bool.true_and]; exact id)
    | (refine ind_of hA ?_; decide +kernel)
    | exact room_add2 hA (by omega) (by decide)
    | (simp only [hup]; cbv)
  all_goals (rename_i hpc; unfold real at hA; cases hA)
  all_goals first
    | rfl
    | (intro i hi
       by_cases e : i = q
       · refine Eq.trans ?_ (congrArg eRow ((hR' i).trans (if_pos e)).symm)
         dsimp only
         simp only [if_pos e]
         rfl
       · refine Eq.trans ?_ (congrArg eRow ((hR' i).trans (if_neg e)).symm)
         dsimp only
         simp only [if_neg e])
    | (intro i hi
       refine Eq.trans (push_if (A := real) ePane rfl c G (paneP j.piece (R q) kind) _ i hi) (congrArg ePane (hG' i).symm))
    | (intro i hi
       refine Eq.trans ?_ (congrArg ePane (hG' i).symm)
       have e := push_if (A := real) ePane rfl c G (paneP j.piece (R q) kind) (fun _ => [eI 0, eI 0, eI 0, eI 0, eI 0, eI 0, eI 0, eI 0, eI 0]) i hi
       refine Eq.trans ?_ e
       unfold paneP
       first | rw [if_pos hpc] | rw [if_neg (by rw [hpc]; simp)]
       rfl)
end Go.Rk
/- Rows that are deleted. -/
namespace Go.Rk
set_option linter.unusedSimpArgs false
set_option linter.unusedVariables false
open Go.Proofs
set_option maxRecDepth 100000
set_option maxHeartbeats 1000000
def stIxRow2 (n : Nat) (g : Nat → RowT) (F : FuncId) (c0 c1 : DV) (i : Nat) : St := ⟨[(8, .c (.d (eI i))), (7, .c (.d (eI n))), (0, .c (.d (.sl 13 n fun i => eRow (g i)))), (1, .c (.d (.fn F [c0, c1])))], []⟩
set_option maxRecDepth 100000 in
theorem c_IndexRow2 (n : Nat) (hn : n ≤ maxLen) (g : Nat → RowT) (F : FuncId) (c0 c1 : DV) (Q : RowT → Prop) (hc : ∀ r, ∃ b, (b = true ↔ Q r) ∧ Meets Try.prog F [xd (eRow r), .c (.d c0), .c (.d c1)] ⟨.one (.c (.d (eB b))), [none, none, none]⟩) : ∃ x, FirstIx n (fun i => Q (g i)) x ∧ Meets Try.prog 120 [.c (.d (.sl 13 n fun i => eRow (g i))), .c (.d (.fn F [c0, c1]))] ⟨.one (.c (.d (eI x))), [none, none]⟩ := by
  obtain ⟨x, hx⟩ := firstIx_ex n fun i => Q (g i)
  refine ⟨x, hx, ?_⟩
  refine meets_of (H := []) (EX := EXA) ttok mixed Try.func120 rfl (by kernel_rfl) (by decide) ?_
  generalize hA : real = A
  generalize hM : MeetsB Try.prog = M
  cbv
  repeat' first
    | apply And.intro
    | exact True.intro
    | with_reducible rfl
    | exact same_of hA rfl
    | refine br_of hA (fun _ => ?_) (fun _ => ?_)
    | exact imp_of hA id
    | (refine imp_of hA ?_; subst hA; simp only [real, Bool.true_and]; exact id)
    | (refine ind_of hA ?_; decide +kernel)
  refine loop_of hA (α := { i : Nat // i ≤ n ∧ ∀ j, j < i → ¬ Q (g j) }) (fun x => stIxRow2 n g F c0 c1 x.1) (fun x => n - x.1) ⟨0, Nat.zero_le _, fun j h => absurd h (Nat.not_lt_zero _)⟩ ?_ ?_
  · refine cov_of ?_ ?_ ?_
    · cbv; subst hA; exact ⟨rfl, rfl, trivial⟩
    · cbv
    · cbv
  rintro ⟨i, hi, hb⟩
  cbv
  repeat' first
    | apply And.intro
    | exact True.intro
    | with_reducible rfl
    | exact same_of hA rfl
    | refine br_of hA (fun _ => ?_) (fun _ => ?_)
    | exact imp_of hA id
    | (refine imp_of hA ?_; subst hA; simp only [real, Bool.true_and]; exact id)
    | (refine ind_of hA ?_; decide +kernel)
    | (refine inb_of hA fun _ => ?_; subst hA; simp only [real, decide_eq_true_eq, Int.ofNat_eq_natCast] at *; omega)
  · refine call_ex hA hM (hc (g (A.nat (Int.ofNat i)))) (fun b hbb => ?_)
    cbv
    repeat' first
      | apply And.intro
      | exact True.intro
      | with_reducible rfl
      | exact same_of hA rfl
      | refine br_of hA (fun _ => ?_) (fun _ => ?_)
      | exact imp_of hA id
      | (refine imp_of hA ?_; subst hA; simp only [real, Bool.true_and]; exact id)
      | (refine ind_of hA ?_; decide +kernel)
    · rename_i hlt ht
      subst hA
      simp only [real, decide_eq_true_eq, Int.ofNat_eq_natCast, Int.toNat_natCast] at *
      obtain rfl := firstIx_one hx (.at i (by omega) (hbb.1 ht) hb)
      rfl
    · rename_i hlt ht
      have hlt' : i < n := by subst hA; simp only [real, decide_eq_true_eq, Int.ofNat_eq_natCast] at hlt; omega
      refine ⟨⟨i + 1, by omega, fun j hj => ?_⟩, by simp only; omega, cov_of ?_ ?_ ?_⟩
      · by_cases e : j = i
        · subst e
          subst hA
          intro hq
          have := hbb.2 hq
          rw [ht] at this
          cases this
        · exact hb j (by omega)
      · cbv
        subst hA
        exact ⟨congrArg (fun x => DV.v (.int .i64 x)) (up64 hlt' hn), trivial⟩
      · cbv
      · cbv
  · subst hA
    simp only [real, decide_eq_false_iff_not, Int.ofNat_eq_natCast] at *
    obtain rfl := firstIx_one hx (.none fun j hj => hb j (by omega))
    rfl
def st_del (n : Nat) (F : FuncId) (c0 c1 : DV) (i j : Nat) (R : Nat → RowT) : St := ⟨[(6, .c (.d (eI j))), (5, .c (.d (eI i))), (1, .c (.d (.fn F [c0, c1]))), (0, .c (.own 0 0 n 1))], [(0, 1, .arr 13 n fun i => eRow (R i))]⟩
theorem c_DeleteRow2 (n : Nat) (hn : n ≤ 1080000) (g : Nat → RowT) (F : FuncId) (c0 c1 : DV) (d : RowT → Bool) (hc : ∀ r, Meets Try.prog F [xd (eRow r), .c (.d c0), .c (.d c1)] ⟨.one (.c (.d (eB (d r)))), [none, none, none]⟩)
    (k : Nat) (G : Nat → RowT) (hG : Lst zRow (keepN g d n) k G) : Meets Try.prog 66 [.c (.own 13 n fun i => eRow (g i)), .c (.d (.fn F [c0, c1]))] ⟨.one (.c (.own 13 k fun i => eRow (G i))), [none, none]⟩ := by
  have hnL : n ≤ maxLen := Nat.le_trans hn (by decide)
  obtain ⟨x, hx, cI⟩ := c_IndexRow2 n hnL g F c0 c1 (fun r => d r = true) (fun r => ⟨d r, Iff.rfl, hc r⟩)
  refine meets_up (res := .one (.c (.own 13 k fun q => if q < k then eRow (G q) else eRow zRow))) (UpV.row fun i hi => if_pos hi) ?_
  refine meets_of (H := [3, 12]) (EX := EXA) ttok mixed Try.func66 rfl (by kernel_rfl) (by decide) ?_
  generalize hA : real = A
  generalize hM : MeetsB Try.prog = M
  cbv
  repeat' first
    | apply And.intro
    | exact True.intro
    | with_reducible rfl
    | exact same_of hA rfl
    | refine br_of hA (fun _ => ?_) (fun _ => ?_)
    | exact imp_of hA id
    | (refine imp_of hA ?_; subst hA; simp only [real, Bool.true_and]; exact id)
    | (refine ind_of hA ?_; decide +kernel)
    | (refine call_of2 hA hM _ cI (by (subst hA; first | rfl | (simp only [sub0r]; try rfl))) ?_; cbv)
  · rename_i hm1
    have hx1 : x = -1 := by subst hA; exact of_decide_eq_true hm1
    have hall : Lst zRow (keepN g d n) n g := keepN_none fun q hq hd => by
      have := (firstIx_neg hx).1.2 ⟨q, hq, hd⟩
      omega
    have hkn : k = n := hG.1.trans hall.1.symm
    subst hkn
    refine stop_of hA ⟨[(0, .c (.own 0 0 k 1))], [(0, 1, .arr 13 k fun q => if q < k then eRow (G q) else eRow zRow)]⟩ (cov_of ?_ ?_ ?_) ?_
    · cbv; try (subst hA; repeat' first | apply And.intro | exact True.intro | rfl)
    · cbv
      refine ⟨fun q hq => ?_, trivial⟩
      refine Eq.trans (congrArg eRow ((hall.2 q hq).trans (hG.2 q hq).symm)) (if_pos hq).symm
    · cbv; try (subst hA; repeat' first | apply And.intro | exact True.intro | rfl | exact .inr trivial | exact .inl trivial)
    · cbv
      repeat' first
        | apply And.intro
        | exact True.intro
        | with_reducible rfl
        | exact same_of hA rfl
        | refine br_of hA (fun _ => ?_) (fun _ => ?_)
        | exact imp_of hA id
        | (refine imp_of hA ?_; subst hA; simp only [real, Bool.true_and]; exact id)
        | (refine ind_of hA ?_; decide +kernel)
  · rename_i hm1
    have hx1 : ¬ x = -1 := by subst hA; exact of_decide_eq_false hm1
    obtain ⟨i0, hi0, hxi, hd0, hb0⟩ := (firstIx_neg hx).2.1 (Classical.byContradiction fun h => hx1 ((firstIx_neg hx).2.2 h))
    have hl0 : Lst zRow (keepN g d (i0 + 1)) i0 g := by
      rw [keepN_succ, if_pos hd0, List.append_nil]
      exact keepN_none hb0
    refine loop_of hA (α := { y : Nat × Nat × (Nat → RowT) // y.1 ≤ y.2.1 ∧ y.2.1 ≤ n ∧ (∀ q, y.2.1 ≤ q → q < n → y.2.2 q = g q) ∧ Lst zRow (keepN g d y.2.1) y.1 y.2.2 }) (fun y => st_del n F c0 c1 y.1.1 y.1.2.1 y.1.2.2) (fun y => n - y.1.2.1) ⟨(i0, i0 + 1, g), by simp only; omega, by simp only; omega, fun q _ _ => rfl, hl0⟩ ?_ ?_
    · refine cov_of ?_ ?_ ?_
      · cbv; subst hA; subst hxi
        repeat' first | apply And.intro | exact True.intro | exact congrArg (fun x => DV.v (.int .i64 x)) (up64 hi0 hnL) | rfl
      · cbv; try (subst hA; repeat' first | apply And.intro | exact True.intro | rfl | (intro _ _; rfl))
      · cbv; try (subst hA; repeat' first | apply And.intro | exact True.intro | rfl | exact .inr trivial | exact .inl trivial)
    rintro ⟨⟨i, j, R⟩, hij, hj, hR, hL⟩
    have hij : i ≤ j := hij
    have hj : j ≤ n := hj
    have hR : ∀ q, j ≤ q → q < n → R q = g q := hR
    have hL : Lst zRow (keepN g d j) i R := hL
    cbv
    repeat' first
      | apply And.intro
      | exact True.intro
      | with_reducible rfl
      | exact same_of hA rfl
      | refine br_of hA (fun _ => ?_) (fun _ => ?_)
      | exact imp_of hA id
      | (refine imp_of hA ?_; subst hA; simp only [real, Bool.true_and]; exact id)
      | (refine ind_of hA ?_; decide +kernel)
      | (refine inb_lt hA ?_; first | exact lt2_of hA (by assumption) | exact lt_of hA (by assumption))
    · rename_i hlt
      have hlt' : j < n := lt_of hA hlt
      have hin : i < n := by omega
      have ej : A.add 0 (A.nat (Int.ofNat j)) = j := by subst hA; exact Nat.zero_add j
      refine call_of hA hM _ (hc (R (A.add 0 (A.nat (Int.ofNat j))))) ?_
      cbv
      repeat' first
        | apply And.intro
        | exact True.intro
        | with_reducible rfl
        | exact same_of hA rfl
        | refine br_of hA (fun _ => ?_) (fun _ => ?_)
        | exact imp_of hA id
        | (refine imp_of hA ?_; subst hA; simp only [real, Bool.true_and]; exact id)
        | (refine ind_of hA ?_; decide +kernel)
        | exact inb_lt hA hin
      · rename_i hd
        have hd' : ¬ d (g j) = true := by
          rw [← hR j (Nat.le_refl _) hlt']
          intro h
          have := (congrArg (fun q => d (R q)) ej).symm.trans (bnot_t hA hd)
          rw [this] at h; cases h
        refine ⟨⟨(i + 1, j + 1, fun q => if q = i then R j else R q), show i + 1 ≤ j + 1 by omega, show j + 1 ≤ n by omega, fun q hq hqn => ?_, ?_⟩, by simp only; omega, cov_of ?_ ?_ ?_⟩
        · have hq : j + 1 ≤ q := hq
          show (if q = i then R j else R q) = g q
          rw [if_neg (by omega)]; exact hR q (by omega) hqn
        · show Lst zRow (keepN g d (j + 1)) (i + 1) (fun q => if q = i then R j else R q)
          rw [keepN_succ, if_neg hd', ← hR j (Nat.le_refl _) hlt']
          exact lst_push hL fun q _ => rfl
        · cbv; subst hA; repeat' first | apply And.intro | exact True.intro | exact congrArg (fun x => DV.v (.int .i64 x)) (up64 hlt' hnL) | exact congrArg (fun x => DV.v (.int .i64 x)) (up64 hin hnL) | rfl
        · cbv; 
          refine ⟨fun q hq => ?_, trivial⟩
          subst hA
          by_cases e : q = i
          · have e2 : q = 0 + i := by omega
            refine Eq.trans ((if_pos e2).trans (congrArg (fun q => eRow (R q)) (Nat.zero_add j))) (congrArg eRow (if_pos e).symm)
          · have e2 : ¬ q = 0 + i := by omega
            exact (if_neg e2).trans (congrArg eRow (if_neg e).symm)
        · cbv; try (subst hA; repeat' first | apply And.intro | exact True.intro | rfl | exact .inr trivial | exact .inl trivial)
      · rename_i hd
        have hd' : d (g j) = true := by
          rw [← hR j (Nat.le_refl _) hlt']
          exact (congrArg (fun q => d (R q)) ej).symm.trans (bnot_f hA hd)
        refine ⟨⟨(i, j + 1, R), show i ≤ j + 1 by omega, show j + 1 ≤ n by omega, fun q hq hqn => hR q (Nat.le_of_succ_le hq) hqn, ?_⟩, by simp only; omega, cov_of ?_ ?_ ?_⟩
        · show Lst zRow (keepN g d (j + 1)) i R
          rw [keepN_succ, if_pos hd', List.append_nil]; exact hL
        · cbv; subst hA; repeat' first | apply And.intro | exact True.intro | exact congrArg (fun x => DV.v (.int .i64 x)) (up64 hlt' hnL) | exact congrArg (fun x => DV.v (.int .i64 x)) (up64 hin hnL) | rfl
        · cbv; try (subst hA; repeat' first | apply And.intro | exact True.intro | rfl | (intro _ _; rfl))
        · cbv; try (subst hA; repeat' first | apply And.intro | exact True.intro | rfl | exact .inr trivial | exact .inl trivial)
    · subst hA
      show 0 ≤ (i : Int) ∧ (i : Int) ≤ (n : Int) ∧ (n : Int) ≤ (n : Int)
      omega
    · rename_i hge
      have hjn : j = n := by have := ge_of hA hge; omega
      subst hjn
      have hik : i = k := hL.1.trans hG.1.symm
      subst hik
      refine stop_of hA ⟨[(5, .c (.d (eI i))), (0, .c (.own 0 0 j 1))], [(0, 1, .arr 13 j fun q => if q < i then eRow (G q) else eRow zRow)]⟩ (cov_of ?_ ?_ ?_) ?_
      · cbv; try (subst hA; repeat' first | apply And.intro | exact True.intro | rfl)
      · cbv
        refine ⟨fun q hq => ?_, trivial⟩
        subst hA
        by_cases e : q < i
        · have e2 : q < 0 + i := by omega
          exact (if_pos e2).trans ((congrArg eRow ((hL.2 q e).trans (hG.2 q e).symm)).trans (if_pos e).symm)
        · have e2 : ¬ q < 0 + i := by omega
          have e3 : q - (0 + i) < ((j : Int) - (i : Int)).toNat := by omega
          exact (if_neg e2).trans ((if_pos e3).trans (if_neg e).symm)
      · cbv; try (subst hA; repeat' first | apply And.intro | exact True.intro | rfl | exact .inr trivial | exact .inl trivial)
      · cbv
        repeat' first
          | apply And.intro
          | exact True.intro
          | with_reducible rfl
          | exact same_of hA rfl
          | refine br_of hA (fun _ => ?_) (fun _ => ?_)
          | exact imp_of hA id
          | (refine imp_of hA ?_; subst hA; simp only [real, Bool.true_and]; exact id)
          | (refine ind_of hA ?_; decide +kernel)
        · subst hA; show 0 ≤ (0 : Int) ∧ (0 : Int) ≤ (i : Int) ∧ (i : Int) ≤ (j : Int); omega
        · exact same_of hA (by subst hA; rfl)
        · subst hA
          have e : ((i : Int) - 0).toNat = i := by omega
          exact congrArg (fun n => XA.one (XT.c (XV.own 13 n fun q => if q < i then eRow (G q) else eRow zRow))) e
end Go.Rk
/- A mark is taken. -/
namespace Go.Rk
set_option linter.unusedSimpArgs false
set_option linter.unusedVariables false
open Go.Proofs
set_option maxRecDepth 100000
set_option maxHeartbeats 1000000
def EXO : FuncId → List Nat × Bool := fun f => bif nbeq f 65 then ([99], false) else bif nbeq f 66 then ([0], false) else ([], false)
def st_om (j : JobT) (m : Int) (n : Nat) (i : Nat) (R : Nat → RowT) (c : Nat) (P : Nat → PaneT) : St := ⟨[(45, .c (.d (eI i))), (44, .c (.d (eI n))), (8, .c (.bp 1600 1 0)), (6, .c (.bp 384 1 0)), (5, .c (.bp 320 1 0)), (3, .c (.bp 192 1 0))],
  [(1600, 1, .box [.d (eI j.srcs), .d (eI j.tsks), .d (eI j.kind), .d (eI j.size), .d (eI j.step), .d (eI j.late), .d (eI j.tell), .d (eB j.piece), .d (eI j.least), .d (eI j.room), .d (eI m), .own 1473 0 n 1, .own 5000 0 c 1, .d (.v nilS)]), (1473, 1, .arr 13 n fun i => eRow (R i)), (5000, 1, .arr 9 c fun i => ePane (P i)), (384, 1, .box [.d (eI 0), .d (.v nilS)]), (320, 1, .box [.d (eI m)]), (192, 1, .box [.d (eI j.srcs), .d (eI j.tsks), .d (eI j.kind), .d (eI j.size), .d (eI j.step), .d (eI j.late), .d (eI j.tell), .d (eB j.piece), .d (eI j.least), .d (eI j.room)])]⟩
theorem m_OpMark (j : JobT) (mk m : Int) (n : Nat) (hnL : n ≤ maxLen) (hn : n ≤ 1080000) (g : Nat → RowT) (hok : OpOkP j ⟨mk, ⟨n, g, hnL⟩⟩) (hm : 0 ≤ m ∧ m ≤ 1000) (hlt : mk < m) (k : Nat) (G : Nat → RowT) (hG : Lst zRow (keepN (fun i => markR m (g i)) (overB j.late m) n) k G)
    (c : Nat) (P : Nat → PaneT) (hP : Lst zPan (tellN j.piece m g n) c P) : Meets Try.prog 22 [xd (eJob j), .agg [.d (eI mk), .d (.sl 13 n fun i => eRow (g i))], .c (.d (eI m))] ⟨.tup [.agg [.d (eI m), .own 13 k fun i => eRow (G i)], .c (.own 9 c fun i => ePane (P i))], [none, none, none]⟩ := by
  obtain ⟨b1, hb1, cO⟩ := c_OpOk j ⟨mk, ⟨n, g, hnL⟩⟩
  obtain ⟨b2, hb2, cT⟩ := c_isTime m
  have hb1' : b1 = true := hb1.2 hok
  have hb2' : b2 = true := by rw [hb2, decide_eq_true_eq]; exact hm
  subst hb1'
  rw [hb2'] at cT
  have hT : ∀ r, Meets Try.prog 67 [xd (eRow r), .c (.d (.p [eI m])), .c (.d (.p (eJob j)))] ⟨.one (.c (.d (eB (overB j.late m r)))), [none, none, none]⟩ := fun r => c_over j m r _ rfl
  have cD := c_DeleteRow2 n hn (fun i => markR m (g i)) 67 _ _ _ hT k G hG
  have no1 : ∀ {A : Ar}, real = A → A.bite (A.bnot true) true (A.bnot true) = true → False := fun hA h => by subst hA; exact absurd h (by decide)
  have no2 : ∀ {A : Ar}, real = A → A.cmp .leq m mk = true → False := fun hA h => by subst hA; exact absurd (of_decide_eq_true h) (by omega)
  refine meets_of (H := [14]) (EX := EXO) ttok mixed Try.func22 rfl (by kernel_rfl) (by decide) ?_
  generalize hA : real = A
  generalize hM : MeetsB Try.prog = M
  cbv
  repeat' first
    | exact (no1 hA (by assumption)).elim
    | exact (no2 hA (by assumption)).elim
    | apply And.intro
    | exact True.intro
    | with_reducible rfl
    | exact same_of hA rfl
    | refine br_of hA (fun _ => ?_) (fun _ => ?_)
    | exact imp_of hA id
    | (refine imp_of hA ?_; subst hA; simp only [real, Bool.true_and]; exact id)
    | (refine ind_of hA ?_; decide +kernel)
    | (refine call_of hA hM _ cO ?_; cbv)
    | (refine call_of hA hM _ cT ?_; cbv)
    | (refine call_of2 hA hM _ (c_copied mk n hn g) (by subst hA; rfl) ?_; cbv)
  refine loop_of hA (α := { y : Nat × (Nat → RowT) × Nat × (Nat → PaneT) // y.1 ≤ n ∧ (∀ q, q < n → y.2.1 q = if q < y.1 then markR m (g q) else g q) ∧ Lst zPan (tellN j.piece m g y.1) y.2.2.1 y.2.2.2 }) (fun y => st_om j m n y.1.1 y.1.2.1 y.1.2.2.1 y.1.2.2.2) (fun y => n - y.1.1) ⟨(0, g, 0, fun _ => zPan), Nat.zero_le _, fun q _ => (if_neg (Nat.not_lt_zero q)).symm, rfl, fun k h => absurd h (Nat.not_lt_zero k)⟩ ?_ ?_
  · refine cov_promC 1600 5000 1 9 (fun i => ePane zPan) [.d (eI j.srcs), .d (eI j.tsks), .d (eI j.kind), .d (eI j.size), .d (eI j.step), .d (eI j.late), .d (eI j.tell), .d (eB j.piece), .d (eI j.least), .d (eI j.room), .d (eI m), .own 1473 0 n 1] [.d (.v nilS)] rfl rfl rfl (cov_of ?_ ?_ ?_)
    · cbv; try (subst hA; repeat' first | apply And.intro | exact True.intro | rfl | fail)
    · cbv; try (subst hA; repeat' first | apply And.intro | exact True.intro | rfl | (intro _ _; rfl) | (intro k hk; exact absurd hk (Nat.not_lt_zero k)) | fail)
    · cbv; try (subst hA; repeat' first | apply And.intro | exact True.intro | rfl | exact .inr trivial | exact .inl trivial)
  rintro ⟨⟨i, R, c1, P1⟩, hi, hR, hL⟩
  have hi : i ≤ n := hi
  have hR : ∀ q, q < n → R q = if q < i then markR m (g q) else g q := hR
  have hL : Lst zPan (tellN j.piece m g i) c1 P1 := hL
  have hc1 : c1 ≤ i := by rw [hL.1]; exact tellN_len _ _ _ _
  cbv
  repeat' first
    | apply And.intro
    | exact True.intro
    | with_reducible rfl
    | exact same_of hA rfl
    | refine br_of hA (fun _ => ?_) (fun _ => ?_)
    | exact imp_of hA id
    | (refine imp_of hA ?_; subst hA; simp only [real, Bool.true_and]; exact id)
    | (refine ind_of hA ?_; decide +kernel)
    | (refine inb_lt hA ?_; first | exact lt2_of hA (by assumption) | exact lt_of hA (by assumption))
  · rename_i hlt hdue
    have hlt' : i < n := lt2_of hA hlt
    have eq0 : A.add 0 (A.nat (Int.ofNat i)) = i := by subst hA; exact Nat.zero_add i
    have hRi : R i = g i := by rw [hR i hlt', if_neg (Nat.lt_irrefl i)]
    have hh : ∀ q, q = i → A.bite (A.bnot (R q).timely) (A.cmp .leq (R q).win.e m) false = dueB m (g i) := by
      rintro q rfl
      rw [hRi]
      subst hA
      unfold dueB
      show (bif !(g q).timely then decide ((g q).win.e ≤ m) else false) = _
      cases (g q).timely <;> rfl
    have hd : dueB m (g i) = true := (hh _ eq0).symm.trans hdue
    have hq0 : A.add 0 (A.nat (Int.ofNat i)) < n := by rw [eq0]; exact hlt'
    have hT1 := c_tell j m n R (A.add 0 (A.nat (Int.ofNat i))) (.d (.v nilS)) hq0 c1 (by omega) P1 1 (fun q => if q = i then toldR (R i) else R q) (fun z => by rw [eq0]) (fun z => if z < c1 then P1 z else paneP j.piece (R i) 1) (fun z => by rw [eq0])
    refine inl_call hA _ _ _ ⟨fun _ => (by rw [← hM]; exact hT1), ?_, ?_⟩
    · cbv
      exact ⟨⟨.inr trivial, .inr trivial, trivial⟩, trivial⟩
    · cbv
      repeat' first
        | apply And.intro
        | exact True.intro
        | with_reducible rfl
        | exact same_of hA rfl
        | refine br_of hA (fun _ => ?_) (fun _ => ?_)
        | exact imp_of hA id
        | (refine imp_of hA ?_; subst hA; simp only [real, Bool.true_and]; exact id)
        | (refine ind_of hA ?_; decide +kernel)
      refine ⟨⟨(i + 1, fun q => if q = i then toldR (R i) else R q, c1 + 1, fun z => if z < c1 then P1 z else paneP j.piece (R i) 1), hlt', ?_, ?_⟩, by simp only; omega, cov_of ?_ ?_ ?_⟩
      · intro q hq
        show (if q = i then toldR (R i) else R q) = if q < i + 1 then markR m (g q) else g q
        by_cases e : q = i
        · rw [if_pos e, e, if_pos (by omega), hRi]; unfold markR; rw [if_pos hd]
        · rw [if_neg e, hR q hq]
          by_cases h : q < i
          · rw [if_pos h, if_pos (by omega)]
          · rw [if_neg h, if_neg (by omega)]
      · show Lst zPan (tellN j.piece m g (i + 1)) (c1 + 1) _
        rw [tellN_succ, if_pos hd, hRi]
        refine lst_push hL fun q hq => ?_
        show (if q < c1 then P1 q else _) = if q = c1 then _ else P1 q
        by_cases e : q = c1
        · rw [if_pos e, if_neg (by omega)]
        · rw [if_neg e, if_pos (by omega)]
      · cbv; subst hA; repeat' first | apply And.intro | exact True.intro | exact congrArg (fun x => DV.v (.int .i64 x)) (up64 hlt' hnL) | rfl
      · cbv; try (subst hA; repeat' first | apply And.intro | exact True.intro | rfl | (intro _ _; rfl))
      · cbv; try (subst hA; repeat' first | apply And.intro | exact True.intro | rfl | exact .inr trivial | exact .inl trivial)
  · rename_i hlt hdue
    have hlt' : i < n := lt2_of hA hlt
    have eq0 : A.add 0 (A.nat (Int.ofNat i)) = i := by subst hA; exact Nat.zero_add i
    have hRi : R i = g i := by rw [hR i hlt', if_neg (Nat.lt_irrefl i)]
    have hh : ∀ q, q = i → A.bite (A.bnot (R q).timely) (A.cmp .leq (R q).win.e m) false = dueB m (g i) := by
      rintro q rfl
      rw [hRi]
      subst hA
      unfold dueB
      show (bif !(g q).timely then decide ((g q).win.e ≤ m) else false) = _
      cases (g q).timely <;> rfl
    have hd : ¬ dueB m (g i) = true := by
      intro h
      have := (hh _ eq0).symm.trans hdue
      rw [h] at this; cases this
    refine ⟨⟨(i + 1, R, c1, P1), hlt', ?_, ?_⟩, by simp only; omega, cov_of ?_ ?_ ?_⟩
    · intro q hq
      show R q = if q < i + 1 then markR m (g q) else g q
      rw [hR q hq]
      by_cases e : q = i
      · rw [if_neg (by omega), if_pos (by omega), e]; unfold markR; rw [if_neg hd]
      · by_cases h : q < i
        · rw [if_pos h, if_pos (by omega)]
        · rw [if_neg h, if_neg (by omega)]
    · show Lst zPan (tellN j.piece m g (i + 1)) c1 P1
      rw [tellN_succ, if_neg hd, List.append_nil]; exact hL
    · cbv; subst hA; repeat' first | apply And.intro | exact True.intro | exact congrArg (fun x => DV.v (.int .i64 x)) (up64 hlt' hnL) | rfl
    · cbv; try (subst hA; repeat' first | apply And.intro | exact True.intro | rfl | (intro _ _; rfl))
    · cbv; try (subst hA; repeat' first | apply And.intro | exact True.intro | rfl | exact .inr trivial | exact .inl trivial)
  · rename_i hge
    have hin : i = n := by have := ge2_of hA hge; omega
    subst hin
    have hcc : c1 = c := hL.1.trans hP.1.symm
    subst hcc
    refine stop_of hA ⟨[(8, .c (.bp 1600 1 0)), (6, .c (.bp 384 1 0)), (5, .c (.bp 320 1 0)), (3, .c (.bp 192 1 0))], [(1600, 1, .box [.d (eI j.srcs), .d (eI j.tsks), .d (eI j.kind), .d (eI j.size), .d (eI j.step), .d (eI j.late), .d (eI j.tell), .d (eB j.piece), .d (eI j.least), .d (eI j.room), .d (eI m), .own 1473 0 i 1, .own 5000 0 c1 1, .d (.v nilS)]), (1473, 1, .arr 13 i fun q => eRow (markR m (g q))), (5000, 1, .arr 9 c1 fun q => ePane (P q)), (384, 1, .box [.d (eI 0), .d (.v nilS)]), (320, 1, .box [.d (eI m)]), (192, 1, .box [.d (eI j.srcs), .d (eI j.tsks), .d (eI j.kind), .d (eI j.size), .d (eI j.step), .d (eI j.late), .d (eI j.tell), .d (eB j.piece), .d (eI j.least), .d (eI j.room)])]⟩ (cov_of ?_ ?_ ?_) ?_
    · cbv; try (subst hA; repeat' first | apply And.intro | exact True.intro | rfl)
    · cbv
      refine ⟨fun q hq => congrArg eRow ((hR q hq).trans (if_pos hq)), fun q hq => congrArg ePane ((hL.2 q hq).trans (hP.2 q hq).symm), trivial⟩
    · cbv; try (subst hA; repeat' first | apply And.intro | exact True.intro | rfl | exact .inr trivial | exact .inl trivial)
    · cbv
      repeat' first
        | apply And.intro
        | exact True.intro
        | with_reducible rfl
        | exact same_of hA rfl
        | refine br_of hA (fun _ => ?_) (fun _ => ?_)
        | exact imp_of hA id
        | (refine imp_of hA ?_; subst hA; simp only [real, Bool.true_and]; exact id)
        | (refine ind_of hA ?_; decide +kernel)
        | (refine call_of2 hA hM _ cD (by (subst hA; first | rfl | (simp only [sub0r]; try rfl))) ?_; cbv)
        | exact flat_row hA _ _
      all_goals trace_state
end Go.Rk
/- A mark is taken, whole. -/
namespace Go.Rk
set_option linter.unusedSimpArgs false
set_option linter.unusedVariables false
open Go.Proofs
set_option maxRecDepth 100000
set_option maxHeartbeats 1000000
theorem c_OpMark (j : JobT) (s : OpStT) (hn : s.rows.n ≤ 1080000) (m : Int) (x : Int × List RowT × List PaneT) (hx : x = opMarkL j s m) (k : Nat) (G : Nat → RowT) (hG : Lst zRow x.2.1 k G) (c : Nat) (P : Nat → PaneT) (hP : Lst zPan x.2.2 c P) :
    Meets Try.prog 22 [xd (eJob j), .agg [.d (eI s.mark), .d (.sl 13 s.rows.n fun i => eRow (s.rows.g i))], .c (.d (eI m))] ⟨.tup [.agg [.d (eI x.1), .own 13 k fun i => eRow (G i)], .c (.own 9 c fun i => ePane (P i))], [none, none, none]⟩ := by
  obtain ⟨mk, n, g, hnL⟩ := s
  have hn : n ≤ 1080000 := hn
  unfold opMarkL at hx
  by_cases hok : OpOkP j ⟨mk, ⟨n, g, hnL⟩⟩ ∧ (0 ≤ m ∧ m ≤ 1000)
  · rw [if_neg (fun h => h hok)] at hx
    by_cases hmk : m ≤ mk
    · rw [if_pos hmk] at hx
      subst hx
      have hall : Lst zRow ((List.range n).map g) n g := lst_of _ _ _
      have hkn : k = n := hG.1.trans hall.1.symm
      subst hkn
      have hc0 : c = 0 := hP.1
      subst hc0
      refine meets_up (res := .tup [.agg [.d (eI mk), .own 13 k fun i => eRow (g i)], .c (.d (.v nilS))]) ⟨⟨UpV.refl _, UpV.row fun i hi => congrArg eRow ((hall.2 i hi).trans (hG.2 i hi).symm), trivial⟩, UpV.nil 9 fun i => ePane (P i), trivial⟩ ?_
      obtain ⟨b1, hb1, cO⟩ := c_OpOk j ⟨mk, ⟨k, g, hnL⟩⟩
      obtain ⟨b2, hb2, cT⟩ := c_isTime m
      have hb1' : b1 = true := hb1.2 hok.1
      have hb2' : b2 = true := by rw [hb2, decide_eq_true_eq]; exact hok.2
      subst hb1'
      rw [hb2'] at cT
      have no1 : ∀ {A : Ar}, real = A → A.bite (A.bnot true) true (A.bnot true) = true → False := fun hA h => by subst hA; exact absurd h (by decide)
      have no2 : ∀ {A : Ar}, real = A → A.cmp .leq m mk = false → False := fun hA h => by subst hA; exact absurd hmk (of_decide_eq_false h)
      refine meets_of (H := []) (EX := EXO) ttok mixed Try.func22 rfl (by kernel_rfl) (by decide) ?_
      generalize hA : real = A
      generalize hM : MeetsB Try.prog = M
      cbv
      repeat' first
        | exact (no1 hA (by assumption)).elim
        | exact (no2 hA (by assumption)).elim
        | apply And.intro
        | exact True.intro
        | with_reducible rfl
        | exact same_of hA rfl
        | refine br_of hA (fun _ => ?_) (fun _ => ?_)
        | exact imp_of hA id
        | (refine imp_of hA ?_; subst hA; simp only [real, Bool.true_and]; exact id)
        | (refine ind_of hA ?_; decide +kernel)
        | (refine call_of hA hM _ cO ?_; cbv)
        | (refine call_of hA hM _ cT ?_; cbv)
        | (refine call_of2 hA hM _ (c_copied mk k hn g) (by subst hA; rfl) ?_; cbv)
        | exact flat_row hA _ _
      all_goals trace_state
    · rw [if_neg hmk] at hx
      subst hx
      exact m_OpMark j mk m n hnL hn g hok.1 hok.2 (by omega) k G hG c P hP
  · rw [if_pos hok] at hx
    subst hx
    have hk0 : k = 0 := hG.1
    have hc0 : c = 0 := hP.1
    subst hk0 hc0
    refine meets_up (res := .tup [.agg [.d (eI 0), .d (.v nilS)], .c (.d (.v nilS))]) ⟨⟨UpV.refl _, UpV.nil 13 fun i => eRow (G i), trivial⟩, UpV.nil 9 fun i => ePane (P i), trivial⟩ ?_
    obtain ⟨b1, hb1, cO⟩ := c_OpOk j ⟨mk, ⟨n, g, hnL⟩⟩
    obtain ⟨b2, hb2, cT⟩ := c_isTime m
    have hbb : ¬ (b1 = true ∧ b2 = true) := fun h => hok ⟨hb1.1 h.1, by have := h.2; rw [hb2, decide_eq_true_eq] at this; exact this⟩
    have no3 : ∀ {A : Ar}, real = A → A.bite (A.bnot b1) true (A.bnot b2) = false → False := fun hA h => by
      subst hA
      have h : (bif !b1 then true else !b2) = false := h
      cases b1 <;> cases b2 <;> simp at h hbb
    refine meets_of (H := []) (EX := EXO) ttok mixed Try.func22 rfl (by kernel_rfl) (by decide) ?_
    generalize hA : real = A
    generalize hM : MeetsB Try.prog = M
    cbv
    repeat' first
      | exact (no3 hA (by assumption)).elim
      | apply And.intro
      | exact True.intro
      | with_reducible rfl
      | exact same_of hA rfl
      | refine br_of hA (fun _ => ?_) (fun _ => ?_)
      | exact imp_of hA id
      | (refine imp_of hA ?_; subst hA; simp only [real, Bool.true_and]; exact id)
      | (refine ind_of hA ?_; decide +kernel)
      | (refine call_of hA hM _ cO ?_; cbv)
      | (refine call_of hA hM _ cT ?_; cbv)
    all_goals (subst hA; rfl)
end Go.Rk
/- What copy and slices.overlaps do, of elements of any size. -/
namespace Go.Rk
set_option linter.unusedSimpArgs false
set_option linter.unusedVariables false
open Go Go.Proofs
theorem run_copy_k {P : Program} (w : World) (dT sT ty elem : TypeId) (k : Nat) (b o dLen dCap : Nat) (a : Addr) (sLen sCap : Nat) (cs : List Value)
    (hu : P.underlying dT = some (.slice elem)) (hs : (P.info? elem).map (·.size) = some k) (n : Nat) (hm : Nat.min sLen dLen = n) (hn : cs.length = n * k)
    (hsrc : ∀ j v, cs[j]? = some v → w.cell? (a.add j) = some v) (hc : ∀ j, j < cs.length → (w.cell? ⟨b, o + j, none⟩).isSome = true) (hf : ∀ j, j < cs.length → w.frozen? ⟨b, o + j, none⟩ = false) (h1 : ∀ v ∈ cs, v.oneCell' = true) :
    (Builtin.copy_ #[dT, sT] ty #[.slice (some ⟨b, o, none⟩) dLen dCap, .slice (some a) sLen sCap]).run P w = .ok (goInt n) (w.setCells b o cs) := by
  have hl := run_loadCells_list (P := P) w a cs hsrc
  have hst := run_storeCells_cells (P := P) b o cs 0 w (by simpa using hc) (by simpa using hf) h1
  cases hq : P.info? elem with
  | none => simp [hq] at hs
  | some i =>
    have hi : i.size = k := by simpa [hq] using hs
    simp [Builtin.copy_, run_underlying hu, Builtin.lenOf, Builtin.firstCells, sizeOf, typeInfo, hq, hi, hm, ← hn, hl, hst]
theorem setCells_size (b : Nat) : ∀ (vs : List Value) (o : Nat) (w : World), (w.setCells b o vs).heap.size = w.heap.size
  | [], _, _ => rfl
  | v :: r, o, w => by rw [World.setCells, setCells_size b r]; show (w.heap.modify b _).size = _; rw [Array.size_modify]
theorem setCells_env (b : Nat) : ∀ (vs : List Value) (o : Nat) (w : World), (w.setCells b o vs).os = w.os ∧ (w.setCells b o vs).output = w.output ∧ (w.setCells b o vs).tape = w.tape
  | [], _, _ => ⟨rfl, rfl, rfl⟩
  | v :: r, o, w => by
    rw [World.setCells]
    exact setCells_env b r (o + 1) (w.setCell ⟨b, o, none⟩ v)
theorem setCells_other (b : Nat) : ∀ (vs : List Value) (o : Nat) (w : World) (i : Nat), i ≠ b → (w.setCells b o vs).heap[i]? = w.heap[i]?
  | [], _, _, _, _ => rfl
  | v :: r, o, w, i, h => by
    rw [World.setCells, setCells_other b r _ _ i h]
    show (w.heap.modify b _)[i]? = _
    rw [Array.getElem?_modify, if_neg (fun e => h e.symm)]
theorem setCells_at (b : Nat) : ∀ (vs : List Value) (o : Nat) (w : World) (cs : Array Value) (e : TypeId) (fr : Nat × Nat), w.heap[b]? = some (.cells cs e fr) → o + vs.length ≤ cs.size →
    ∃ cs', (w.setCells b o vs).heap[b]? = some (.cells cs' e fr) ∧ cs'.size = cs.size ∧ (∀ j, j < o → cs'[j]? = cs[j]?) ∧ (∀ j, j < vs.length → cs'[o + j]? = vs[j]?) ∧ (∀ j, o + vs.length ≤ j → cs'[j]? = cs[j]?)
  | [], o, w, cs, e, fr, h, _ => ⟨cs, h, rfl, fun _ _ => rfl, fun j hj => absurd hj (Nat.not_lt_zero j), fun _ _ => rfl⟩
  | v :: r, o, w, cs, e, fr, h, hl => by
    have hl' : o + (r.length + 1) ≤ cs.size := by simpa using hl
    have h1 : (w.setCell ⟨b, o, none⟩ v).heap[b]? = some (.cells (cs.setIfInBounds o v) e fr) := by
      show (w.heap.modify b _)[b]? = _
      rw [Array.getElem?_modify, if_pos rfl, h]
      rfl
    obtain ⟨cs', g1, g2, g3, g4, g5⟩ := setCells_at b r (o + 1) (w.setCell ⟨b, o, none⟩ v) _ e fr h1 (by rw [Array.size_setIfInBounds]; omega)
    refine ⟨cs', g1, by rw [g2, Array.size_setIfInBounds], fun j hj => ?_, fun j hj => ?_, fun j hj => ?_⟩
    · rw [g3 j (by omega), Array.getElem?_setIfInBounds, if_neg (by omega)]
    · cases j with
      | zero =>
        rw [Nat.add_zero, g3 o (by omega), Array.getElem?_setIfInBounds, if_pos rfl, if_pos (by omega)]
        rfl
      | succ j =>
        rw [show o + (j + 1) = o + 1 + j by omega, g4 j (by simpa using hj)]
        rfl
    · have hj : o + (r.length + 1) ≤ j := by simpa using hj
      rw [g5 j (by omega), Array.getElem?_setIfInBounds, if_neg (by omega)]
end Go.Rk
/- slices.Insert of one element: what it answers. -/
namespace Go.Rk
set_option linter.unusedSimpArgs false
set_option linter.unusedVariables false
open Go Go.Proofs Go.RowKit Go.Lib
set_option maxHeartbeats 4000000 in
set_option maxRecDepth 100000 in
theorem ins_shift (b off n c i vb voff vc : Nat) (cs vs : List Value) (w : World) (hi : i < n) (hroom : n + 1 ≤ c) (hn63 : n ≤ 1100000) (hvb : vb ≠ b)
    (hcl : cs.length = n * 13) (hvl : vs.length = 13)
    (hcs : ∀ j v, cs[j]? = some v → w.cell? ⟨b, off + j, none⟩ = some v) (hsp : ∀ j, j < (n + 1) * 13 → (w.cell? ⟨b, off + j, none⟩).isSome = true) (hfz : ∀ j, j < (n + 1) * 13 → w.frozen? ⟨b, off + j, none⟩ = false)
    (hvs : ∀ j v, vs[j]? = some v → w.cell? ⟨vb, voff + j, none⟩ = some v) (h1c : ∀ v ∈ cs, v.oneCell' = true) (h1v : ∀ v ∈ vs, v.oneCell' = true)
    (tA tB : TypeId) (kA kB : Nat) (hsa : w.shape? vb = some (tA, kA)) (hsb : w.shape? b = some (tB, kB)) (hkB : kB ≠ 0) (hfa : w.frozen? ⟨vb, voff, none⟩ = false) (hfe : w.frozen? ⟨vb, kA, none⟩ = false) :
    Calls Try.prog 156 #[.slice (some ⟨b, off, none⟩) n c, .int .i64 i, .slice (some ⟨vb, voff, none⟩) 1 vc] w fun e w' =>
      e = .returned (.slice (some ⟨b, off, none⟩) (n + 1) c) ∧ w' = (w.drew.setCells b (off + (i + 1) * 13) (cs.drop (i * 13))).setCells b (off + i * 13) vs := by
  have hz2 : ¬ ((i : Int) = (n : Int)) := by omega
  have hsz : (Try.prog.info? 55).map (·.size) = some 13 := by kernel_rfl
  have hov : ∀ lb cb, (callFunc 163 #[.slice (some ⟨vb, voff, none⟩) 1 vc, .slice (some ⟨b, off + (i + 1) * 13, none⟩) lb cb]).run Try.prog w = .ok (.value (.bool false)) w := fun lb cb => by
    rw [run_callFunc_extern Try.func163 (by kernel_rfl) (by kernel_rfl) (by kernel_rfl) (e := Extern.SlicesOverlaps.overlaps #[28, 28] #[4]) (by kernel_rfl),
      Lib.run_overlaps_apart w 28 4 55 Try.underlying28 13 Try.sizeOf55 ⟨vb, voff, none⟩ ⟨b, off + (i + 1) * 13, none⟩ 1 vc lb cb hvb tA tB kA kB hsa hsb hkB hfa hfe]
    rfl
  have hdl : (cs.drop (i * 13)).length = (n - i) * 13 := by rw [List.length_drop, hcl, Nat.sub_mul]
  have hw1 : IntKind.i64.wrap ((i : Int) + 1) = (i : Int) + 1 := by rw [IntKind.wrap_i64]; omega
  have hw2 : IntKind.i64.wrap ((n : Int) + 1) = (n : Int) + 1 := by rw [IntKind.wrap_i64]; omega
  have hb1 : (0 : Int) ≤ (i : Int) + 1 := by omega
  have hin : i ≤ n := by omega
  have htn : ((i : Int) + 1).toNat = i + 1 := by omega
  have htm : ((n : Int) + 1).toNat = n + 1 := by omega
  have hb2 : ¬ (c = i + 1) := by omega
  have hb3 : (i : Int) ≤ (n : Int) + 1 := by omega
  have hb4 : ¬ (c = i) := by omega
  have hcp1 : ∀ ty dc sc, (Builtin.copy_ #[28, 28] ty #[.slice (some ⟨b, off + (i + 1) * 13, none⟩) (n - i) dc, .slice (some ⟨b, off + i * 13, none⟩) (n + 1 - i) sc]).run Try.prog w.drew = .ok (goInt ((n - i : Nat) : Int)) (w.drew.setCells b (off + (i + 1) * 13) (cs.drop (i * 13))) := fun ty dc sc =>
    run_copy_k w.drew _ _ ty 55 13 b (off + (i + 1) * 13) (n - i) dc ⟨b, off + i * 13, none⟩ (n + 1 - i) sc (cs.drop (i * 13)) Try.underlying28 hsz (n - i) (by simp only [Nat.min_def]; split <;> omega) hdl
      (fun j v hj => by rw [Addr.add_lit, Nat.add_assoc]; exact hcs (i * 13 + j) v (by rwa [List.getElem?_drop] at hj))
      (fun j hj => by rw [Nat.add_assoc]; exact hsp _ (by rw [hdl] at hj; omega)) (fun j hj => by rw [Nat.add_assoc]; exact hfz _ (by rw [hdl] at hj; omega)) (fun v hv => h1c v (List.mem_of_mem_drop hv))
  obtain ⟨W1, hW1⟩ : ∃ W1, W1 = w.drew.setCells b (off + (i + 1) * 13) (cs.drop (i * 13)) := ⟨_, rfl⟩
  have hsp1 : ∀ k, k < (n + 1) * 13 → (W1.cell? ⟨b, off + k, none⟩).isSome = true := fun k hk => by
    rw [hW1]
    exact isSome_setCells b _ _ _ (fun j hj => by rw [Nat.add_assoc]; exact hsp _ (by rw [hdl] at hj; omega)) _ (hsp k hk)
  have hcp2 : ∀ (W : World), (∀ x, W.cell? x = W1.cell? x) → (∀ x, W.frozen? x = W1.frozen? x) → ∀ ty dc, (Builtin.copy_ #[28, 28] ty #[.slice (some ⟨b, off + i * 13, none⟩) (n + 1 - i) dc, .slice (some ⟨vb, voff, none⟩) 1 vc]).run Try.prog W = .ok (goInt 1) (W.setCells b (off + i * 13) vs) := fun W hWc hWf ty dc =>
    run_copy_k W _ _ ty 55 13 b (off + i * 13) (n + 1 - i) dc ⟨vb, voff, none⟩ 1 vc vs Try.underlying28 hsz 1 (by simp only [Nat.min_def]; split <;> omega) (by rw [hvl])
      (fun j v hj => by
        rw [Addr.add_lit, hWc, hW1, World.cell?_setCells_out b _ _ _ _ (fun h _ => absurd h hvb)]
        exact hvs j v hj)
      (fun j hj => by rw [hWc, Nat.add_assoc]; exact hsp1 _ (by rw [hvl] at hj; omega)) (fun j hj => by rw [hWf, hW1, World.frozen?_setCells, Nat.add_assoc]; exact hfz _ (by rw [hvl] at hj; omega)) h1v
  rw [← hW1] at hcp1
  have mixed := mixed
  go_enter Try.func156, Try.ntmps156
  go_wp2_with (simp only [hov])
  go_region_law_o (refine step_copy_runI rfl _ _ 28 28 rfl _ _ (by simp [Act.eval, Act.put]) (by simp [Act.eval, Act.put]) (hcp1 _ _ _) ?_)
  go_wp2_with (at_builtin; refine wpList_copy_runI _ rfl _ _ 28 28 rfl _ _ rfl rfl (hcp2 _ (fun _ => rfl) (fun _ => rfl) _ _) ?_)
  go_ret
  first | exact ⟨rfl, rfl⟩ | exact ⟨rfl, by rw [hW1]⟩
end Go.Rk
namespace Go.Rk
open Go.Proofs
set_option maxRecDepth 100000
set_option maxHeartbeats 1000000
theorem ins_end (n : Nat) (hn : n ≤ 1100000) (row : Nat → List DV) (r : List DV) (row1 : Nat → List DV) (hr : row1 0 = r) (R : Nat → List DV) (hR : ∀ k, k < n + 1 → R k = if k < n then row k else r) :
    Meets Try.prog 156 [.c (.own 13 n row), .c (.d (eI n)), .c (.own 13 1 row1)] ⟨.one (.c (.own 13 (n + 1) R)), [none, none, none]⟩ := by
  obtain ⟨R', hR'⟩ : ∃ R' : Nat → List DV, R' = real.app n row (real.sub 0 row1) := ⟨_, rfl⟩
  refine meets_rows (row := R') (fun k hk => ?_) ?_
  · rw [hR k hk, hR']
    show (if k < n then row k else row1 (0 + (k - n))) = _
    by_cases h : k < n
    · rw [if_pos h, if_pos h]
    · rw [if_neg h, if_neg h, show 0 + (k - n) = 0 by omega, hr]
  refine meets_of (H := []) (EX := EXA) ttok mixed Try.func156 rfl (by kernel_rfl) (by decide) ?_
  generalize hA : real = A
  generalize hM : MeetsB Try.prog = M
  cbv
  repeat' first
    | (refine br_f hA ?_ ?_; focus (subst hA; simp [real]; done))
    | (refine br_t hA ?_ ?_; focus (subst hA; simp [real]; done))
    | apply And.intro
    | exact True.intro
    | with_reducible rfl
    | exact same_of hA rfl
    | refine br_of hA (fun _ => ?_) (fun _ => ?_)
    | exact imp_of hA id
    | (refine imp_of hA ?_; subst hA; simp only [real, Bool.true_and]; exact id)
    | (refine ind_of hA ?_; decide +kernel)
    | (refine cut_of hA ?_; subst hA; exact ⟨Int.natCast_nonneg n, Int.le_refl _, Int.le_refl _⟩)
    | exact room_add2 hA (by omega) (by decide)
  subst hA
  rw [hR']
  rfl
end Go.Rk
namespace Go.Rk
open Go Go.Proofs Go.RowKit Go.Lib
set_option maxHeartbeats 4000000 in
set_option maxRecDepth 100000 in
theorem ins_grow (b off n c i vb voff vc : Nat) (cs vs : List Value) (w : World) (hi : i < n) (hnc : n ≤ c) (hroom : c < n + 1) (hbig : (n + 1) * 104 ≤ 140737488355328)
    (hcl : cs.length = n * 13) (hvl : vs.length = 13)
    (hcs : ∀ j v, cs[j]? = some v → w.cell? ⟨b, off + j, none⟩ = some v)
    (hvs : ∀ j v, vs[j]? = some v → w.cell? ⟨vb, voff + j, none⟩ = some v) (h1c : ∀ v ∈ cs, v.oneCell' = true) (h1v : ∀ v ∈ vs, v.oneCell' = true) :
    ∃ ROW : Array Value, ROW.size = grownCap w (n + 1) c 55 * 13 ∧ (∀ j, j < i * 13 → ROW[j]? = cs[j]?) ∧ n + 1 ≤ grownCap w (n + 1) c 55 ∧
    Calls Try.prog 156 #[.slice (some ⟨b, off, none⟩) n c, .int .i64 i, .slice (some ⟨vb, voff, none⟩) 1 vc] w fun e w' =>
      e = .returned (.slice (some ⟨w.heap.size, 0, none⟩) (n + 1) (grownCap w (n + 1) c 55)) ∧
      w' = (((w.alloc (.cells ROW 55)).drew.setCells w.heap.size (i * 13) vs).drew).setCells w.heap.size ((i + 1) * 13) (cs.drop (i * 13)) := by
  have hi0 : Try.prog.info? 55 = some Try.t55 := by kernel_rfl
  have hzs : Try.t55.size = 13 := rfl
  have hzb : Try.t55.bytes = 104 := rfl
  have hz0 : Try.t55.zero = some (.agg #[.int .i64 0, .int .i64 0, .int .i64 0, .int .i64 0, .int .i64 0, .int .i64 0, .int .i64 0, .int .i64 0, .int .i64 0, .int .i64 0, .int .i64 0, .int .i64 0, .bool false]) := rfl
  obtain ⟨Z, hZ⟩ : ∃ Z : Array Value, Z = #[.int .i64 0, .int .i64 0, .int .i64 0, .int .i64 0, .int .i64 0, .int .i64 0, .int .i64 0, .int .i64 0, .int .i64 0, .int .i64 0, .int .i64 0, .int .i64 0, .bool false] := ⟨_, rfl⟩
  have hZ7 : Z.size = 13 := by rw [hZ]; rfl
  rw [← hZ] at hz0
  have hz2 : ¬ ((i : Int) = (n : Int)) := by omega
  have hsz : (Try.prog.info? 55).map (·.size) = some 13 := by rw [hi0]; rfl
  have hbw : b < w.heap.size := block_lt_of_cell (hcs 0 _ (List.getElem?_eq_getElem (by omega)))
  have hvw : vb < w.heap.size := block_lt_of_cell (hvs 0 _ (List.getElem?_eq_getElem (by omega)))
  have hkk : (n : Int) + 1 - (i : Int) = ((n + 1 - i : Nat) : Int) := by omega
  have hik : i + (n + 1 - i) = n + 1 := by omega
  have hold : (Builtin.firstCells Try.t55.size i (.slice (some ⟨b, off, none⟩) i c)).run Try.prog w.drew = .ok (cs.take (i * 13)).toArray w.drew := by
    rw [hzs]
    exact run_firstCells_some w.drew 13 i ⟨b, off, none⟩ i c (cs.take (i * 13)) (by rw [List.length_take]; omega) (fun j v hj => by
      rw [Addr.add_lit]
      rw [List.getElem?_take] at hj
      split at hj
      · exact hcs j v hj
      · cases hj)
  have hrz : ∀ ty, (Builtin.append_ #[28, 3] ty #[.slice (some ⟨b, off, none⟩) i c, .int .i64 ((n : Int) + 1 - (i : Int))]).run Try.prog w =
      .ok (.slice (some ⟨w.heap.size, 0, none⟩) (n + 1) (grownCap w (n + 1) c 55)) (w.drew.alloc (.cells ((cs.take (i * 13)).toArray ++ Builtin.zeroCells Z (n + 1 - i) ++ Builtin.zeroCells Z (grownCap w (n + 1) c 55 - (n + 1))) 55)) := fun ty => by
    have h := Lib.run_append_grow_zeros w 28 3 ty 55 Try.t55 _ .i64 .i64 Try.underlying28 Try.underlying3 hi0 hz0 (some ⟨b, off, none⟩) i c (cs.take (i * 13)) hold (n + 1 - i) (by omega) (by omega) (by omega) (by omega) (by rw [hzb]; omega) (by rw [hzb, hik]; exact growslice_fits hroom hbig)
    rw [hik] at h
    rw [hkk]
    exact h
  obtain ⟨G, hG⟩ : ∃ G, G = grownCap w (n + 1) c 55 := ⟨_, rfl⟩
  obtain ⟨ROW, hROW⟩ : ∃ ROW : Array Value, ROW = (cs.take (i * 13)).toArray ++ Builtin.zeroCells Z (n + 1 - i) ++ Builtin.zeroCells Z (G - (n + 1)) := ⟨_, rfl⟩
  have hGn : n + 1 ≤ G := by rw [hG]; exact grownCap_ge w _ _ _
  have hG63 : G ≤ 9223372036854775807 := by
    have := grownCap_le_maxLen w (n + 1) c 55 (by unfold maxLen; omega)
    rw [← hG] at this
    unfold maxLen at this
    omega
  rw [← hG] at hrz ⊢
  rw [← hROW] at hrz
  have htl : (cs.take (i * 13)).length = i * 13 := by rw [List.length_take, hcl]; omega
  have hRs : ROW.size = G * 13 := by
    rw [hROW]
    simp only [Array.size_append, List.size_toArray, htl, Builtin.zeroCells, Array.size_map, Array.size_range, hZ7]
    omega
  refine ⟨ROW, hRs, fun j hj => ?_, hGn, ?_⟩
  · rw [hROW, Array.append_assoc, Array.getElem?_append_left (by rw [List.size_toArray, htl]; exact hj), List.getElem?_toArray, List.getElem?_take, if_pos hj]
  obtain ⟨W1, hW1⟩ : ∃ W1, W1 = w.drew.alloc (.cells ROW 55) := ⟨_, rfl⟩
  rw [← hW1] at hrz
  have hN : ∀ j, j < (n + 1) * 13 → (W1.cell? ⟨w.heap.size, j, none⟩).isSome = true := fun j hj => by
    rw [hW1, World.cell?_alloc_at (w := w.drew) ROW _ w.heap.size j rfl, Array.getElem?_eq_getElem (by omega)]; rfl
  have hNf : ∀ j, W1.frozen? ⟨w.heap.size, j, none⟩ = false := fun j => by rw [hW1]; exact World.frozen?_alloc_at (w := w.drew) ROW _ w.heap.size j rfl
  have hOb : ∀ j v, w.cell? ⟨b, j, none⟩ = some v → W1.cell? ⟨b, j, none⟩ = some v := fun j v h => by rw [hW1, World.cell?_alloc_past (w := w.drew) _ b j hbw]; exact h
  have hOv : ∀ j v, w.cell? ⟨vb, j, none⟩ = some v → W1.cell? ⟨vb, j, none⟩ = some v := fun j v h => by rw [hW1, World.cell?_alloc_past (w := w.drew) _ vb j hvw]; exact h
  have hcpA : ∀ (W : World), (∀ x, W.cell? x = W1.cell? x) → (∀ x, W.frozen? x = W1.frozen? x) → ∀ ty dc, (Builtin.copy_ #[28, 28] ty #[.slice (some ⟨w.heap.size, i * 13, none⟩) (n + 1 - i) dc, .slice (some ⟨vb, voff, none⟩) 1 vc]).run Try.prog W = .ok (goInt 1) (W.setCells w.heap.size (i * 13) vs) := fun W hWc hWf ty dc =>
    run_copy_k W _ _ ty 55 13 w.heap.size (i * 13) (n + 1 - i) dc ⟨vb, voff, none⟩ 1 vc vs Try.underlying28 hsz 1 (by simp only [Nat.min_def]; split <;> omega) (by rw [hvl])
      (fun j v hj => by rw [Addr.add_lit, hWc]; exact hOv _ v (hvs j v hj))
      (fun j hj => by rw [hWc]; exact hN _ (by rw [hvl] at hj; omega)) (fun j hj => by rw [hWf]; exact hNf _) h1v
  have hGi : ¬ (G = i) := by omega
  have hGim : ¬ (G = i + 1) := by omega
  have hci : ¬ (c = i) := by omega
  have hbN : b ≠ w.heap.size := by omega
  have hdl : (cs.drop (i * 13)).length = (n - i) * 13 := by rw [List.length_drop, hcl, Nat.sub_mul]
  have hcpB : ∀ (W : World), (∀ x, W.cell? x = (W1.setCells w.heap.size (i * 13) vs).cell? x) → (∀ x, W.frozen? x = (W1.setCells w.heap.size (i * 13) vs).frozen? x) → ∀ ty dc sc, (Builtin.copy_ #[28, 28] ty #[.slice (some ⟨w.heap.size, (i + 1) * 13, none⟩) (n - i) dc, .slice (some ⟨b, off + i * 13, none⟩) (n - i) sc]).run Try.prog W = .ok (goInt ((n - i : Nat) : Int)) (W.setCells w.heap.size ((i + 1) * 13) (cs.drop (i * 13))) := fun W hWc hWf ty dc sc =>
    run_copy_k W _ _ ty 55 13 w.heap.size ((i + 1) * 13) (n - i) dc ⟨b, off + i * 13, none⟩ (n - i) sc (cs.drop (i * 13)) Try.underlying28 hsz (n - i) (by simp only [Nat.min_def]; split <;> omega) hdl
      (fun j v hj => by
        rw [Addr.add_lit, hWc, World.cell?_setCells_out _ _ _ _ _ (fun h _ => absurd h hbN), Nat.add_assoc]
        exact hOb _ v (hcs (i * 13 + j) v (by rwa [List.getElem?_drop] at hj)))
      (fun j hj => by rw [hWc]; exact isSome_setCells _ _ _ _ (fun t ht => hN _ (by rw [hvl] at ht; omega)) _ (hN _ (by rw [hdl] at hj; omega)))
      (fun j hj => by rw [hWf, World.frozen?_setCells]; exact hNf _) (fun v hv => h1c v (List.mem_of_mem_drop hv))
  subst hW1
  have hE1 : ∀ x, ((w.alloc (.cells ROW 55)).drew).cell? x = (w.drew.alloc (.cells ROW 55)).cell? x := fun x => rfl
  have hE2 : ∀ x, ((w.alloc (.cells ROW 55)).drew).frozen? x = (w.drew.alloc (.cells ROW 55)).frozen? x := fun x => rfl
  have hF1 : ∀ x, (((w.alloc (.cells ROW 55)).drew.setCells w.heap.size (i * 13) vs).drew).cell? x = ((w.drew.alloc (.cells ROW 55)).setCells w.heap.size (i * 13) vs).cell? x := fun x => rfl
  have hF2 : ∀ x, (((w.alloc (.cells ROW 55)).drew.setCells w.heap.size (i * 13) vs).drew).frozen? x = ((w.drew.alloc (.cells ROW 55)).setCells w.heap.size (i * 13) vs).frozen? x := fun x => rfl
  have hw1 : IntKind.i64.wrap ((i : Int) + 1) = (i : Int) + 1 := by rw [IntKind.wrap_i64]; omega
  have hw2 : IntKind.i64.wrap ((n : Int) + 1) = (n : Int) + 1 := by rw [IntKind.wrap_i64]; omega
  have hb1 : (0 : Int) ≤ (i : Int) + 1 := by omega
  have hin : i ≤ n := by omega
  have htn : ((i : Int) + 1).toNat = i + 1 := by omega
  have hb3 : (i : Int) ≤ (n : Int) := by omega
  have mixed := mixed
  clear hkk hik hold hROW hG hRs
  go_enter Try.func156, Try.ntmps156
  go_wp2_with (first
    | (at_builtin; refine Lib.wpList_append_run _ rfl _ _ _ _ rfl _ _ rfl rfl _ _ (hrz _) ?_)
    | (at_builtin; refine wpList_copy_runI _ rfl _ _ 28 28 rfl _ _ rfl rfl (hcpA _ hE1 hE2 _ _) ?_)
    | (at_builtin; refine wpList_copy_runI _ rfl _ _ 28 28 rfl _ _ rfl rfl (hcpB _ (fun _ => rfl) (fun _ => rfl) _ _ _) ?_))
  go_region_law_o (refine step_copy_runI rfl _ _ 28 28 rfl (.slice (some ⟨w.heap.size, (i + 1) * 13, none⟩) (n - i) (G - (i + 1))) (.slice (some ⟨b, off + i * 13, none⟩) (n - i) (c - i)) (by simp [Act.eval, Act.put]) (by simp [Act.eval, Act.put]) (hcpB _ hF1 hF2 3 (G - (i + 1)) (c - i)) ?_)
  go_wp2
  go_ret
  exact ⟨rfl, rfl⟩
end Go.Rk
namespace Go.Rk
open Go Go.Proofs
/-- The cells that lie one behind the other. -/
def cutOf (A : Array Value) (o k : Nat) : List Value := (A.toList.drop o).take k
theorem cutOf_len {A : Array Value} {o k : Nat} (h : o + k ≤ A.size) : (cutOf A o k).length = k := by
  unfold cutOf
  rw [List.length_take, List.length_drop, Array.length_toList]
  omega
theorem cutOf_at {A : Array Value} {o k j : Nat} : (cutOf A o k)[j]? = if j < k then A[o + j]? else none := by
  unfold cutOf
  rw [List.getElem?_take]
  split
  · rw [List.getElem?_drop, Array.getElem?_toList]
  · rfl
theorem cell_of {w : World} {b : Nat} {A : Array Value} {e : TypeId} {fr : Nat × Nat} (h : w.heap[b]? = some (.cells A e fr)) (j : Nat) : w.cell? ⟨b, j, none⟩ = A[j]? := by
  simp [World.cell?, h]
theorem frozen_of {w : World} {b : Nat} {A : Array Value} {e : TypeId} (h : w.heap[b]? = some (.cells A e (0, 0))) (j : Nat) : w.frozen? ⟨b, j, none⟩ = false := by
  simp [World.frozen?, h]
/-- Rows of so many cells, one put between. -/
theorem ins_rows {w : World} {N : Nat → Prop} {n i base base' vo : Nat} {A B C : Array Value} {row row1 R : Nat → List DV}
    (hi : i ≤ n) (hl : ∀ k, k < n → (row k).length = 13) (hl1 : (row1 0).length = 13)
    (hA : ∀ k j x, k < n → (row k)[j]? = some x → ∃ u, A[base + k * 13 + j]? = some u ∧ DRep w N x u)
    (hB : ∀ j x, (row1 0)[j]? = some x → ∃ u, B[vo + j]? = some u ∧ DRep w N x u)
    (c1 : ∀ k j, k < i → j < 13 → C[base' + k * 13 + j]? = A[base + k * 13 + j]?)
    (c2 : ∀ j, j < 13 → C[base' + i * 13 + j]? = B[vo + j]?)
    (c3 : ∀ k j, i ≤ k → k < n → j < 13 → C[base' + (k + 1) * 13 + j]? = A[base + k * 13 + j]?)
    (hR : ∀ k, k < n + 1 → R k = if k < i then row k else if k = i then row1 0 else row (k - 1)) :
    (∀ k, k < n + 1 → (R k).length = 13) ∧ ∀ k j x, k < n + 1 → (R k)[j]? = some x → ∃ u, C[base' + k * 13 + j]? = some u ∧ DRep w N x u := by
  have hlen : ∀ k, k < n + 1 → (R k).length = 13 := fun k hk => by
    rw [hR k hk]
    split
    · exact hl k (by omega)
    · split
      · exact hl1
      · exact hl (k - 1) (by omega)
  refine ⟨hlen, fun k j x hk hj => ?_⟩
  have hj7 : j < 13 := by rw [← hlen k hk]; exact (List.getElem?_eq_some_iff.1 hj).1
  rw [hR k hk] at hj
  split at hj
  · rename_i h
    rw [c1 k j h hj7]
    exact hA k j x (by omega) hj
  · split at hj
    · rename_i h
      subst h
      rw [c2 j hj7]
      exact hB j x hj
    · rename_i h1 h2
      have e : k = (k - 1) + 1 := by omega
      rw [e, c3 (k - 1) j (by omega) (by omega) hj7]
      exact hA (k - 1) j x (by omega) hj
theorem c_Insert (n i : Nat) (hn : n ≤ 1100000) (hi : i ≤ n) (row row1 R : Nat → List DV) (hR : ∀ k, k < n + 1 → R k = if k < i then row k else if k = i then row1 0 else row (k - 1)) :
    Meets Try.prog 156 [.c (.own 13 n row), .c (.d (eI i)), .c (.own 13 1 row1)] ⟨.one (.c (.own 13 (n + 1) R)), [none, none, none]⟩ := by
  by_cases hin : i = n
  · subst hin
    refine ins_end i hn row (row1 0) row1 rfl R fun k hk => ?_
    rw [hR k hk]
    by_cases h : k < i
    · rw [if_pos h, if_pos h]
    · rw [if_neg h, if_neg h, if_pos (by omega)]
  have hlt : i < n := by omega
  refine ⟨by kernel_rfl, fun w vals F N hx hF hFN hN => ?_⟩
  obtain ⟨v0, vals, rfl⟩ : ∃ v0 r, vals = v0 :: r := by cases vals with | nil => exact hx.elim | cons a r => exact ⟨a, r, rfl⟩
  obtain ⟨v1, vals, rfl⟩ : ∃ v0 r, vals = v0 :: r := by cases vals with | nil => obtain ⟨_, _, _, _, h⟩ := hx; exact h.elim | cons a r => exact ⟨a, r, rfl⟩
  obtain ⟨v2, vals, rfl⟩ : ∃ v0 r, vals = v0 :: r := by cases vals with | nil => obtain ⟨_, _, _, _, _, _, _, _, h⟩ := hx; exact h.elim | cons a r => exact ⟨a, r, rfl⟩
  obtain ⟨F1, F', rfl, h0, F2, F'', rfl, h1, F3, F4, rfl, h2, h3⟩ := hx
  obtain rfl : vals = [] := by cases vals with | nil => rfl | cons a r => exact h3.elim
  have h3 : F4 = [] := h3
  subst h3
  obtain ⟨h1a, h1⟩ := h1
  subst h1a
  obtain ⟨hl, h0⟩ := h0
  rcases h0 with ⟨h0, _⟩ | ⟨b, base, cap, A, e, rfl, rfl, hcp, hnc, hb, hsz, hA⟩
  · omega
  obtain ⟨hl1, h2⟩ := h2
  rcases h2 with ⟨h2, _⟩ | ⟨vb, vo, vc, B, e2, rfl, rfl, hvp, h1c, hvb, hvsz, hB⟩
  · omega
  cases h1
  simp only [List.nil_append, List.append_nil, List.cons_append] at hF hFN ⊢
  have hne : vb ≠ b := by
    intro h
    simp only [List.nodup_cons, List.mem_cons, List.not_mem_nil, or_false] at hF
    exact hF.1 h.symm
  have hbN : ∀ x, N x → x ≠ b ∧ x ≠ vb := fun x hx => ⟨fun h => (hFN b (by simp)).2 (h ▸ hx), fun h => (hFN vb (by simp)).2 (h ▸ hx)⟩
  have hbw : b < w.heap.size := (hFN b (by simp)).1
  have hvw : vb < w.heap.size := (hFN vb (by simp)).1
  have hsA : base + n * 13 ≤ A.size := Nat.le_trans (Nat.add_le_add_left (Nat.mul_le_mul_right 13 hnc) base) hsz
  have hsB : vo + 13 ≤ B.size := by omega
  obtain ⟨cs, hcs⟩ : ∃ cs, cs = cutOf A base (n * 13) := ⟨_, rfl⟩
  obtain ⟨vs, hvs⟩ : ∃ vs, vs = cutOf B vo 13 := ⟨_, rfl⟩
  have hcl : cs.length = n * 13 := by rw [hcs]; exact cutOf_len hsA
  have hvl : vs.length = 13 := by rw [hvs]; exact cutOf_len hsB
  have hca : ∀ j v, cs[j]? = some v → w.cell? ⟨b, base + j, none⟩ = some v := fun j v h => by
    rw [hcs, cutOf_at] at h
    split at h
    · rw [cell_of hb]; exact h
    · cases h
  have hva : ∀ j v, vs[j]? = some v → w.cell? ⟨vb, vo + j, none⟩ = some v := fun j v h => by
    rw [hvs, cutOf_at] at h
    split at h
    · rw [cell_of hvb]; exact h
    · cases h
  have h1A : ∀ v ∈ cs, v.oneCell' = true := fun v hv => by
    obtain ⟨j, hj⟩ := List.mem_iff_getElem?.1 hv
    rw [hcs, cutOf_at] at hj
    split at hj
    · rename_i hjn
      have hk : j / 13 < n := Nat.div_lt_of_lt_mul (by omega)
      have hr := hl (j / 13) hk
      obtain ⟨x, hx⟩ : ∃ x, (row (j / 13))[j % 13]? = some x := ⟨_, List.getElem?_eq_getElem (by rw [hr]; exact Nat.mod_lt _ (by decide))⟩
      obtain ⟨u, hu, hd⟩ := hA (j / 13) (j % 13) x hk hx
      rw [show base + j / 13 * 13 + j % 13 = base + j by omega, hj] at hu
      cases hu
      exact hd.one
    · cases hj
  have h1B : ∀ v ∈ vs, v.oneCell' = true := fun v hv => by
    obtain ⟨j, hj⟩ := List.mem_iff_getElem?.1 hv
    rw [hvs, cutOf_at] at hj
    split at hj
    · rename_i hjn
      obtain ⟨x, hx⟩ : ∃ x, (row1 0)[j]? = some x := ⟨_, List.getElem?_eq_getElem (by rw [hl1 0 (by omega)]; exact hjn)⟩
      obtain ⟨u, hu, hd⟩ := hB 0 j x (by omega) hx
      rw [show vo + 0 * 13 + j = vo + j by omega, hj] at hu
      cases hu
      exact hd.one
    · cases hj
  have hBr : ∀ j x, (row1 0)[j]? = some x → ∃ u, B[vo + j]? = some u ∧ DRep w N x u := fun j x hj => by
    have := hB 0 j x (by omega) hj
    rw [show vo + 0 * 13 + j = vo + j by omega] at this
    exact this
  have hcsA : ∀ j, j < n * 13 → cs[j]? = A[base + j]? := fun j hj => by rw [hcs, cutOf_at, if_pos hj]
  have hvsB : ∀ j, j < 13 → vs[j]? = B[vo + j]? := fun j hj => by rw [hvs, cutOf_at, if_pos hj]
  have hdl : (cs.drop (i * 13)).length = (n - i) * 13 := by rw [List.length_drop, hcl, Nat.sub_mul]
  by_cases hroom : n + 1 ≤ cap
  · -- in place
    have hsC : base + (n + 1) * 13 ≤ A.size := Nat.le_trans (Nat.add_le_add_left (Nat.mul_le_mul_right 13 hroom) base) hsz
    refine (ins_shift b base n cap i vb vo vc cs vs w hlt hroom hn hne hcl hvl hca (fun j hj => by rw [cell_of hb, Array.getElem?_eq_getElem (by omega)]; rfl) (fun j hj => frozen_of hb _) hva h1A h1B e2 e B.size A.size (by simp [World.shape?, hvb]) (by simp [World.shape?, hb]) (by omega) (frozen_of hvb _) (frozen_of hvb _)).mono ?_
    rintro ee w' ⟨rfl, rfl⟩
    have hbd : w.drew.heap[b]? = some (.cells A e (0, 0)) := hb
    obtain ⟨C1, g1, g2, g3, g4, g5⟩ := setCells_at b (cs.drop (i * 13)) (base + (i + 1) * 13) w.drew A e (0, 0) hbd (by rw [hdl]; omega)
    obtain ⟨C, k1, k2, k3, k4, k5⟩ := setCells_at b vs (base + i * 13) _ C1 e (0, 0) g1 (by rw [hvl, g2]; omega)
    have hoth : ∀ x, x ≠ b → ((w.drew.setCells b (base + (i + 1) * 13) (cs.drop (i * 13))).setCells b (base + i * 13) vs).heap[x]? = w.heap[x]? := fun x hx => by
      rw [setCells_other b _ _ _ x hx, setCells_other b _ _ _ x hx]; rfl
    have hsize : ((w.drew.setCells b (base + (i + 1) * 13) (cs.drop (i * 13))).setCells b (base + i * 13) vs).heap.size = w.heap.size := by rw [setCells_size, setCells_size]; rfl
    obtain ⟨q1, q2⟩ := ins_rows (w := w) (N := N) (n := n) (i := i) (base := base) (base' := base) (vo := vo) (A := A) (B := B) (C := C) hi hl (hl1 0 (by omega)) hA hBr
      (fun k j hk hj => by rw [k3 _ (by omega), g3 _ (by omega)])
      (fun j hj => by rw [k4 j (by rw [hvl]; exact hj), hvsB j hj])
      (fun k j hk1 hk2 hj => by
        rw [k5 _ (by rw [hvl]; omega), show base + (k + 1) * 13 + j = base + (i + 1) * 13 + ((k - i) * 13 + j) by omega, g4 _ (by rw [hdl]; omega), List.getElem?_drop, hcsA _ (by omega)]
        congr 1
        omega) hR
    refine ⟨_, [b], [], rfl, ?_, by rw [hsize]; exact Nat.le_refl _, fun x hx hxF => hoth x fun h => hxF (by rw [h]; simp), fun x xs xe xf hx => ?_, fun x hx => ?_, by simp, ?_, ?_⟩
    · have e1 := setCells_env b vs (base + i * 13) (w.drew.setCells b (base + (i + 1) * 13) (cs.drop (i * 13)))
      have e2 := setCells_env b (cs.drop (i * 13)) (base + (i + 1) * 13) w.drew
      exact ⟨e1.1.trans e2.1, e1.2.1.trans e2.2.1, e1.2.2.trans e2.2.2⟩
    · by_cases hxb : x = b
      · subst hxb
        rw [hb] at hx
        cases hx
        exact ⟨C, k1, by rw [k2, g2]⟩
      · exact ⟨xs, by rw [hoth x hxb]; exact hx, rfl⟩
    · have hx : x = b := by simpa using hx
      subst hx
      exact ⟨by rw [hsize]; exact hbw, .inl (by simp)⟩
    · refine ⟨q1, .inr ⟨b, base, cap, C, e, rfl, rfl, hcp, hroom, k1, by rw [k2, g2]; exact hsz, fun k j x hk hj => ?_⟩⟩
      obtain ⟨u, hu, hd⟩ := q2 k j x hk hj
      exact ⟨u, hu, hd.carry fun x hx => ⟨hoth x (hbN x hx).1, by rw [hsize]; exact hN x hx, by simpa using (hbN x hx).1, .inl hx⟩⟩
    · rfl
  · -- a new row
    obtain ⟨ROW, hRs, hR1, hGn, hc⟩ := ins_grow b base n cap i vb vo vc cs vs w hlt hnc (by omega) (by omega) hcl hvl hca hva h1A h1B
    refine hc.mono ?_
    rintro ee w' ⟨rfl, rfl⟩
    obtain ⟨Gc, hGc⟩ : ∃ G, G = grownCap w (n + 1) cap 55 := ⟨_, rfl⟩
    rw [← hGc] at hRs hGn ⊢
    have hnw : (w.alloc (.cells ROW 55)).drew.heap[w.heap.size]? = some (.cells ROW 55 (0, 0)) := by
      show (w.heap.push _)[w.heap.size]? = _
      rw [Array.getElem?_push_size]
    obtain ⟨C1, g1, g2, g3, g4, g5⟩ := setCells_at w.heap.size vs (i * 13) _ ROW 55 (0, 0) hnw (by rw [hvl]; omega)
    have g1' : (((w.alloc (.cells ROW 55)).drew.setCells w.heap.size (i * 13) vs).drew).heap[w.heap.size]? = some (.cells C1 55 (0, 0)) := g1
    obtain ⟨C, k1, k2, k3, k4, k5⟩ := setCells_at w.heap.size (cs.drop (i * 13)) ((i + 1) * 13) _ C1 55 (0, 0) g1' (by rw [hdl, g2]; omega)
    obtain ⟨w', hw'⟩ : ∃ w', w' = (((w.alloc (.cells ROW 55)).drew.setCells w.heap.size (i * 13) vs).drew).setCells w.heap.size ((i + 1) * 13) (cs.drop (i * 13)) := ⟨_, rfl⟩
    have hoth : ∀ x, x < w.heap.size → w'.heap[x]? = w.heap[x]? := fun x hx => by
      rw [hw', setCells_other _ _ _ _ x (by omega)]
      show ((w.alloc (.cells ROW 55)).drew.setCells w.heap.size (i * 13) vs).heap[x]? = _
      rw [setCells_other _ _ _ _ x (by omega)]
      show (w.heap.push _)[x]? = _
      rw [Array.getElem?_push, if_neg (by omega)]
    have hsize : w'.heap.size = w.heap.size + 1 := by
      rw [hw', setCells_size]
      show ((w.alloc (.cells ROW 55)).drew.setCells w.heap.size (i * 13) vs).heap.size = _
      rw [setCells_size]
      show (w.heap.push _).size = _
      rw [Array.size_push]
    have henv : Env w w' := by
      have e1 := setCells_env w.heap.size (cs.drop (i * 13)) ((i + 1) * 13) (((w.alloc (.cells ROW 55)).drew.setCells w.heap.size (i * 13) vs).drew)
      have e2 := setCells_env w.heap.size vs (i * 13) ((w.alloc (.cells ROW 55)).drew)
      rw [hw']
      exact ⟨e1.1.trans e2.1, e1.2.1.trans e2.2.1, e1.2.2.trans e2.2.2⟩
    rw [← hw'] at k1 ⊢
    obtain ⟨q1, q2⟩ := ins_rows (w := w) (N := N) (n := n) (i := i) (base := base) (base' := 0) (vo := vo) (A := A) (B := B) (C := C) hi hl (hl1 0 (by omega)) hA hBr
      (fun k j hk hj => by rw [k3 _ (by omega), g3 _ (by omega), hR1 _ (by omega), hcsA _ (by omega)]; congr 1; omega)
      (fun j hj => by rw [k3 _ (by omega), Nat.zero_add, g4 j (by rw [hvl]; exact hj), hvsB j hj])
      (fun k j hk1 hk2 hj => by
        rw [show 0 + (k + 1) * 13 + j = (i + 1) * 13 + ((k - i) * 13 + j) by omega, k4 _ (by rw [hdl]; omega), List.getElem?_drop, hcsA _ (by omega)]
        congr 1
        omega) hR
    refine ⟨_, [w.heap.size], [], rfl, henv, by rw [hsize]; omega, fun x hx _ => hoth x hx, fun x xs xe xf hx => ⟨xs, by rw [hoth x (Array.getElem?_eq_some_iff.1 hx).1]; exact hx, rfl⟩, fun x hx => ?_, by simp, ?_, ?_⟩
    · have hx : x = w.heap.size := by simpa using hx
      subst hx
      exact ⟨by rw [hsize]; omega, .inr (Nat.le_refl _)⟩
    · refine ⟨q1, .inr ⟨w.heap.size, 0, Gc, C, 55, rfl, rfl, by omega, hGn, k1, by rw [k2, g2, hRs]; omega, fun k j x hk hj => ?_⟩⟩
      obtain ⟨u, hu, hd⟩ := q2 k j x hk hj
      exact ⟨u, hu, hd.carry fun x hx => ⟨hoth x (hN x hx), by have := hN x hx; rw [hsize]; omega, by have := hN x hx; simp; omega, .inl hx⟩⟩
    · rfl
end Go.Rk
/- What is known of values, put together. -/
namespace Go.Rk
set_option linter.unusedSimpArgs false
set_option linter.unusedVariables false
open Go.Proofs
set_option maxRecDepth 100000
set_option maxHeartbeats 1000000
theorem c_AggBoth (a b c : AggT) (hc : c = aggB a b) : Meets Try.prog 59 [xd (eAgg a), xd (eAgg b)] ⟨.one (xd (eAgg c)), [none, none]⟩ := by
  obtain ⟨n, s, l, m⟩ := a; obtain ⟨n2, s2, l2, m2⟩ := b; obtain ⟨n3, s3, l3, m3⟩ := c
  refine meets_of (H := []) (EX := EXA) ttok mixed Try.func59 rfl (by kernel_rfl) (by decide) ?_
  generalize hA : real = A
  generalize hM : MeetsB Try.prog = M
  cbv
  repeat' first
    | apply And.intro
    | exact True.intro
    | with_reducible rfl
    | exact same_of hA rfl
    | refine br_of hA (fun _ => ?_) (fun _ => ?_)
    | exact imp_of hA id
    | (refine imp_of hA ?_; subst hA; simp only [real, Bool.true_and]; exact id)
    | (refine ind_of hA ?_; decide +kernel)
  all_goals
    subst hA
    simp only [aggB, w64] at hc
    simp only [real, bifA, bifB, bifC, bifD, beqI, beqIF, decide_eq_true_eq, decide_eq_false_iff_not, gt_iff_lt] at *
    simp_all
theorem c_AggAdd (a : AggT) (v : Int) (c : AggT) (hc : c = aggAdd a v) : Meets Try.prog 37 [xd (eAgg a), .c (.d (eI v))] ⟨.one (xd (eAgg c)), [none, none]⟩ := by
  have h := c_AggBoth a (agg1 v) c hc
  obtain ⟨n, s, l, m⟩ := a
  refine meets_of (H := []) (EX := EXA) ttok mixed Try.func37 rfl (by kernel_rfl) (by decide) ?_
  generalize hA : real = A
  generalize hM : MeetsB Try.prog = M
  cbv
  repeat' first
    | apply And.intro
    | exact True.intro
    | with_reducible rfl
    | exact same_of hA rfl
    | refine br_of hA (fun _ => ?_) (fun _ => ?_)
    | exact imp_of hA id
    | (refine imp_of hA ?_; subst hA; simp only [real, Bool.true_and]; exact id)
    | (refine ind_of hA ?_; decide +kernel)
    | (refine call_of hA hM _ h ?_; cbv)
theorem c_WinSpan (a b c : WinT) (hc : c = winSpan a b) : Meets Try.prog 80 [xd (eWin a), xd (eWin b)] ⟨.one (xd (eWin c)), [none, none]⟩ := by
  obtain ⟨n, s⟩ := a; obtain ⟨n2, s2⟩ := b; obtain ⟨n3, s3⟩ := c
  refine meets_of (H := []) (EX := EXA) ttok mixed Try.func80 rfl (by kernel_rfl) (by decide) ?_
  generalize hA : real = A
  generalize hM : MeetsB Try.prog = M
  cbv
  repeat' first
    | apply And.intro
    | exact True.intro
    | with_reducible rfl
    | exact same_of hA rfl
    | refine br_of hA (fun _ => ?_) (fun _ => ?_)
    | exact imp_of hA id
    | (refine imp_of hA ?_; subst hA; simp only [real, Bool.true_and]; exact id)
    | (refine ind_of hA ?_; decide +kernel)
  all_goals
    subst hA
    simp only [winSpan] at hc
    simp only [real, bifA, bifB, bifC, bifD, beqI, beqIF, decide_eq_true_eq, decide_eq_false_iff_not, gt_iff_lt] at *
    simp_all
end Go.Rk
/- How much a mark leaves and tells. -/
namespace Go.Rk
set_option linter.unusedSimpArgs false
set_option linter.unusedVariables false
theorem opMarkL_len (j : JobT) (s : OpStT) (m : Int) : (opMarkL j s m).2.1.length ≤ s.rows.n ∧ (opMarkL j s m).2.2.length ≤ s.rows.n := by
  unfold opMarkL
  split
  · exact ⟨Nat.zero_le _, Nat.zero_le _⟩
  · split
    · exact ⟨by simp, Nat.zero_le _⟩
    · exact ⟨keepN_len _ _ _, tellN_len _ _ _ _⟩
end Go.Rk
/- A row that is put, and found. -/
namespace Go.Rk
set_option linter.unusedSimpArgs false
set_option linter.unusedVariables false
theorem tFind_ins_same {r : TabT} : ∀ {l : List TabT}, (∀ q, q ∈ l → ¬ IsRow r.key r.win q) → tFind r.key r.win (tIns r l) = some r.agg
  | [], _ => by
    show (if IsRow r.key r.win r then some r.agg else _) = _
    rw [if_pos ⟨rfl, rfl, rfl⟩]
  | q :: l, h => by
    show tFind r.key r.win (if Ahead r q then r :: q :: l else q :: tIns r l) = _
    split
    · show (if IsRow r.key r.win r then some r.agg else _) = _
      rw [if_pos ⟨rfl, rfl, rfl⟩]
    · show (if IsRow r.key r.win q then some q.agg else tFind r.key r.win (tIns r l)) = _
      rw [if_neg (h q (by simp)), tFind_ins_same fun x hx => h x (List.mem_cons_of_mem _ hx)]
theorem tFind_put_same (r : TabT) (l : List TabT) : tFind r.key r.win (tPut r l) = some r.agg := tFind_ins_same fun q hq => (tOut_in.1 hq).2
theorem tFind_ins_other {r : TabT} {k : Int} {w : WinT} (hn : ¬ IsRow k w r) : ∀ (l : List TabT), tFind k w (tIns r l) = tFind k w l
  | [] => by
    show (if IsRow k w r then some r.agg else none) = none
    rw [if_neg hn]
  | q :: l => by
    show tFind k w (if Ahead r q then r :: q :: l else q :: tIns r l) = (if IsRow k w q then some q.agg else tFind k w l)
    split
    · show (if IsRow k w r then some r.agg else (if IsRow k w q then some q.agg else tFind k w l)) = _
      rw [if_neg hn]
    · show (if IsRow k w q then some q.agg else tFind k w (tIns r l)) = _
      rw [tFind_ins_other hn l]
theorem tFind_out_other {k k2 : Int} {w w2 : WinT} (hn : ∀ q, IsRow k w q → ¬ IsRow k2 w2 q) : ∀ (l : List TabT), tFind k w (tOut k2 w2 l) = tFind k w l
  | [] => rfl
  | q :: l => by
    show tFind k w (if IsRow k2 w2 q then tOut k2 w2 l else q :: tOut k2 w2 l) = (if IsRow k w q then some q.agg else tFind k w l)
    split
    · rename_i h
      rw [tFind_out_other hn l, if_neg (fun h' => hn q h' h)]
    · show (if IsRow k w q then some q.agg else tFind k w (tOut k2 w2 l)) = _
      rw [tFind_out_other hn l]
theorem tFind_put_other {r : TabT} {k : Int} {w : WinT} (hn : ¬ IsRow k w r) (l : List TabT) : tFind k w (tPut r l) = tFind k w l := by
  unfold tPut
  rw [tFind_ins_other hn, tFind_out_other fun q h h' => hn (by unfold IsRow at *; omega)]
end Go.Rk
