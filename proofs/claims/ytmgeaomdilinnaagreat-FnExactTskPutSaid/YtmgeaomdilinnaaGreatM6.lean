/- The walk over this seat's functions, part 6: what each of them answers, at all data. -/
import Derived.Test.YtmgeaomdilinnaaGreatM1
import Derived.Test.YtmgeaomdilinnaaGreatM2
import Derived.Test.YtmgeaomdilinnaaGreatM3
import Derived.Test.YtmgeaomdilinnaaGreatM4
import Derived.Test.YtmgeaomdilinnaaGreatM5
/- Small functions: what they answer. -/
namespace Go.Rk
set_option linter.unusedSimpArgs false
set_option linter.unusedVariables false
open Go.Proofs
set_option maxRecDepth 100000 in
theorem c_isNaN (n : Int) : ∃ b, b = decide (False) ∧ Meets Tryz.prog 205 [.c (.d (eI n))] ⟨.one (.c (.d (eB b))), [none]⟩ := by
  obtain ⟨b, hb⟩ : ∃ b, b = decide (False) := ⟨_, rfl⟩
  refine ⟨b, hb, ?_⟩
  refine meets_of (H := []) (EX := EXA) ttok mixed Tryz.func205 rfl (by kernel_rfl) (by decide) ?_
  generalize hA : real = A
  generalize hM : MeetsB Tryz.prog = M
  cbv
  repeat' first
    | apply And.intro
    | exact True.intro
    | with_reducible rfl
    | exact same_of hA rfl
    | refine br_of hA (fun _ => ?_) (fun _ => ?_)
    | exact imp_of hA id
    | (refine imp_of hA ?_; subst hA; simp only [real, Bool.true_and]; exact id)
    | (refine ind_of hA ?_; decide +kernel)
    | fail
  all_goals subst hA
  all_goals refine congrArg (fun b => XA.one (.c (.d (eB b)))) (Bool.eq_iff_iff.2 ?_)
  all_goals subst_vars
  all_goals try simp only [real, bifA, bifB, bifC, bifD, decide_eq_true_eq, decide_eq_false_iff_not, beq_iff_eq, bne_iff_ne, beq_eq_false_iff_ne, bne_eq_false_iff_eq, ne_eq, Bool.and_eq_true, Bool.or_eq_true, Bool.not_eq_true', Bool.not_eq_false', Bool.and_eq_false_iff, Bool.or_eq_false_iff, Bool.false_eq_true, and_false, false_and, or_false, false_or, and_true, true_and, not_true_eq_false, not_false_eq_true, true_iff, false_iff, IntKind.wrap_i64] at *
  all_goals first
    | omega
    | skip
set_option maxRecDepth 100000 in
theorem c_Compare (a b : Int) : ∃ x : Int, x = (if a < b then -1 else if b < a then 1 else 0) ∧ Meets Tryz.prog 185 [.c (.d (eI a)), .c (.d (eI b))] ⟨.one (.c (.d (eI x))), [none, none]⟩ := by
  obtain ⟨x, hx⟩ : ∃ x : Int, x = (if a < b then -1 else if b < a then 1 else 0) := ⟨_, rfl⟩
  refine ⟨x, hx, ?_⟩
  refine meets_of (H := []) (EX := EXA) ttok mixed Tryz.func185 rfl (by kernel_rfl) (by decide) ?_
  generalize hA : real = A
  generalize hM : MeetsB Tryz.prog = M
  cbv
  repeat' first
    | apply And.intro
    | exact True.intro
    | with_reducible rfl
    | exact same_of hA rfl
    | refine br_of hA (fun _ => ?_) (fun _ => ?_)
    | exact imp_of hA id
    | (refine imp_of hA ?_; subst hA; simp only [real, Bool.true_and]; exact id)
    | (refine ind_of hA ?_; decide +kernel)
    | (refine call_ex hA hM (c_isNaN _) (fun _ _ => ?_); cbv)
    | fail
  all_goals subst hA
  all_goals refine congrArg (fun x => XA.one (.c (.d (eI x)))) ?_
  all_goals subst_vars
  all_goals try simp only [real, bifA, bifB, bifC, bifD, decide_eq_true_eq, decide_eq_false_iff_not, beq_iff_eq, bne_iff_ne, beq_eq_false_iff_ne, bne_eq_false_iff_eq, ne_eq, Bool.and_eq_true, Bool.or_eq_true, Bool.not_eq_true', Bool.not_eq_false', Bool.and_eq_false_iff, Bool.or_eq_false_iff, Bool.false_eq_true, reduceCtorEq] at *
  all_goals first
    | omega
    | skip
/-- The first that is not 0. -/
inductive FirstNz (n : Nat) (g : Nat → Int) : Int → Prop
  | at (i : Nat) (h : i < n) (hi : g i ≠ 0) (hb : ∀ j, j < i → g j = 0) : FirstNz n g (g i)
  | none (hb : ∀ j, j < n → g j = 0) : FirstNz n g 0
theorem firstNz_ex (n : Nat) (g : Nat → Int) : ∃ x, FirstNz n g x := by
  by_cases h : ∃ i, i < n ∧ g i ≠ 0
  · obtain ⟨i, hi⟩ := h
    induction i using Nat.strongRecOn with
    | _ i ih =>
      by_cases hm : ∃ j, j < i ∧ g j ≠ 0
      · obtain ⟨j, hj1, hj2⟩ := hm
        exact ih j hj1 ⟨by omega, hj2⟩
      · exact ⟨_, .at i hi.1 hi.2 fun j hj => Classical.not_not.1 fun e => hm ⟨j, hj, e⟩⟩
  · exact ⟨0, .none fun j hj => Classical.not_not.1 fun e => h ⟨j, hj, e⟩⟩
theorem firstNz_one {n : Nat} {g : Nat → Int} {x y : Int} (h : FirstNz n g x) (h' : FirstNz n g y) : x = y := by
  cases h with
  | «at» i hi hh hb =>
    cases h' with
    | «at» j hj hh' hb' =>
      have : i = j := by
        rcases Nat.lt_trichotomy i j with h | h | h
        · exact absurd (hb' i h) hh
        · exact h
        · exact absurd (hb j h) hh'
      rw [this]
    | none hb' => exact absurd (hb' i hi) hh
  | none hb =>
    cases h' with
    | «at» j hj hh' hb' => exact absurd (hb j hj) hh'
    | none hb' => rfl
theorem firstNz_two {g : Nat → Int} {x : Int} (h : FirstNz 2 g x) : x = if g 0 = 0 then g 1 else g 0 := by
  refine firstNz_one h ?_
  by_cases h0 : g 0 = 0
  · rw [if_pos h0]
    by_cases h1 : g 1 = 0
    · rw [h1]; exact .none fun j hj => by rcases j with _ | _ | j; exact h0; exact h1; omega
    · exact .at 1 (by omega) h1 fun j hj => by rcases j with _ | j; exact h0; omega
  · rw [if_neg h0]; exact .at 0 (by omega) h0 fun j hj => by omega
def stOr (n : Nat) (g : Nat → Int) (i : Nat) : St := ⟨[(8, .c (.d (eI i))), (7, .c (.d (eI n))), (6, .c (.d (.sl 1 n fun i => [eI (g i)]))), (3, .c (.d (eI 0)))], []⟩
set_option maxRecDepth 100000 in
theorem m_Or (n : Nat) (hn : n ≤ maxLen) (g : Nat → Int) (x : Int) (hx : FirstNz n g x) : Meets Tryz.prog 184 [.c (.d (.sl 1 n fun i => [eI (g i)]))] ⟨.one (.c (.d (eI x))), [none]⟩ := by
  refine meets_of (H := []) (EX := EXA) ttok mixed Tryz.func184 rfl (by kernel_rfl) (by decide) ?_
  generalize hA : real = A
  generalize hM : MeetsB Tryz.prog = M
  cbv
  repeat' first
    | apply And.intro
    | exact True.intro
    | with_reducible rfl
    | exact same_of hA rfl
    | refine br_of hA (fun _ => ?_) (fun _ => ?_)
    | exact imp_of hA id
    | (refine imp_of hA ?_; subst hA; simp only [real, Bool.true_and]; exact id)
    | (refine ind_of hA ?_; decide +kernel)
    | fail
  refine loop_of hA (α := { i : Nat // i ≤ n ∧ ∀ j, j < i → g j = 0 }) (fun x => stOr n g x.1) (fun x => n - x.1) ⟨0, Nat.zero_le _, fun j h => absurd h (Nat.not_lt_zero _)⟩ ?_ ?_
  · refine cov_of ?_ ?_ ?_
    · cbv; subst hA; exact ⟨rfl, rfl, trivial⟩
    · cbv
    · cbv
  rintro ⟨i, hi, hb⟩
  cbv
  repeat' first
    | apply And.intro
    | exact True.intro
    | with_reducible rfl
    | exact same_of hA rfl
    | refine br_of hA (fun _ => ?_) (fun _ => ?_)
    | exact imp_of hA id
    | (refine imp_of hA ?_; subst hA; simp only [real, Bool.true_and]; exact id)
    | (refine ind_of hA ?_; decide +kernel)
    | (refine inb_of hA fun _ => ?_; subst hA; simp only [real, decide_eq_true_eq, Int.ofNat_eq_natCast] at *; omega)
    | fail
  · rename_i hlt hne
    subst hA
    simp only [real, decide_eq_true_eq, Int.ofNat_eq_natCast, Int.toNat_natCast, bne_iff_ne] at *
    obtain rfl := firstNz_one hx (.at i (by omega) hne hb)
    rfl
  · rename_i hlt hne
    have hlt' : i < n := by subst hA; simp only [real, decide_eq_true_eq, Int.ofNat_eq_natCast] at hlt; omega
    refine ⟨⟨i + 1, by omega, fun j hj => ?_⟩, by simp only; omega, cov_of ?_ ?_ ?_⟩
    · by_cases e : j = i
      · subst e
        subst hA
        simpa [real] using hne
      · exact hb j (by omega)
    · cbv
      subst hA
      exact ⟨congrArg (fun x => DV.v (.int .i64 x)) (up64 hlt' hn), trivial⟩
    · cbv
    · cbv
  · subst hA
    simp only [real, decide_eq_false_iff_not, Int.ofNat_eq_natCast] at *
    obtain rfl := firstNz_one hx (.none fun j hj => hb j (by omega))
    rfl
theorem two_of {A : Ar} (hA : real = A) (a b : Int) : A.sub 0 (A.app 1 (A.rep [eI a]) (A.app 1 (A.rep [eI b]) (A.rep [eI 0]))) = fun i => [eI (if i = 0 then a else if i = 1 then b else 0)] := by
  subst hA
  funext i
  rcases i with _ | _ | i
  · rfl
  · rfl
  · simp [real]
theorem c_Or (a b : Int) : ∃ x : Int, x = (if a = 0 then b else a) ∧ Meets Tryz.prog 184 [.c (.d (.sl 1 2 fun i => [eI (if i = 0 then a else if i = 1 then b else 0)]))] ⟨.one (.c (.d (eI x))), [none]⟩ := by
  obtain ⟨x, hx⟩ := firstNz_ex 2 fun i => if i = 0 then a else if i = 1 then b else 0
  exact ⟨x, firstNz_two hx, m_Or 2 (by decide) _ x hx⟩
set_option maxRecDepth 100000 in
theorem c_wcompare (s e s2 e2 : Int) : ∃ x : Int, x = (if s < s2 then -1 else if s2 < s then 1 else if e < e2 then -1 else if e2 < e then 1 else 0) ∧ Meets Tryz.prog 186 [.agg [.d (eI s), .d (eI e)], .agg [.d (eI s2), .d (eI e2)]] ⟨.one (.c (.d (eI x))), [none, none]⟩ := by
  obtain ⟨x, hx⟩ : ∃ x : Int, x = (if s < s2 then -1 else if s2 < s then 1 else if e < e2 then -1 else if e2 < e then 1 else 0) := ⟨_, rfl⟩
  refine ⟨x, hx, ?_⟩
  refine meets_of (H := []) (EX := EXA) ttok mixed Tryz.func186 rfl (by kernel_rfl) (by decide) ?_
  generalize hA : real = A
  generalize hM : MeetsB Tryz.prog = M
  cbv
  repeat' first
    | apply And.intro
    | exact True.intro
    | with_reducible rfl
    | exact same_of hA rfl
    | refine br_of hA (fun _ => ?_) (fun _ => ?_)
    | exact imp_of hA id
    | (refine imp_of hA ?_; subst hA; simp only [real, Bool.true_and]; exact id)
    | (refine ind_of hA ?_; decide +kernel)
    | (refine call_ex hA hM (c_Compare _ _) (fun _ _ => ?_); cbv)
    | (refine call_ex2 hA hM (c_Or _ _) (congrArg (fun f => [XT.c (.d (.sl 1 2 f))]) (two_of hA _ _)) (fun _ _ => ?_); cbv)
    | fail
  all_goals subst hA
  all_goals refine congrArg (fun x => XA.one (.c (.d (eI x)))) ?_
  all_goals subst_vars
  all_goals try simp only [real, bifA, bifB, bifC, bifD, decide_eq_true_eq, decide_eq_false_iff_not, beq_iff_eq, bne_iff_ne, beq_eq_false_iff_ne, bne_eq_false_iff_eq, ne_eq, Bool.and_eq_true, Bool.or_eq_true, Bool.not_eq_true', Bool.not_eq_false', Bool.and_eq_false_iff, Bool.or_eq_false_iff, Bool.false_eq_true, reduceCtorEq] at *
  all_goals first
    | omega
    | skip
set_option maxRecDepth 100000 in
theorem c_rcompare (r q : RowT) : ∃ x : Int, x = (if r.key < q.key then -1 else if q.key < r.key then 1 else if r.win.s < q.win.s then -1 else if q.win.s < r.win.s then 1 else if r.win.e < q.win.e then -1 else if q.win.e < r.win.e then 1 else 0) ∧ Meets Tryz.prog 149 [xd (eRow r), xd (eRow q)] ⟨.one (.c (.d (eI x))), [none, none]⟩ := by
  obtain ⟨x, hx⟩ : ∃ x : Int, x = (if r.key < q.key then -1 else if q.key < r.key then 1 else if r.win.s < q.win.s then -1 else if q.win.s < r.win.s then 1 else if r.win.e < q.win.e then -1 else if q.win.e < r.win.e then 1 else 0) := ⟨_, rfl⟩
  refine ⟨x, hx, ?_⟩
  refine meets_of (H := []) (EX := EXA) ttok mixed Tryz.func149 rfl (by kernel_rfl) (by decide) ?_
  generalize hA : real = A
  generalize hM : MeetsB Tryz.prog = M
  cbv
  repeat' first
    | apply And.intro
    | exact True.intro
    | with_reducible rfl
    | exact same_of hA rfl
    | refine br_of hA (fun _ => ?_) (fun _ => ?_)
    | exact imp_of hA id
    | (refine imp_of hA ?_; subst hA; simp only [real, Bool.true_and]; exact id)
    | (refine ind_of hA ?_; decide +kernel)
    | (refine call_ex hA hM (c_Compare _ _) (fun _ _ => ?_); cbv)
    | (refine call_ex hA hM (c_wcompare _ _ _ _) (fun _ _ => ?_); cbv)
    | (refine call_ex2 hA hM (c_Or _ _) (congrArg (fun f => [XT.c (.d (.sl 1 2 f))]) (two_of hA _ _)) (fun _ _ => ?_); cbv)
    | fail
  all_goals subst hA
  all_goals refine congrArg (fun x => XA.one (.c (.d (eI x)))) ?_
  all_goals subst_vars
  all_goals try simp only [real, bifA, bifB, bifC, bifD, decide_eq_true_eq, decide_eq_false_iff_not, beq_iff_eq, bne_iff_ne, beq_eq_false_iff_ne, bne_eq_false_iff_eq, ne_eq, Bool.and_eq_true, Bool.or_eq_true, Bool.not_eq_true', Bool.not_eq_false', Bool.and_eq_false_iff, Bool.or_eq_false_iff, Bool.false_eq_true, reduceCtorEq] at *
  all_goals first
    | omega
    | skip
set_option maxRecDepth 100000 in
theorem c_WinTouch (s e s2 e2 : Int) : ∃ b, b = decide (s < e2 ∧ s2 < e) ∧ Meets Tryz.prog 151 [.agg [.d (eI s), .d (eI e)], .agg [.d (eI s2), .d (eI e2)]] ⟨.one (.c (.d (eB b))), [none, none]⟩ := by
  obtain ⟨b, hb⟩ : ∃ b, b = decide (s < e2 ∧ s2 < e) := ⟨_, rfl⟩
  refine ⟨b, hb, ?_⟩
  refine meets_of (H := []) (EX := EXA) ttok mixed Tryz.func151 rfl (by kernel_rfl) (by decide) ?_
  generalize hA : real = A
  generalize hM : MeetsB Tryz.prog = M
  cbv
  repeat' first
    | apply And.intro
    | exact True.intro
    | with_reducible rfl
    | exact same_of hA rfl
    | refine br_of hA (fun _ => ?_) (fun _ => ?_)
    | exact imp_of hA id
    | (refine imp_of hA ?_; subst hA; simp only [real, Bool.true_and]; exact id)
    | (refine ind_of hA ?_; decide +kernel)
    | fail
  all_goals subst hA
  all_goals refine congrArg (fun b => XA.one (.c (.d (eB b)))) (Bool.eq_iff_iff.2 ?_)
  all_goals subst_vars
  all_goals try simp only [real, bifA, bifB, bifC, bifD, decide_eq_true_eq, decide_eq_false_iff_not, beq_iff_eq, bne_iff_ne, beq_eq_false_iff_ne, bne_eq_false_iff_eq, ne_eq, Bool.and_eq_true, Bool.or_eq_true, Bool.not_eq_true', Bool.not_eq_false', Bool.and_eq_false_iff, Bool.or_eq_false_iff, Bool.false_eq_true, and_false, false_and, or_false, false_or, and_true, true_and, not_true_eq_false, not_false_eq_true, true_iff, false_iff, IntKind.wrap_i64] at *
  all_goals first
    | omega
    | skip
set_option maxRecDepth 100000 in
theorem c_sWinTouch (s e s2 e2 : Int) : ∃ b, b = decide (s < e2 ∧ s2 < e) ∧ Meets Tryz.prog 140 [.agg [.d (eI s), .d (eI e)], .agg [.d (eI s2), .d (eI e2)]] ⟨.one (.c (.d (eB b))), [none, none]⟩ := by
  obtain ⟨b, hb⟩ : ∃ b, b = decide (s < e2 ∧ s2 < e) := ⟨_, rfl⟩
  refine ⟨b, hb, ?_⟩
  refine meets_of (H := []) (EX := EXA) ttok mixed Tryz.func140 rfl (by kernel_rfl) (by decide) ?_
  generalize hA : real = A
  generalize hM : MeetsB Tryz.prog = M
  cbv
  repeat' first
    | apply And.intro
    | exact True.intro
    | with_reducible rfl
    | exact same_of hA rfl
    | refine br_of hA (fun _ => ?_) (fun _ => ?_)
    | exact imp_of hA id
    | (refine imp_of hA ?_; subst hA; simp only [real, Bool.true_and]; exact id)
    | (refine ind_of hA ?_; decide +kernel)
    | fail
  all_goals subst hA
  all_goals refine congrArg (fun b => XA.one (.c (.d (eB b)))) (Bool.eq_iff_iff.2 ?_)
  all_goals subst_vars
  all_goals try simp only [real, bifA, bifB, bifC, bifD, decide_eq_true_eq, decide_eq_false_iff_not, beq_iff_eq, bne_iff_ne, beq_eq_false_iff_ne, bne_eq_false_iff_eq, ne_eq, Bool.and_eq_true, Bool.or_eq_true, Bool.not_eq_true', Bool.not_eq_false', Bool.and_eq_false_iff, Bool.or_eq_false_iff, Bool.false_eq_true, and_false, false_and, or_false, false_or, and_true, true_and, not_true_eq_false, not_false_eq_true, true_iff, false_iff, IntKind.wrap_i64] at *
  all_goals first
    | omega
    | skip
set_option maxRecDepth 100000 in
theorem c_l2Less (s e s2 e2 : Int) : ∃ b, b = decide (s < s2 ∨ (s = s2 ∧ e < e2)) ∧ Meets Tryz.prog 178 [.agg [.d (eI s), .d (eI e)], .agg [.d (eI s2), .d (eI e2)]] ⟨.one (.c (.d (eB b))), [none, none]⟩ := by
  obtain ⟨b, hb⟩ : ∃ b, b = decide (s < s2 ∨ (s = s2 ∧ e < e2)) := ⟨_, rfl⟩
  refine ⟨b, hb, ?_⟩
  refine meets_of (H := []) (EX := EXA) ttok mixed Tryz.func178 rfl (by kernel_rfl) (by decide) ?_
  generalize hA : real = A
  generalize hM : MeetsB Tryz.prog = M
  cbv
  repeat' first
    | apply And.intro
    | exact True.intro
    | with_reducible rfl
    | exact same_of hA rfl
    | refine br_of hA (fun _ => ?_) (fun _ => ?_)
    | exact imp_of hA id
    | (refine imp_of hA ?_; subst hA; simp only [real, Bool.true_and]; exact id)
    | (refine ind_of hA ?_; decide +kernel)
    | fail
  all_goals subst hA
  all_goals refine congrArg (fun b => XA.one (.c (.d (eB b)))) (Bool.eq_iff_iff.2 ?_)
  all_goals subst_vars
  all_goals try simp only [real, bifA, bifB, bifC, bifD, decide_eq_true_eq, decide_eq_false_iff_not, beq_iff_eq, bne_iff_ne, beq_eq_false_iff_ne, bne_eq_false_iff_eq, ne_eq, Bool.and_eq_true, Bool.or_eq_true, Bool.not_eq_true', Bool.not_eq_false', Bool.and_eq_false_iff, Bool.or_eq_false_iff, Bool.false_eq_true, and_false, false_and, or_false, false_or, and_true, true_and, not_true_eq_false, not_false_eq_true, true_iff, false_iff, IntKind.wrap_i64] at *
  all_goals first
    | omega
    | skip
set_option maxRecDepth 100000 in
theorem c_l5Ahead (k s e k2 s2 e2 : Int) : ∃ b, b = decide (k < k2 ∨ (k = k2 ∧ (s < s2 ∨ (s = s2 ∧ e < e2)))) ∧ Meets Tryz.prog 139 [.c (.d (eI k)), .agg [.d (eI s), .d (eI e)], .c (.d (eI k2)), .agg [.d (eI s2), .d (eI e2)]] ⟨.one (.c (.d (eB b))), [none, none, none, none]⟩ := by
  obtain ⟨b, hb⟩ : ∃ b, b = decide (k < k2 ∨ (k = k2 ∧ (s < s2 ∨ (s = s2 ∧ e < e2)))) := ⟨_, rfl⟩
  refine ⟨b, hb, ?_⟩
  refine meets_of (H := []) (EX := EXA) ttok mixed Tryz.func139 rfl (by kernel_rfl) (by decide) ?_
  generalize hA : real = A
  generalize hM : MeetsB Tryz.prog = M
  cbv
  repeat' first
    | apply And.intro
    | exact True.intro
    | with_reducible rfl
    | exact same_of hA rfl
    | refine br_of hA (fun _ => ?_) (fun _ => ?_)
    | exact imp_of hA id
    | (refine imp_of hA ?_; subst hA; simp only [real, Bool.true_and]; exact id)
    | (refine ind_of hA ?_; decide +kernel)
    | (refine call_ex hA hM (c_l2Less _ _ _ _) (fun _ _ => ?_); cbv)
    | fail
  all_goals subst hA
  all_goals refine congrArg (fun b => XA.one (.c (.d (eB b)))) (Bool.eq_iff_iff.2 ?_)
  all_goals subst_vars
  all_goals try simp only [real, bifA, bifB, bifC, bifD, decide_eq_true_eq, decide_eq_false_iff_not, beq_iff_eq, bne_iff_ne, beq_eq_false_iff_ne, bne_eq_false_iff_eq, ne_eq, Bool.and_eq_true, Bool.or_eq_true, Bool.not_eq_true', Bool.not_eq_false', Bool.and_eq_false_iff, Bool.or_eq_false_iff, Bool.false_eq_true, and_false, false_and, or_false, false_or, and_true, true_and, not_true_eq_false, not_false_eq_true, true_iff, false_iff, IntKind.wrap_i64] at *
  all_goals first
    | omega
    | skip
set_option maxRecDepth 100000 in
theorem c_AggOk (n sum least most : Int) : ∃ b, b = decide ((n = 0 ∧ sum = 0 ∧ least = 0 ∧ most = 0) ∨ (n ≠ 0 ∧ (1 ≤ n ∧ n ≤ 1000) ∧ (-9 ≤ least ∧ least ≤ 9) ∧ (least ≤ most ∧ most ≤ 9) ∧ (IntKind.i64.wrap (n * least) ≤ sum ∧ sum ≤ IntKind.i64.wrap (n * most)))) ∧ Meets Tryz.prog 183 [.agg [.d (eI n), .d (eI sum), .d (eI least), .d (eI most)]] ⟨.one (.c (.d (eB b))), [none]⟩ := by
  obtain ⟨b, hb⟩ : ∃ b, b = decide ((n = 0 ∧ sum = 0 ∧ least = 0 ∧ most = 0) ∨ (n ≠ 0 ∧ (1 ≤ n ∧ n ≤ 1000) ∧ (-9 ≤ least ∧ least ≤ 9) ∧ (least ≤ most ∧ most ≤ 9) ∧ (IntKind.i64.wrap (n * least) ≤ sum ∧ sum ≤ IntKind.i64.wrap (n * most)))) := ⟨_, rfl⟩
  refine ⟨b, hb, ?_⟩
  refine meets_of (H := []) (EX := EXA) ttok mixed Tryz.func183 rfl (by kernel_rfl) (by decide) ?_
  generalize hA : real = A
  generalize hM : MeetsB Tryz.prog = M
  cbv
  repeat' first
    | apply And.intro
    | exact True.intro
    | with_reducible rfl
    | exact same_of hA rfl
    | refine br_of hA (fun _ => ?_) (fun _ => ?_)
    | exact imp_of hA id
    | (refine imp_of hA ?_; subst hA; simp only [real, Bool.true_and]; exact id)
    | (refine ind_of hA ?_; decide +kernel)
    | (refine call_ex hA hM (c_in _ _ _) (fun _ _ => ?_); cbv)
    | fail
  all_goals subst hA
  all_goals refine congrArg (fun b => XA.one (.c (.d (eB b)))) (Bool.eq_iff_iff.2 ?_)
  all_goals subst_vars
  all_goals try simp only [real, bifA, bifB, bifC, bifD, decide_eq_true_eq, decide_eq_false_iff_not, beq_iff_eq, bne_iff_ne, beq_eq_false_iff_ne, bne_eq_false_iff_eq, ne_eq, Bool.and_eq_true, Bool.or_eq_true, Bool.not_eq_true', Bool.not_eq_false', Bool.and_eq_false_iff, Bool.or_eq_false_iff, Bool.false_eq_true, and_false, false_and, or_false, false_or, and_true, true_and, not_true_eq_false, not_false_eq_true, true_iff, false_iff, IntKind.wrap_i64] at *
  all_goals first
    | omega
    | skip
set_option maxRecDepth 100000 in
theorem c_sAggOk (n sum least most : Int) : ∃ b, b = decide ((n = 0 ∧ sum = 0 ∧ least = 0 ∧ most = 0) ∨ (n ≠ 0 ∧ (1 ≤ n ∧ n ≤ 1000) ∧ (-9 ≤ least ∧ least ≤ 9) ∧ (least ≤ most ∧ most ≤ 9) ∧ (IntKind.i64.wrap (n * least) ≤ sum ∧ sum ≤ IntKind.i64.wrap (n * most)))) ∧ Meets Tryz.prog 177 [.agg [.d (eI n), .d (eI sum), .d (eI least), .d (eI most)]] ⟨.one (.c (.d (eB b))), [none]⟩ := by
  obtain ⟨b, hb⟩ : ∃ b, b = decide ((n = 0 ∧ sum = 0 ∧ least = 0 ∧ most = 0) ∨ (n ≠ 0 ∧ (1 ≤ n ∧ n ≤ 1000) ∧ (-9 ≤ least ∧ least ≤ 9) ∧ (least ≤ most ∧ most ≤ 9) ∧ (IntKind.i64.wrap (n * least) ≤ sum ∧ sum ≤ IntKind.i64.wrap (n * most)))) := ⟨_, rfl⟩
  refine ⟨b, hb, ?_⟩
  refine meets_of (H := []) (EX := EXA) ttok mixed Tryz.func177 rfl (by kernel_rfl) (by decide) ?_
  generalize hA : real = A
  generalize hM : MeetsB Tryz.prog = M
  cbv
  repeat' first
    | apply And.intro
    | exact True.intro
    | with_reducible rfl
    | exact same_of hA rfl
    | refine br_of hA (fun _ => ?_) (fun _ => ?_)
    | exact imp_of hA id
    | (refine imp_of hA ?_; subst hA; simp only [real, Bool.true_and]; exact id)
    | (refine ind_of hA ?_; decide +kernel)
    | (refine call_ex hA hM (c_l1In _ _ _) (fun _ _ => ?_); cbv)
    | fail
  all_goals subst hA
  all_goals refine congrArg (fun b => XA.one (.c (.d (eB b)))) (Bool.eq_iff_iff.2 ?_)
  all_goals subst_vars
  all_goals try simp only [real, bifA, bifB, bifC, bifD, decide_eq_true_eq, decide_eq_false_iff_not, beq_iff_eq, bne_iff_ne, beq_eq_false_iff_ne, bne_eq_false_iff_eq, ne_eq, Bool.and_eq_true, Bool.or_eq_true, Bool.not_eq_true', Bool.not_eq_false', Bool.and_eq_false_iff, Bool.or_eq_false_iff, Bool.false_eq_true, and_false, false_and, or_false, false_or, and_true, true_and, not_true_eq_false, not_false_eq_true, true_iff, false_iff, IntKind.wrap_i64] at *
  all_goals first
    | omega
    | skip
end Go.Rk
/- First places. -/
namespace Go.Rk
set_option linter.unusedSimpArgs false
set_option linter.unusedVariables false
open Go.Proofs
def stIxRow1 (n : Nat) (g : Nat → RowT) (F : FuncId) (c0 : DV) (i : Nat) : St := ⟨[(8, .c (.d (eI i))), (7, .c (.d (eI n))), (0, .c (.d (.sl 13 n fun i => eRow (g i)))), (1, .c (.d (.fn F [c0])))], []⟩
set_option maxRecDepth 100000 in
theorem c_IndexRow1 (n : Nat) (hn : n ≤ maxLen) (g : Nat → RowT) (F : FuncId) (c0 : DV) (Q : RowT → Prop) (hc : ∀ r, ∃ b, (b = true ↔ Q r) ∧ Meets Tryz.prog F [xd (eRow r), .c (.d c0)] ⟨.one (.c (.d (eB b))), [none, none]⟩) : ∃ x, FirstIx n (fun i => Q (g i)) x ∧ Meets Tryz.prog 187 [.c (.d (.sl 13 n fun i => eRow (g i))), .c (.d (.fn F [c0]))] ⟨.one (.c (.d (eI x))), [none, none]⟩ := by
  obtain ⟨x, hx⟩ := firstIx_ex n fun i => Q (g i)
  refine ⟨x, hx, ?_⟩
  refine meets_of (H := []) (EX := EXA) ttok mixed Tryz.func187 rfl (by kernel_rfl) (by decide) ?_
  generalize hA : real = A
  generalize hM : MeetsB Tryz.prog = M
  cbv
  repeat' first
    | apply And.intro
    | exact True.intro
    | with_reducible rfl
    | exact same_of hA rfl
    | refine br_of hA (fun _ => ?_) (fun _ => ?_)
    | exact imp_of hA id
    | (refine imp_of hA ?_; subst hA; simp only [real, Bool.true_and]; exact id)
    | (refine ind_of hA ?_; decide +kernel)
    | fail
  refine loop_of hA (α := { i : Nat // i ≤ n ∧ ∀ j, j < i → ¬ Q (g j) }) (fun x => stIxRow1 n g F c0 x.1) (fun x => n - x.1) ⟨0, Nat.zero_le _, fun j h => absurd h (Nat.not_lt_zero _)⟩ ?_ ?_
  · refine cov_of ?_ ?_ ?_
    · cbv; subst hA; exact ⟨rfl, rfl, trivial⟩
    · cbv
    · cbv
  rintro ⟨i, hi, hb⟩
  cbv
  repeat' first
    | apply And.intro
    | exact True.intro
    | with_reducible rfl
    | exact same_of hA rfl
    | refine br_of hA (fun _ => ?_) (fun _ => ?_)
    | exact imp_of hA id
    | (refine imp_of hA ?_; subst hA; simp only [real, Bool.true_and]; exact id)
    | (refine ind_of hA ?_; decide +kernel)
    | (refine inb_of hA fun _ => ?_; subst hA; simp only [real, decide_eq_true_eq, Int.ofNat_eq_natCast] at *; omega)
    | fail
  · refine call_ex hA hM (hc (g (A.nat (Int.ofNat i)))) (fun b hbb => ?_)
    cbv
    repeat' first
      | apply And.intro
      | exact True.intro
      | with_reducible rfl
      | exact same_of hA rfl
      | refine br_of hA (fun _ => ?_) (fun _ => ?_)
      | exact imp_of hA id
      | (refine imp_of hA ?_; subst hA; simp only [real, Bool.true_and]; exact id)
      | (refine ind_of hA ?_; decide +kernel)
      | fail
    · rename_i hlt ht
      subst hA
      simp only [real, decide_eq_true_eq, Int.ofNat_eq_natCast, Int.toNat_natCast] at *
      obtain rfl := firstIx_one hx (.at i (by omega) (hbb.1 ht) hb)
      rfl
    · rename_i hlt ht
      have hlt' : i < n := by subst hA; simp only [real, decide_eq_true_eq, Int.ofNat_eq_natCast] at hlt; omega
      refine ⟨⟨i + 1, by omega, fun j hj => ?_⟩, by simp only; omega, cov_of ?_ ?_ ?_⟩
      · by_cases e : j = i
        · subst e
          subst hA
          intro hq
          have := hbb.2 hq
          rw [ht] at this
          cases this
        · exact hb j (by omega)
      · cbv
        subst hA
        exact ⟨congrArg (fun x => DV.v (.int .i64 x)) (up64 hlt' hn), trivial⟩
      · cbv
      · cbv
  · subst hA
    simp only [real, decide_eq_false_iff_not, Int.ofNat_eq_natCast] at *
    obtain rfl := firstIx_one hx (.none fun j hj => hb j (by omega))
    rfl
set_option maxRecDepth 100000 in
theorem c_ContainsRow1 (n : Nat) (hn : n ≤ maxLen) (g : Nat → RowT) (F : FuncId) (c0 : DV) (Q : RowT → Prop) (hc : ∀ r, ∃ b, (b = true ↔ Q r) ∧ Meets Tryz.prog F [xd (eRow r), .c (.d c0)] ⟨.one (.c (.d (eB b))), [none, none]⟩) : ∃ b, (b = true ↔ ∃ i, i < n ∧ Q (g i)) ∧ Meets Tryz.prog 152 [.c (.d (.sl 13 n fun i => eRow (g i))), .c (.d (.fn F [c0]))] ⟨.one (.c (.d (eB b))), [none, none]⟩ := by
  obtain ⟨x, hx, hm⟩ := c_IndexRow1 n hn g F c0 Q hc
  obtain ⟨b, hb⟩ : ∃ b, b = decide (0 ≤ x) := ⟨_, rfl⟩
  have hxx := firstIx_neg hx
  refine ⟨b, by rw [hb, decide_eq_true_eq]; exact hxx.1, ?_⟩
  refine meets_of (H := []) (EX := EXA) ttok mixed Tryz.func152 rfl (by kernel_rfl) (by decide) ?_
  generalize hA : real = A
  generalize hM : MeetsB Tryz.prog = M
  cbv
  repeat' first
    | apply And.intro
    | exact True.intro
    | with_reducible rfl
    | exact same_of hA rfl
    | refine br_of hA (fun _ => ?_) (fun _ => ?_)
    | exact imp_of hA id
    | (refine imp_of hA ?_; subst hA; simp only [real, Bool.true_and]; exact id)
    | (refine ind_of hA ?_; decide +kernel)
    | (refine call_of hA hM _ hm ?_; cbv)
    | fail
  all_goals subst hA
  all_goals refine congrArg (fun b => XA.one (.c (.d (eB b)))) (Bool.eq_iff_iff.2 ?_)
  all_goals subst_vars
  all_goals try simp only [real, bifA, bifB, bifC, bifD, decide_eq_true_eq, decide_eq_false_iff_not, beq_iff_eq, bne_iff_ne, beq_eq_false_iff_ne, bne_eq_false_iff_eq, ne_eq, Bool.and_eq_true, Bool.or_eq_true, Bool.not_eq_true', Bool.not_eq_false', Bool.and_eq_false_iff, Bool.or_eq_false_iff, Bool.false_eq_true, and_false, false_and, or_false, false_or, and_true, true_and, not_true_eq_false, not_false_eq_true, true_iff, false_iff, IntKind.wrap_i64] at *
  all_goals first
    | omega
    | skip
def stIxItm0 (n : Nat) (g : Nat → ItmT) (F : FuncId) (i : Nat) : St := ⟨[(8, .c (.d (eI i))), (7, .c (.d (eI n))), (0, .c (.d (.sl 5 n fun i => eItm (g i)))), (1, .c (.d (.fn F [])))], []⟩
set_option maxRecDepth 100000 in
theorem c_IndexItm0 (n : Nat) (hn : n ≤ maxLen) (g : Nat → ItmT) (F : FuncId) (Q : ItmT → Prop) (hc : ∀ r, ∃ b, (b = true ↔ Q r) ∧ Meets Tryz.prog F [xd (eItm r)] ⟨.one (.c (.d (eB b))), [none]⟩) : ∃ x, FirstIx n (fun i => Q (g i)) x ∧ Meets Tryz.prog 188 [.c (.d (.sl 5 n fun i => eItm (g i))), .c (.d (.fn F []))] ⟨.one (.c (.d (eI x))), [none, none]⟩ := by
  obtain ⟨x, hx⟩ := firstIx_ex n fun i => Q (g i)
  refine ⟨x, hx, ?_⟩
  refine meets_of (H := []) (EX := EXA) ttok mixed Tryz.func188 rfl (by kernel_rfl) (by decide) ?_
  generalize hA : real = A
  generalize hM : MeetsB Tryz.prog = M
  cbv
  repeat' first
    | apply And.intro
    | exact True.intro
    | with_reducible rfl
    | exact same_of hA rfl
    | refine br_of hA (fun _ => ?_) (fun _ => ?_)
    | exact imp_of hA id
    | (refine imp_of hA ?_; subst hA; simp only [real, Bool.true_and]; exact id)
    | (refine ind_of hA ?_; decide +kernel)
    | fail
  refine loop_of hA (α := { i : Nat // i ≤ n ∧ ∀ j, j < i → ¬ Q (g j) }) (fun x => stIxItm0 n g F x.1) (fun x => n - x.1) ⟨0, Nat.zero_le _, fun j h => absurd h (Nat.not_lt_zero _)⟩ ?_ ?_
  · refine cov_of ?_ ?_ ?_
    · cbv; subst hA; exact ⟨rfl, rfl, trivial⟩
    · cbv
    · cbv
  rintro ⟨i, hi, hb⟩
  cbv
  repeat' first
    | apply And.intro
    | exact True.intro
    | with_reducible rfl
    | exact same_of hA rfl
    | refine br_of hA (fun _ => ?_) (fun _ => ?_)
    | exact imp_of hA id
    | (refine imp_of hA ?_; subst hA; simp only [real, Bool.true_and]; exact id)
    | (refine ind_of hA ?_; decide +kernel)
    | (refine inb_of hA fun _ => ?_; subst hA; simp only [real, decide_eq_true_eq, Int.ofNat_eq_natCast] at *; omega)
    | fail
  · refine call_ex hA hM (hc (g (A.nat (Int.ofNat i)))) (fun b hbb => ?_)
    cbv
    repeat' first
      | apply And.intro
      | exact True.intro
      | with_reducible rfl
      | exact same_of hA rfl
      | refine br_of hA (fun _ => ?_) (fun _ => ?_)
      | exact imp_of hA id
      | (refine imp_of hA ?_; subst hA; simp only [real, Bool.true_and]; exact id)
      | (refine ind_of hA ?_; decide +kernel)
      | fail
    · rename_i hlt ht
      subst hA
      simp only [real, decide_eq_true_eq, Int.ofNat_eq_natCast, Int.toNat_natCast] at *
      obtain rfl := firstIx_one hx (.at i (by omega) (hbb.1 ht) hb)
      rfl
    · rename_i hlt ht
      have hlt' : i < n := by subst hA; simp only [real, decide_eq_true_eq, Int.ofNat_eq_natCast] at hlt; omega
      refine ⟨⟨i + 1, by omega, fun j hj => ?_⟩, by simp only; omega, cov_of ?_ ?_ ?_⟩
      · by_cases e : j = i
        · subst e
          subst hA
          intro hq
          have := hbb.2 hq
          rw [ht] at this
          cases this
        · exact hb j (by omega)
      · cbv
        subst hA
        exact ⟨congrArg (fun x => DV.v (.int .i64 x)) (up64 hlt' hn), trivial⟩
      · cbv
      · cbv
  · subst hA
    simp only [real, decide_eq_false_iff_not, Int.ofNat_eq_natCast] at *
    obtain rfl := firstIx_one hx (.none fun j hj => hb j (by omega))
    rfl
set_option maxRecDepth 100000 in
theorem c_ContainsItm0 (n : Nat) (hn : n ≤ maxLen) (g : Nat → ItmT) (F : FuncId) (Q : ItmT → Prop) (hc : ∀ r, ∃ b, (b = true ↔ Q r) ∧ Meets Tryz.prog F [xd (eItm r)] ⟨.one (.c (.d (eB b))), [none]⟩) : ∃ b, (b = true ↔ ∃ i, i < n ∧ Q (g i)) ∧ Meets Tryz.prog 155 [.c (.d (.sl 5 n fun i => eItm (g i))), .c (.d (.fn F []))] ⟨.one (.c (.d (eB b))), [none, none]⟩ := by
  obtain ⟨x, hx, hm⟩ := c_IndexItm0 n hn g F Q hc
  obtain ⟨b, hb⟩ : ∃ b, b = decide (0 ≤ x) := ⟨_, rfl⟩
  have hxx := firstIx_neg hx
  refine ⟨b, by rw [hb, decide_eq_true_eq]; exact hxx.1, ?_⟩
  refine meets_of (H := []) (EX := EXA) ttok mixed Tryz.func155 rfl (by kernel_rfl) (by decide) ?_
  generalize hA : real = A
  generalize hM : MeetsB Tryz.prog = M
  cbv
  repeat' first
    | apply And.intro
    | exact True.intro
    | with_reducible rfl
    | exact same_of hA rfl
    | refine br_of hA (fun _ => ?_) (fun _ => ?_)
    | exact imp_of hA id
    | (refine imp_of hA ?_; subst hA; simp only [real, Bool.true_and]; exact id)
    | (refine ind_of hA ?_; decide +kernel)
    | (refine call_of hA hM _ hm ?_; cbv)
    | fail
  all_goals subst hA
  all_goals refine congrArg (fun b => XA.one (.c (.d (eB b)))) (Bool.eq_iff_iff.2 ?_)
  all_goals subst_vars
  all_goals try simp only [real, bifA, bifB, bifC, bifD, decide_eq_true_eq, decide_eq_false_iff_not, beq_iff_eq, bne_iff_ne, beq_eq_false_iff_ne, bne_eq_false_iff_eq, ne_eq, Bool.and_eq_true, Bool.or_eq_true, Bool.not_eq_true', Bool.not_eq_false', Bool.and_eq_false_iff, Bool.or_eq_false_iff, Bool.false_eq_true, and_false, false_and, or_false, false_or, and_true, true_and, not_true_eq_false, not_false_eq_true, true_iff, false_iff, IntKind.wrap_i64] at *
  all_goals first
    | omega
    | skip
def stIxPane0 (n : Nat) (g : Nat → PaneT) (F : FuncId) (i : Nat) : St := ⟨[(8, .c (.d (eI i))), (7, .c (.d (eI n))), (0, .c (.d (.sl 9 n fun i => ePane (g i)))), (1, .c (.d (.fn F [])))], []⟩
set_option maxRecDepth 100000 in
theorem c_IndexPane0 (n : Nat) (hn : n ≤ maxLen) (g : Nat → PaneT) (F : FuncId) (Q : PaneT → Prop) (hc : ∀ r, ∃ b, (b = true ↔ Q r) ∧ Meets Tryz.prog F [xd (ePane r)] ⟨.one (.c (.d (eB b))), [none]⟩) : ∃ x, FirstIx n (fun i => Q (g i)) x ∧ Meets Tryz.prog 207 [.c (.d (.sl 9 n fun i => ePane (g i))), .c (.d (.fn F []))] ⟨.one (.c (.d (eI x))), [none, none]⟩ := by
  obtain ⟨x, hx⟩ := firstIx_ex n fun i => Q (g i)
  refine ⟨x, hx, ?_⟩
  refine meets_of (H := []) (EX := EXA) ttok mixed Tryz.func207 rfl (by kernel_rfl) (by decide) ?_
  generalize hA : real = A
  generalize hM : MeetsB Tryz.prog = M
  cbv
  repeat' first
    | apply And.intro
    | exact True.intro
    | with_reducible rfl
    | exact same_of hA rfl
    | refine br_of hA (fun _ => ?_) (fun _ => ?_)
    | exact imp_of hA id
    | (refine imp_of hA ?_; subst hA; simp only [real, Bool.true_and]; exact id)
    | (refine ind_of hA ?_; decide +kernel)
    | fail
  refine loop_of hA (α := { i : Nat // i ≤ n ∧ ∀ j, j < i → ¬ Q (g j) }) (fun x => stIxPane0 n g F x.1) (fun x => n - x.1) ⟨0, Nat.zero_le _, fun j h => absurd h (Nat.not_lt_zero _)⟩ ?_ ?_
  · refine cov_of ?_ ?_ ?_
    · cbv; subst hA; exact ⟨rfl, rfl, trivial⟩
    · cbv
    · cbv
  rintro ⟨i, hi, hb⟩
  cbv
  repeat' first
    | apply And.intro
    | exact True.intro
    | with_reducible rfl
    | exact same_of hA rfl
    | refine br_of hA (fun _ => ?_) (fun _ => ?_)
    | exact imp_of hA id
    | (refine imp_of hA ?_; subst hA; simp only [real, Bool.true_and]; exact id)
    | (refine ind_of hA ?_; decide +kernel)
    | (refine inb_of hA fun _ => ?_; subst hA; simp only [real, decide_eq_true_eq, Int.ofNat_eq_natCast] at *; omega)
    | fail
  · refine call_ex hA hM (hc (g (A.nat (Int.ofNat i)))) (fun b hbb => ?_)
    cbv
    repeat' first
      | apply And.intro
      | exact True.intro
      | with_reducible rfl
      | exact same_of hA rfl
      | refine br_of hA (fun _ => ?_) (fun _ => ?_)
      | exact imp_of hA id
      | (refine imp_of hA ?_; subst hA; simp only [real, Bool.true_and]; exact id)
      | (refine ind_of hA ?_; decide +kernel)
      | fail
    · rename_i hlt ht
      subst hA
      simp only [real, decide_eq_true_eq, Int.ofNat_eq_natCast, Int.toNat_natCast] at *
      obtain rfl := firstIx_one hx (.at i (by omega) (hbb.1 ht) hb)
      rfl
    · rename_i hlt ht
      have hlt' : i < n := by subst hA; simp only [real, decide_eq_true_eq, Int.ofNat_eq_natCast] at hlt; omega
      refine ⟨⟨i + 1, by omega, fun j hj => ?_⟩, by simp only; omega, cov_of ?_ ?_ ?_⟩
      · by_cases e : j = i
        · subst e
          subst hA
          intro hq
          have := hbb.2 hq
          rw [ht] at this
          cases this
        · exact hb j (by omega)
      · cbv
        subst hA
        exact ⟨congrArg (fun x => DV.v (.int .i64 x)) (up64 hlt' hn), trivial⟩
      · cbv
      · cbv
  · subst hA
    simp only [real, decide_eq_false_iff_not, Int.ofNat_eq_natCast] at *
    obtain rfl := firstIx_one hx (.none fun j hj => hb j (by omega))
    rfl
set_option maxRecDepth 100000 in
theorem c_ContainsPane0 (n : Nat) (hn : n ≤ maxLen) (g : Nat → PaneT) (F : FuncId) (Q : PaneT → Prop) (hc : ∀ r, ∃ b, (b = true ↔ Q r) ∧ Meets Tryz.prog F [xd (ePane r)] ⟨.one (.c (.d (eB b))), [none]⟩) : ∃ b, (b = true ↔ ∃ i, i < n ∧ Q (g i)) ∧ Meets Tryz.prog 193 [.c (.d (.sl 9 n fun i => ePane (g i))), .c (.d (.fn F []))] ⟨.one (.c (.d (eB b))), [none, none]⟩ := by
  obtain ⟨x, hx, hm⟩ := c_IndexPane0 n hn g F Q hc
  obtain ⟨b, hb⟩ : ∃ b, b = decide (0 ≤ x) := ⟨_, rfl⟩
  have hxx := firstIx_neg hx
  refine ⟨b, by rw [hb, decide_eq_true_eq]; exact hxx.1, ?_⟩
  refine meets_of (H := []) (EX := EXA) ttok mixed Tryz.func193 rfl (by kernel_rfl) (by decide) ?_
  generalize hA : real = A
  generalize hM : MeetsB Tryz.prog = M
  cbv
  repeat' first
    | apply And.intro
    | exact True.intro
    | with_reducible rfl
    | exact same_of hA rfl
    | refine br_of hA (fun _ => ?_) (fun _ => ?_)
    | exact imp_of hA id
    | (refine imp_of hA ?_; subst hA; simp only [real, Bool.true_and]; exact id)
    | (refine ind_of hA ?_; decide +kernel)
    | (refine call_of hA hM _ hm ?_; cbv)
    | fail
  all_goals subst hA
  all_goals refine congrArg (fun b => XA.one (.c (.d (eB b)))) (Bool.eq_iff_iff.2 ?_)
  all_goals subst_vars
  all_goals try simp only [real, bifA, bifB, bifC, bifD, decide_eq_true_eq, decide_eq_false_iff_not, beq_iff_eq, bne_iff_ne, beq_eq_false_iff_ne, bne_eq_false_iff_eq, ne_eq, Bool.and_eq_true, Bool.or_eq_true, Bool.not_eq_true', Bool.not_eq_false', Bool.and_eq_false_iff, Bool.or_eq_false_iff, Bool.false_eq_true, and_false, false_and, or_false, false_or, and_true, true_and, not_true_eq_false, not_false_eq_true, true_iff, false_iff, IntKind.wrap_i64] at *
  all_goals first
    | omega
    | skip
def stIxLat0 (n : Nat) (g : Nat → LatT) (F : FuncId) (i : Nat) : St := ⟨[(8, .c (.d (eI i))), (7, .c (.d (eI n))), (0, .c (.d (.sl 7 n fun i => eLat (g i)))), (1, .c (.d (.fn F [])))], []⟩
set_option maxRecDepth 100000 in
theorem c_IndexLat0 (n : Nat) (hn : n ≤ maxLen) (g : Nat → LatT) (F : FuncId) (Q : LatT → Prop) (hc : ∀ r, ∃ b, (b = true ↔ Q r) ∧ Meets Tryz.prog F [xd (eLat r)] ⟨.one (.c (.d (eB b))), [none]⟩) : ∃ x, FirstIx n (fun i => Q (g i)) x ∧ Meets Tryz.prog 208 [.c (.d (.sl 7 n fun i => eLat (g i))), .c (.d (.fn F []))] ⟨.one (.c (.d (eI x))), [none, none]⟩ := by
  obtain ⟨x, hx⟩ := firstIx_ex n fun i => Q (g i)
  refine ⟨x, hx, ?_⟩
  refine meets_of (H := []) (EX := EXA) ttok mixed Tryz.func208 rfl (by kernel_rfl) (by decide) ?_
  generalize hA : real = A
  generalize hM : MeetsB Tryz.prog = M
  cbv
  repeat' first
    | apply And.intro
    | exact True.intro
    | with_reducible rfl
    | exact same_of hA rfl
    | refine br_of hA (fun _ => ?_) (fun _ => ?_)
    | exact imp_of hA id
    | (refine imp_of hA ?_; subst hA; simp only [real, Bool.true_and]; exact id)
    | (refine ind_of hA ?_; decide +kernel)
    | fail
  refine loop_of hA (α := { i : Nat // i ≤ n ∧ ∀ j, j < i → ¬ Q (g j) }) (fun x => stIxLat0 n g F x.1) (fun x => n - x.1) ⟨0, Nat.zero_le _, fun j h => absurd h (Nat.not_lt_zero _)⟩ ?_ ?_
  · refine cov_of ?_ ?_ ?_
    · cbv; subst hA; exact ⟨rfl, rfl, trivial⟩
    · cbv
    · cbv
  rintro ⟨i, hi, hb⟩
  cbv
  repeat' first
    | apply And.intro
    | exact True.intro
    | with_reducible rfl
    | exact same_of hA rfl
    | refine br_of hA (fun _ => ?_) (fun _ => ?_)
    | exact imp_of hA id
    | (refine imp_of hA ?_; subst hA; simp only [real, Bool.true_and]; exact id)
    | (refine ind_of hA ?_; decide +kernel)
    | (refine inb_of hA fun _ => ?_; subst hA; simp only [real, decide_eq_true_eq, Int.ofNat_eq_natCast] at *; omega)
    | fail
  · refine call_ex hA hM (hc (g (A.nat (Int.ofNat i)))) (fun b hbb => ?_)
    cbv
    repeat' first
      | apply And.intro
      | exact True.intro
      | with_reducible rfl
      | exact same_of hA rfl
      | refine br_of hA (fun _ => ?_) (fun _ => ?_)
      | exact imp_of hA id
      | (refine imp_of hA ?_; subst hA; simp only [real, Bool.true_and]; exact id)
      | (refine ind_of hA ?_; decide +kernel)
      | fail
    · rename_i hlt ht
      subst hA
      simp only [real, decide_eq_true_eq, Int.ofNat_eq_natCast, Int.toNat_natCast] at *
      obtain rfl := firstIx_one hx (.at i (by omega) (hbb.1 ht) hb)
      rfl
    · rename_i hlt ht
      have hlt' : i < n := by subst hA; simp only [real, decide_eq_true_eq, Int.ofNat_eq_natCast] at hlt; omega
      refine ⟨⟨i + 1, by omega, fun j hj => ?_⟩, by simp only; omega, cov_of ?_ ?_ ?_⟩
      · by_cases e : j = i
        · subst e
          subst hA
          intro hq
          have := hbb.2 hq
          rw [ht] at this
          cases this
        · exact hb j (by omega)
      · cbv
        subst hA
        exact ⟨congrArg (fun x => DV.v (.int .i64 x)) (up64 hlt' hn), trivial⟩
      · cbv
      · cbv
  · subst hA
    simp only [real, decide_eq_false_iff_not, Int.ofNat_eq_natCast] at *
    obtain rfl := firstIx_one hx (.none fun j hj => hb j (by omega))
    rfl
set_option maxRecDepth 100000 in
theorem c_ContainsLat0 (n : Nat) (hn : n ≤ maxLen) (g : Nat → LatT) (F : FuncId) (Q : LatT → Prop) (hc : ∀ r, ∃ b, (b = true ↔ Q r) ∧ Meets Tryz.prog F [xd (eLat r)] ⟨.one (.c (.d (eB b))), [none]⟩) : ∃ b, (b = true ↔ ∃ i, i < n ∧ Q (g i)) ∧ Meets Tryz.prog 194 [.c (.d (.sl 7 n fun i => eLat (g i))), .c (.d (.fn F []))] ⟨.one (.c (.d (eB b))), [none, none]⟩ := by
  obtain ⟨x, hx, hm⟩ := c_IndexLat0 n hn g F Q hc
  obtain ⟨b, hb⟩ : ∃ b, b = decide (0 ≤ x) := ⟨_, rfl⟩
  have hxx := firstIx_neg hx
  refine ⟨b, by rw [hb, decide_eq_true_eq]; exact hxx.1, ?_⟩
  refine meets_of (H := []) (EX := EXA) ttok mixed Tryz.func194 rfl (by kernel_rfl) (by decide) ?_
  generalize hA : real = A
  generalize hM : MeetsB Tryz.prog = M
  cbv
  repeat' first
    | apply And.intro
    | exact True.intro
    | with_reducible rfl
    | exact same_of hA rfl
    | refine br_of hA (fun _ => ?_) (fun _ => ?_)
    | exact imp_of hA id
    | (refine imp_of hA ?_; subst hA; simp only [real, Bool.true_and]; exact id)
    | (refine ind_of hA ?_; decide +kernel)
    | (refine call_of hA hM _ hm ?_; cbv)
    | fail
  all_goals subst hA
  all_goals refine congrArg (fun b => XA.one (.c (.d (eB b)))) (Bool.eq_iff_iff.2 ?_)
  all_goals subst_vars
  all_goals try simp only [real, bifA, bifB, bifC, bifD, decide_eq_true_eq, decide_eq_false_iff_not, beq_iff_eq, bne_iff_ne, beq_eq_false_iff_ne, bne_eq_false_iff_eq, ne_eq, Bool.and_eq_true, Bool.or_eq_true, Bool.not_eq_true', Bool.not_eq_false', Bool.and_eq_false_iff, Bool.or_eq_false_iff, Bool.false_eq_true, and_false, false_and, or_false, false_or, and_true, true_and, not_true_eq_false, not_false_eq_true, true_iff, false_iff, IntKind.wrap_i64] at *
  all_goals first
    | omega
    | skip
def stIxTskIn1 (n : Nat) (g : Nat → TskInT) (F : FuncId) (c0 : DV) (i : Nat) : St := ⟨[(8, .c (.d (eI i))), (7, .c (.d (eI n))), (0, .c (.d (.sl 3 n fun i => eTskIn (g i)))), (1, .c (.d (.fn F [c0])))], []⟩
set_option maxRecDepth 100000 in
theorem c_IndexTskIn1 (n : Nat) (hn : n ≤ maxLen) (g : Nat → TskInT) (F : FuncId) (c0 : DV) (Q : TskInT → Prop) (hc : ∀ r, ∃ b, (b = true ↔ Q r) ∧ Meets Tryz.prog F [xd (eTskIn r), .c (.d c0)] ⟨.one (.c (.d (eB b))), [none, none]⟩) : ∃ x, FirstIx n (fun i => Q (g i)) x ∧ Meets Tryz.prog 153 [.c (.d (.sl 3 n fun i => eTskIn (g i))), .c (.d (.fn F [c0]))] ⟨.one (.c (.d (eI x))), [none, none]⟩ := by
  obtain ⟨x, hx⟩ := firstIx_ex n fun i => Q (g i)
  refine ⟨x, hx, ?_⟩
  refine meets_of (H := []) (EX := EXA) ttok mixed Tryz.func153 rfl (by kernel_rfl) (by decide) ?_
  generalize hA : real = A
  generalize hM : MeetsB Tryz.prog = M
  cbv
  repeat' first
    | apply And.intro
    | exact True.intro
    | with_reducible rfl
    | exact same_of hA rfl
    | refine br_of hA (fun _ => ?_) (fun _ => ?_)
    | exact imp_of hA id
    | (refine imp_of hA ?_; subst hA; simp only [real, Bool.true_and]; exact id)
    | (refine ind_of hA ?_; decide +kernel)
    | fail
  refine loop_of hA (α := { i : Nat // i ≤ n ∧ ∀ j, j < i → ¬ Q (g j) }) (fun x => stIxTskIn1 n g F c0 x.1) (fun x => n - x.1) ⟨0, Nat.zero_le _, fun j h => absurd h (Nat.not_lt_zero _)⟩ ?_ ?_
  · refine cov_of ?_ ?_ ?_
    · cbv; subst hA; exact ⟨rfl, rfl, trivial⟩
    · cbv
    · cbv
  rintro ⟨i, hi, hb⟩
  cbv
  repeat' first
    | apply And.intro
    | exact True.intro
    | with_reducible rfl
    | exact same_of hA rfl
    | refine br_of hA (fun _ => ?_) (fun _ => ?_)
    | exact imp_of hA id
    | (refine imp_of hA ?_; subst hA; simp only [real, Bool.true_and]; exact id)
    | (refine ind_of hA ?_; decide +kernel)
    | (refine inb_of hA fun _ => ?_; subst hA; simp only [real, decide_eq_true_eq, Int.ofNat_eq_natCast] at *; omega)
    | fail
  · refine call_ex hA hM (hc (g (A.nat (Int.ofNat i)))) (fun b hbb => ?_)
    cbv
    repeat' first
      | apply And.intro
      | exact True.intro
      | with_reducible rfl
      | exact same_of hA rfl
      | refine br_of hA (fun _ => ?_) (fun _ => ?_)
      | exact imp_of hA id
      | (refine imp_of hA ?_; subst hA; simp only [real, Bool.true_and]; exact id)
      | (refine ind_of hA ?_; decide +kernel)
      | fail
    · rename_i hlt ht
      subst hA
      simp only [real, decide_eq_true_eq, Int.ofNat_eq_natCast, Int.toNat_natCast] at *
      obtain rfl := firstIx_one hx (.at i (by omega) (hbb.1 ht) hb)
      rfl
    · rename_i hlt ht
      have hlt' : i < n := by subst hA; simp only [real, decide_eq_true_eq, Int.ofNat_eq_natCast] at hlt; omega
      refine ⟨⟨i + 1, by omega, fun j hj => ?_⟩, by simp only; omega, cov_of ?_ ?_ ?_⟩
      · by_cases e : j = i
        · subst e
          subst hA
          intro hq
          have := hbb.2 hq
          rw [ht] at this
          cases this
        · exact hb j (by omega)
      · cbv
        subst hA
        exact ⟨congrArg (fun x => DV.v (.int .i64 x)) (up64 hlt' hn), trivial⟩
      · cbv
      · cbv
  · subst hA
    simp only [real, decide_eq_false_iff_not, Int.ofNat_eq_natCast] at *
    obtain rfl := firstIx_one hx (.none fun j hj => hb j (by omega))
    rfl
set_option maxRecDepth 100000 in
theorem c_ContainsTskIn1 (n : Nat) (hn : n ≤ maxLen) (g : Nat → TskInT) (F : FuncId) (c0 : DV) (Q : TskInT → Prop) (hc : ∀ r, ∃ b, (b = true ↔ Q r) ∧ Meets Tryz.prog F [xd (eTskIn r), .c (.d c0)] ⟨.one (.c (.d (eB b))), [none, none]⟩) : ∃ b, (b = true ↔ ∃ i, i < n ∧ Q (g i)) ∧ Meets Tryz.prog 98 [.c (.d (.sl 3 n fun i => eTskIn (g i))), .c (.d (.fn F [c0]))] ⟨.one (.c (.d (eB b))), [none, none]⟩ := by
  obtain ⟨x, hx, hm⟩ := c_IndexTskIn1 n hn g F c0 Q hc
  obtain ⟨b, hb⟩ : ∃ b, b = decide (0 ≤ x) := ⟨_, rfl⟩
  have hxx := firstIx_neg hx
  refine ⟨b, by rw [hb, decide_eq_true_eq]; exact hxx.1, ?_⟩
  refine meets_of (H := []) (EX := EXA) ttok mixed Tryz.func98 rfl (by kernel_rfl) (by decide) ?_
  generalize hA : real = A
  generalize hM : MeetsB Tryz.prog = M
  cbv
  repeat' first
    | apply And.intro
    | exact True.intro
    | with_reducible rfl
    | exact same_of hA rfl
    | refine br_of hA (fun _ => ?_) (fun _ => ?_)
    | exact imp_of hA id
    | (refine imp_of hA ?_; subst hA; simp only [real, Bool.true_and]; exact id)
    | (refine ind_of hA ?_; decide +kernel)
    | (refine call_of hA hM _ hm ?_; cbv)
    | fail
  all_goals subst hA
  all_goals refine congrArg (fun b => XA.one (.c (.d (eB b)))) (Bool.eq_iff_iff.2 ?_)
  all_goals subst_vars
  all_goals try simp only [real, bifA, bifB, bifC, bifD, decide_eq_true_eq, decide_eq_false_iff_not, beq_iff_eq, bne_iff_ne, beq_eq_false_iff_ne, bne_eq_false_iff_eq, ne_eq, Bool.and_eq_true, Bool.or_eq_true, Bool.not_eq_true', Bool.not_eq_false', Bool.and_eq_false_iff, Bool.or_eq_false_iff, Bool.false_eq_true, and_false, false_and, or_false, false_or, and_true, true_and, not_true_eq_false, not_false_eq_true, true_iff, false_iff, IntKind.wrap_i64] at *
  all_goals first
    | omega
    | skip
end Go.Rk
/- Rows. -/
namespace Go.Rk
set_option linter.unusedSimpArgs false
set_option linter.unusedVariables false
open Go.Proofs
theorem beqB (a b : Bool) : ((a == b) = true) = (a = true ↔ b = true) := by cases a <;> cases b <;> simp
theorem beqI (a b : Int) : ((a == b) = true) = (a = b) := by simp
theorem bneI (a b : Int) : ((a != b) = true) = ¬ (a = b) := by simp
theorem beqIF (a b : Int) : ((a == b) = false) = ¬ (a = b) := by simp
theorem bneIF (a b : Int) : ((a != b) = false) = (a = b) := by simp
open Classical in
set_option maxRecDepth 100000 in
theorem c_rowOk (j : JobT) (r : RowT) (mark : Int) : ∃ b, (b = true ↔ RowOkP j r mark) ∧ Meets Tryz.prog 148 [xd (eRow r), xd (eJob j), .c (.d (eI mark))] ⟨.one (.c (.d (eB b))), [none, none, none]⟩ := by
  obtain ⟨b, hb⟩ : ∃ b, b = decide (RowOkP j r mark) := ⟨_, rfl⟩
  refine ⟨b, by rw [hb, decide_eq_true_eq], ?_⟩
  refine meets_of (H := []) (EX := EXA) ttok mixed Tryz.func148 rfl (by kernel_rfl) (by decide) ?_
  generalize hA : real = A
  generalize hM : MeetsB Tryz.prog = M
  cbv
  repeat' first
    | apply And.intro
    | exact True.intro
    | with_reducible rfl
    | exact same_of hA rfl
    | refine br_of hA (fun _ => ?_) (fun _ => ?_)
    | exact imp_of hA id
    | (refine imp_of hA ?_; subst hA; simp only [real, Bool.true_and]; exact id)
    | (refine ind_of hA ?_; decide +kernel)
    | (refine call_ex hA hM (c_in _ _ _) (fun _ _ => ?_); cbv)
    | (refine call_ex hA hM (c_isKey _) (fun _ _ => ?_); cbv)
    | (refine call_ex hA hM (c_WinOk _ _) (fun _ _ => ?_); cbv)
    | (refine call_ex hA hM (c_AggOk _ _ _ _) (fun _ _ => ?_); cbv)
    | fail
  all_goals obtain ⟨key, ⟨s, e⟩, ⟨n1, sum1, least1, most1⟩, ⟨n2, sum2, least2, most2⟩, told, timely⟩ := r
  all_goals obtain ⟨_, _, _, _, _, late, _, _, _, _⟩ := j
  all_goals subst hA
  all_goals refine congrArg (fun b => XA.one (.c (.d (eB b)))) (Bool.eq_iff_iff.2 ?_)
  all_goals subst_vars
  all_goals simp only [real, bifA, bifB, bifC, bifD, beqB, decide_eq_true_eq, decide_eq_false_iff_not, beqI, bneI, beqIF, bneIF, ne_eq, Bool.and_eq_true, Bool.or_eq_true, Bool.not_eq_true', Bool.not_eq_false', Bool.and_eq_false_iff, Bool.or_eq_false_iff, Bool.false_eq_true, and_false, false_and, or_false, false_or, and_true, true_and, not_true_eq_false, not_false_eq_true, true_iff, false_iff, IntKind.wrap_i64, RowOkP, WinOkP, AggOkP] at *
  all_goals first
    | omega
    | (cases timely <;> simp only [true_iff, false_iff, iff_true, iff_false, Bool.false_eq_true, not_true_eq_false, not_false_eq_true, reduceCtorEq] at * <;> omega)
open Classical in
set_option maxRecDepth 100000 in
theorem c_l7Row (j : JobT) (r : RowT) (mark : Int) : ∃ b, (b = true ↔ RowOkP j r mark) ∧ Meets Tryz.prog 138 [xd (eJob j), xd (eRow r), .c (.d (eI mark))] ⟨.one (.c (.d (eB b))), [none, none, none]⟩ := by
  obtain ⟨b, hb⟩ : ∃ b, b = decide (RowOkP j r mark) := ⟨_, rfl⟩
  refine ⟨b, by rw [hb, decide_eq_true_eq], ?_⟩
  refine meets_of (H := []) (EX := EXA) ttok mixed Tryz.func138 rfl (by kernel_rfl) (by decide) ?_
  generalize hA : real = A
  generalize hM : MeetsB Tryz.prog = M
  cbv
  repeat' first
    | apply And.intro
    | exact True.intro
    | with_reducible rfl
    | exact same_of hA rfl
    | refine br_of hA (fun _ => ?_) (fun _ => ?_)
    | exact imp_of hA id
    | (refine imp_of hA ?_; subst hA; simp only [real, Bool.true_and]; exact id)
    | (refine ind_of hA ?_; decide +kernel)
    | (refine call_ex hA hM (c_l1In _ _ _) (fun _ _ => ?_); cbv)
    | (refine call_ex hA hM (c_sWinOk _ _) (fun _ _ => ?_); cbv)
    | (refine call_ex hA hM (c_sAggOk _ _ _ _) (fun _ _ => ?_); cbv)
    | fail
  all_goals obtain ⟨key, ⟨s, e⟩, ⟨n1, sum1, least1, most1⟩, ⟨n2, sum2, least2, most2⟩, told, timely⟩ := r
  all_goals obtain ⟨_, _, _, _, _, late, _, _, _, _⟩ := j
  all_goals subst hA
  all_goals refine congrArg (fun b => XA.one (.c (.d (eB b)))) (Bool.eq_iff_iff.2 ?_)
  all_goals subst_vars
  all_goals simp only [real, bifA, bifB, bifC, bifD, beqB, decide_eq_true_eq, decide_eq_false_iff_not, beqI, bneI, beqIF, bneIF, ne_eq, Bool.and_eq_true, Bool.or_eq_true, Bool.not_eq_true', Bool.not_eq_false', Bool.and_eq_false_iff, Bool.or_eq_false_iff, Bool.false_eq_true, and_false, false_and, or_false, false_or, and_true, true_and, not_true_eq_false, not_false_eq_true, true_iff, false_iff, IntKind.wrap_i64, RowOkP, WinOkP, AggOkP] at *
  all_goals first
    | omega
    | (cases timely <;> simp only [true_iff, false_iff, iff_true, iff_false, Bool.false_eq_true, not_true_eq_false, not_false_eq_true, reduceCtorEq] at * <;> omega)
end Go.Rk
/- Operators. -/
namespace Go.Rk
set_option linter.unusedSimpArgs false
set_option linter.unusedVariables false
open Go.Proofs
def OkAt (j : JobT) (mark : Int) (g : Nat → RowT) (i : Nat) : Prop := RowOkP j (g i) mark ∧ (0 < i → AheadP (g (i - 1)).key (g (i - 1)).win (g i).key (g i).win) ∧
    (j.kind = 3 → ∀ k, k < i → ¬ ((g k).key = (g i).key ∧ TouchP (g k).win (g i).win))
theorem down64 {i : Nat} (h : 0 < i) (hn : i ≤ maxLen) : (IntKind.i64.wrap ((i : Int) - 1)).toNat = i - 1 := by
  have hm : maxLen = 9223372036854775807 := by decide
  rw [hm] at hn
  rw [IntWalk.i64_in _ (by omega)]
  omega
theorem c_rcmpA (r q : RowT) : ∃ x : Int, (x < 0 ↔ AheadP r.key r.win q.key q.win) ∧ Meets Tryz.prog 149 [xd (eRow r), xd (eRow q)] ⟨.one (.c (.d (eI x))), [none, none]⟩ := by
  obtain ⟨x, hx, hm⟩ := c_rcompare r q
  refine ⟨x, ?_, hm⟩
  unfold AheadP WinLt
  omega
set_option maxRecDepth 100000 in
theorem c_OpOk1 (r q : RowT) : ∃ b, (b = true ↔ q.key = r.key ∧ TouchP q.win r.win) ∧ Meets Tryz.prog 150 [xd (eRow q), .c (.d (.p (eRow r)))] ⟨.one (.c (.d (eB b))), [none, none]⟩ := by
  obtain ⟨b, hb⟩ : ∃ b, b = decide (q.key = r.key ∧ q.win.s < r.win.e ∧ r.win.s < q.win.e) := ⟨_, rfl⟩
  refine ⟨b, by rw [hb, decide_eq_true_eq]; exact Iff.rfl, ?_⟩
  refine meets_of (H := []) (EX := EXA) ttok mixed Tryz.func150 rfl (by kernel_rfl) (by decide) ?_
  generalize hA : real = A
  generalize hM : MeetsB Tryz.prog = M
  cbv
  repeat' first
    | apply And.intro
    | exact True.intro
    | with_reducible rfl
    | exact same_of hA rfl
    | refine br_of hA (fun _ => ?_) (fun _ => ?_)
    | exact imp_of hA id
    | (refine imp_of hA ?_; subst hA; simp only [real, Bool.true_and]; exact id)
    | (refine ind_of hA ?_; decide +kernel)
    | (refine call_ex hA hM (c_WinTouch _ _ _ _) (fun _ _ => ?_); cbv)
    | fail
  all_goals subst hA
  all_goals refine congrArg (fun b => XA.one (.c (.d (eB b)))) (Bool.eq_iff_iff.2 ?_)
  all_goals subst_vars
  all_goals try simp only [real, bifA, bifB, bifC, bifD, decide_eq_true_eq, decide_eq_false_iff_not, beq_iff_eq, bne_iff_ne, beq_eq_false_iff_ne, bne_eq_false_iff_eq, ne_eq, Bool.and_eq_true, Bool.or_eq_true, Bool.not_eq_true', Bool.not_eq_false', Bool.and_eq_false_iff, Bool.or_eq_false_iff, Bool.false_eq_true, and_false, false_and, or_false, false_or, and_true, true_and, not_true_eq_false, not_false_eq_true, true_iff, false_iff, IntKind.wrap_i64] at *
  all_goals first
    | omega
    | skip
def stOk (j : JobT) (mark : Int) (n : Nat) (g : Nat → RowT) (i : Nat) : St := ⟨[(26, .c (.d (eI i))), (25, .c (.d (eI n))), (24, .c (.d (.sl 13 n fun i => eRow (g i)))), (2, .c (.bp 128 1 0)), (3, .c (.bp 192 1 0))], [(128, 1, .box ((eJob j).map .d)), (192, 1, .box ([eI mark, .sl 13 n fun i => eRow (g i)].map .d))]⟩
open Classical in
set_option maxRecDepth 100000 in
theorem c_OpOk (j : JobT) (s : OpStT) : ∃ b, (b = true ↔ OpOkP j s) ∧ Meets Tryz.prog 97 [xd (eJob j), xd (eOpSt s)] ⟨.one (.c (.d (eB b))), [none, none]⟩ := by
  obtain ⟨b, hb⟩ : ∃ b : Bool, (b = true ↔ OpOkP j s) := ⟨decide (OpOkP j s), by rw [decide_eq_true_eq]⟩
  refine ⟨b, hb, ?_⟩
  obtain ⟨mark, n, g, hn⟩ := s
  show Meets Tryz.prog 97 [xd (eJob j), xd [eI mark, .sl 13 n fun i => eRow (g i)]] _
  refine meets_of (H := []) (EX := EXA) ttok mixed Tryz.func97 rfl (by kernel_rfl) (by decide) ?_
  generalize hA : real = A
  generalize hM : MeetsB Tryz.prog = M
  cbv
  repeat' first
    | apply And.intro
    | exact True.intro
    | with_reducible rfl
    | exact same_of hA rfl
    | refine br_of hA (fun _ => ?_) (fun _ => ?_)
    | exact imp_of hA id
    | (refine imp_of hA ?_; subst hA; simp only [real, Bool.true_and]; exact id)
    | (refine ind_of hA ?_; decide +kernel)
    | (refine call_ex hA hM (c_JobOk _ _ _ _ _ _ _ _ _ _) (fun _ _ => ?_); cbv)
    | (refine call_ex hA hM (c_isTime _) (fun _ _ => ?_); cbv)
    | fail
  · rename_i hbad
    subst hA; subst_vars
    refine congrArg (fun b => XA.one (.c (.d (eB b)))) ?_
    simp only [real, bifA, bifB, bifC, bifD, beqB, decide_eq_true_eq, decide_eq_false_iff_not, beqI, bneI, beqIF, bneIF, ne_eq, Bool.and_eq_true, Bool.or_eq_true, Bool.not_eq_true', Bool.not_eq_false', Bool.and_eq_false_iff, Bool.or_eq_false_iff, Bool.false_eq_true, and_false, false_and, or_false, false_or, and_true, true_and, not_true_eq_false, not_false_eq_true, true_iff, false_iff, Int.ofNat_eq_natCast, Int.toNat_natCast] at hbad
    cases b with
    | false => rfl
    | true =>
      exfalso
      obtain ⟨h1, h2, h3, _⟩ := hb.1 rfl
      unfold JobOkP at h1
      simp only at h2 h3
      omega
  rename_i hgood
  have hpre : JobOkP j ∧ (0 ≤ mark ∧ mark ≤ 1000) ∧ n ≤ 300 := by
    subst hA; subst_vars
    simp only [real, bifA, bifB, bifC, bifD, beqB, decide_eq_true_eq, decide_eq_false_iff_not, beqI, bneI, beqIF, bneIF, ne_eq, Bool.and_eq_true, Bool.or_eq_true, Bool.not_eq_true', Bool.not_eq_false', Bool.and_eq_false_iff, Bool.or_eq_false_iff, Bool.false_eq_true, and_false, false_and, or_false, false_or, and_true, true_and, not_true_eq_false, not_false_eq_true, true_iff, false_iff, Int.ofNat_eq_natCast, Int.toNat_natCast] at hgood
    unfold JobOkP
    omega
  clear hgood
  refine loop_of hA (α := { i : Nat // i ≤ n ∧ ∀ k, k < i → OkAt j mark g k }) (fun x => stOk j mark n g x.1) (fun x => n - x.1) ⟨0, Nat.zero_le _, fun j h => absurd h (Nat.not_lt_zero _)⟩ ?_ ?_
  · refine cov_of ?_ ?_ ?_
    · cbv; subst hA; repeat' first | apply And.intro | exact True.intro | rfl
    · cbv; try (repeat' first | apply And.intro | exact True.intro | rfl)
    · cbv
  rintro ⟨i, hi, hk⟩
  cbv
  repeat' first
    | apply And.intro
    | exact True.intro
    | with_reducible rfl
    | exact same_of hA rfl
    | refine br_of hA (fun _ => ?_) (fun _ => ?_)
    | exact imp_of hA id
    | (refine imp_of hA ?_; subst hA; simp only [real, Bool.true_and]; exact id)
    | (refine ind_of hA ?_; decide +kernel)
    | (refine call_ex hA hM (c_rowOk _ _ _) (fun _ _ => ?_); cbv)
    | (refine call_ex hA hM (c_rcmpA _ _) (fun _ _ => ?_); cbv)
    | (refine inb_of hA fun _ => ?_; subst hA; simp only [real, Bool.and_eq_true, Bool.not_eq_true', Bool.not_eq_false', decide_eq_true_eq, Int.ofNat_eq_natCast, IntKind.wrap_i64] at *; omega)
    | (refine cut_of hA ?_; subst hA; simp only [real, decide_eq_true_eq, Int.ofNat_eq_natCast] at *; omega)
    | (refine call_ex2 hA hM (c_ContainsRow1 i (Nat.le_trans hi hn) g 150 (.p (eRow (g (A.nat (Int.ofNat i))))) _ (fun q => c_OpOk1 (g (A.nat (Int.ofNat i))) q)) (congrArg (fun d => [XT.c (.d d), XT.c (.d (.fn 150 [.p (eRow (g (A.nat (Int.ofNat i))))]))]) (sl0 hA _ _ _)) (fun _ _ => ?_); cbv)
  · rename_i hlt b1 hb1 x hx hc
    subst hA
    refine congrArg (fun b => XA.one (.c (.d (eB b)))) ?_
    simp only [real, bifA, bifB, bifC, bifD, beqB, decide_eq_true_eq, decide_eq_false_iff_not, beqI, bneI, beqIF, bneIF, ne_eq, Bool.and_eq_true, Bool.or_eq_true, Bool.not_eq_true', Bool.not_eq_false', Bool.and_eq_false_iff, Bool.or_eq_false_iff, Bool.false_eq_true, and_false, false_and, or_false, false_or, and_true, true_and, not_true_eq_false, not_false_eq_true, true_iff, false_iff, Int.ofNat_eq_natCast, Int.toNat_natCast] at hlt hb1 hx hc
    cases b with
    | false => rfl
    | true =>
      exfalso
      have h : OkAt j mark g i := (hb.1 rfl).2.2.2 i (show i < n by omega)
      rcases hc with hc | hc
      · have := hb1.2 h.1; rw [hc] at this; cases this
      · rw [down64 (by omega) (Nat.le_trans hi hn)] at hx
        have := hx.2 (h.2.1 (by omega)); omega
  · rename_i hlt b1 hb1 x hx hc b2 hb2 hc2
    subst hA
    refine congrArg (fun b => XA.one (.c (.d (eB b)))) ?_
    simp only [real, bifA, bifB, bifC, bifD, beqB, decide_eq_true_eq, decide_eq_false_iff_not, beqI, bneI, beqIF, bneIF, ne_eq, Bool.and_eq_true, Bool.or_eq_true, Bool.not_eq_true', Bool.not_eq_false', Bool.and_eq_false_iff, Bool.or_eq_false_iff, Bool.false_eq_true, and_false, false_and, or_false, false_or, and_true, true_and, not_true_eq_false, not_false_eq_true, true_iff, false_iff, Int.ofNat_eq_natCast, Int.toNat_natCast] at hlt hb2 hc2
    cases b with
    | false => rfl
    | true =>
      exfalso
      have h : OkAt j mark g i := (hb.1 rfl).2.2.2 i (show i < n by omega)
      obtain ⟨k, hk1, hk2⟩ := hb2.1 hc2.2
      exact h.2.2 hc2.1 k hk1 hk2
  · rename_i hlt b1 hb1 x hx hc b2 hb2 hc2
    have hlt' : i < n := by subst hA; simp only [real, decide_eq_true_eq, Int.ofNat_eq_natCast] at hlt; omega
    refine ⟨⟨i + 1, by omega, fun k hk' => ?_⟩, by simp only; omega, cov_of ?_ ?_ ?_⟩
    · by_cases e : k = i
      · subst e
        subst hA
        simp only [real, bifA, bifB, bifC, bifD, beqB, decide_eq_true_eq, decide_eq_false_iff_not, beqI, bneI, beqIF, bneIF, ne_eq, Bool.and_eq_true, Bool.or_eq_true, Bool.not_eq_true', Bool.not_eq_false', Bool.and_eq_false_iff, Bool.or_eq_false_iff, Bool.false_eq_true, and_false, false_and, or_false, false_or, and_true, true_and, not_true_eq_false, not_false_eq_true, true_iff, false_iff, Int.ofNat_eq_natCast, Int.toNat_natCast] at hlt hb1 hx hc hb2 hc2
        refine ⟨hb1.1 (by cases b1 <;> simp_all), fun hp => ?_, fun h3 q hq hqq => ?_⟩
        · rw [down64 hp (Nat.le_trans hi hn)] at hx
          refine hx.1 ?_
          rcases hc.2 with h | h <;> omega
        · rcases hc2 with h | h
          · exact h h3
          · have := hb2.2 ⟨q, hq, hqq⟩; rw [h] at this; cases this
      · exact hk k (by omega)
    · cbv
      subst hA
      exact ⟨congrArg (fun x => DV.v (.int .i64 x)) (up64 hlt' hn), trivial⟩
    · cbv; try (repeat' first | apply And.intro | exact True.intro | rfl)
    · cbv
  · rename_i hge
    refine congrArg (fun b => XA.one (.c (.d (eB b)))) ?_
    refine (hb.2 ⟨hpre.1, hpre.2.1, hpre.2.2, fun k hk' => ?_⟩).symm
    have hk' : k < n := hk'
    exact hk k (by subst hA; simp only [real, decide_eq_false_iff_not, Int.ofNat_eq_natCast] at hge; omega)
end Go.Rk
/- Operators, as the reference has them. -/
namespace Go.Rk
set_option linter.unusedSimpArgs false
set_option linter.unusedVariables false
open Go.Proofs
def stOks (j : JobT) (mark : Int) (n : Nat) (g : Nat → RowT) (i : Nat) : St := ⟨[(5, .c (.d (eI i))), (2, .c (.bp 128 1 0)), (3, .c (.bp 192 1 0))], [(128, 1, .box ((eJob j).map .d)), (192, 1, .box ([eI mark, .sl 13 n fun i => eRow (g i)].map .d))]⟩
def stOkt (j : JobT) (mark : Int) (n : Nat) (g : Nat → RowT) (i k : Nat) : St := ⟨[(7, .c (.d (eI k))), (5, .c (.d (eI i))), (6, .c (.bp 384 1 0)), (2, .c (.bp 128 1 0)), (3, .c (.bp 192 1 0))], [(384, 1, .box ((eRow (g i)).map .d)), (128, 1, .box ((eJob j).map .d)), (192, 1, .box ([eI mark, .sl 13 n fun i => eRow (g i)].map .d))]⟩
theorem c_l5A (k s e k2 s2 e2 : Int) : ∃ b, (b = true ↔ AheadP k ⟨s, e⟩ k2 ⟨s2, e2⟩) ∧ Meets Tryz.prog 139 [.c (.d (eI k)), .agg [.d (eI s), .d (eI e)], .c (.d (eI k2)), .agg [.d (eI s2), .d (eI e2)]] ⟨.one (.c (.d (eB b))), [none, none, none, none]⟩ := by
  obtain ⟨b, hb, hm⟩ := c_l5Ahead k s e k2 s2 e2
  exact ⟨b, by rw [hb, decide_eq_true_eq]; exact Iff.rfl, hm⟩
theorem c_sTouchP (s e s2 e2 : Int) : ∃ b, (b = true ↔ TouchP ⟨s, e⟩ ⟨s2, e2⟩) ∧ Meets Tryz.prog 140 [.agg [.d (eI s), .d (eI e)], .agg [.d (eI s2), .d (eI e2)]] ⟨.one (.c (.d (eB b))), [none, none]⟩ := by
  obtain ⟨b, hb, hm⟩ := c_sWinTouch s e s2 e2
  exact ⟨b, by rw [hb, decide_eq_true_eq]; exact Iff.rfl, hm⟩
open Classical in
set_option maxRecDepth 100000 in
theorem c_sOpOk (j : JobT) (s : OpStT) : ∃ b, (b = true ↔ OpOkP j s) ∧ Meets Tryz.prog 86 [xd (eJob j), xd (eOpSt s)] ⟨.one (.c (.d (eB b))), [none, none]⟩ := by
  obtain ⟨b, hb⟩ : ∃ b : Bool, (b = true ↔ OpOkP j s) := ⟨decide (OpOkP j s), by rw [decide_eq_true_eq]⟩
  refine ⟨b, hb, ?_⟩
  obtain ⟨mark, n, g, hn⟩ := s
  show Meets Tryz.prog 86 [xd (eJob j), xd [eI mark, .sl 13 n fun i => eRow (g i)]] _
  refine meets_of (H := []) (EX := EXA) ttok mixed Tryz.func86 rfl (by kernel_rfl) (by decide) ?_
  generalize hA : real = A
  generalize hM : MeetsB Tryz.prog = M
  cbv
  repeat' first
    | apply And.intro
    | exact True.intro
    | with_reducible rfl
    | exact same_of hA rfl
    | refine br_of hA (fun _ => ?_) (fun _ => ?_)
    | exact imp_of hA id
    | (refine imp_of hA ?_; subst hA; simp only [real, Bool.true_and]; exact id)
    | (refine ind_of hA ?_; decide +kernel)
    | (refine call_ex hA hM (c_sJobOk _ _ _ _ _ _ _ _ _ _) (fun _ _ => ?_); cbv)
    | (refine call_ex hA hM (c_l1In _ _ _) (fun _ _ => ?_); cbv)
    | fail
  · rename_i hbad
    subst hA; subst_vars
    refine congrArg (fun b => XA.one (.c (.d (eB b)))) ?_
    simp only [real, bifA, bifB, bifC, bifD, beqB, decide_eq_true_eq, decide_eq_false_iff_not, beqI, bneI, beqIF, bneIF, ne_eq, Bool.and_eq_true, Bool.or_eq_true, Bool.not_eq_true', Bool.not_eq_false', Bool.and_eq_false_iff, Bool.or_eq_false_iff, Bool.false_eq_true, and_false, false_and, or_false, false_or, and_true, true_and, not_true_eq_false, not_false_eq_true, true_iff, false_iff, Int.ofNat_eq_natCast, Int.toNat_natCast] at hbad
    cases b with
    | false => rfl
    | true =>
      exfalso
      obtain ⟨h1, h2, h3, _⟩ := hb.1 rfl
      unfold JobOkP at h1
      simp only at h2 h3
      omega
  rename_i hgood
  have hpre : JobOkP j ∧ (0 ≤ mark ∧ mark ≤ 1000) ∧ n ≤ 300 := by
    subst hA; subst_vars
    simp only [real, bifA, bifB, bifC, bifD, beqB, decide_eq_true_eq, decide_eq_false_iff_not, beqI, bneI, beqIF, bneIF, ne_eq, Bool.and_eq_true, Bool.or_eq_true, Bool.not_eq_true', Bool.not_eq_false', Bool.and_eq_false_iff, Bool.or_eq_false_iff, Bool.false_eq_true, and_false, false_and, or_false, false_or, and_true, true_and, not_true_eq_false, not_false_eq_true, true_iff, false_iff, Int.ofNat_eq_natCast, Int.toNat_natCast] at hgood
    unfold JobOkP
    omega
  clear hgood
  refine loop_of hA (α := { i : Nat // i ≤ n ∧ ∀ k, k < i → OkAt j mark g k }) (fun x => stOks j mark n g x.1) (fun x => n - x.1) ⟨0, Nat.zero_le _, fun j h => absurd h (Nat.not_lt_zero _)⟩ ?_ ?_
  · refine cov_of ?_ ?_ ?_
    · cbv; try (subst hA; repeat' first | apply And.intro | exact True.intro | rfl)
    · cbv; try (repeat' first | apply And.intro | exact True.intro | rfl)
    · cbv
  rintro ⟨i, hi, hk⟩
  cbv
  repeat' first
    | apply And.intro
    | exact True.intro
    | with_reducible rfl
    | exact same_of hA rfl
    | refine br_of hA (fun _ => ?_) (fun _ => ?_)
    | exact imp_of hA id
    | (refine imp_of hA ?_; subst hA; simp only [real, Bool.true_and]; exact id)
    | (refine ind_of hA ?_; decide +kernel)
    | (refine call_ex hA hM (c_l7Row _ _ _) (fun _ _ => ?_); cbv)
    | (refine call_ex hA hM (c_l5A _ _ _ _ _ _) (fun _ _ => ?_); cbv)
    | (refine inb_of hA fun _ => ?_; subst hA; simp only [real, Bool.and_eq_true, Bool.not_eq_true', Bool.not_eq_false', decide_eq_true_eq, Int.ofNat_eq_natCast, IntKind.wrap_i64] at *; omega)
    | fail
  · rename_i hlt b1 hb1 b2 hb2 hc
    subst hA
    refine congrArg (fun b => XA.one (.c (.d (eB b)))) ?_
    simp only [real, bifA, bifB, bifC, bifD, beqB, decide_eq_true_eq, decide_eq_false_iff_not, beqI, bneI, beqIF, bneIF, ne_eq, Bool.and_eq_true, Bool.or_eq_true, Bool.not_eq_true', Bool.not_eq_false', Bool.and_eq_false_iff, Bool.or_eq_false_iff, Bool.false_eq_true, and_false, false_and, or_false, false_or, and_true, true_and, not_true_eq_false, not_false_eq_true, true_iff, false_iff, Int.ofNat_eq_natCast, Int.toNat_natCast] at hlt hb1 hb2 hc
    cases b with
    | false => rfl
    | true =>
      exfalso
      have h : OkAt j mark g i := (hb.1 rfl).2.2.2 i (show i < n by omega)
      rcases hc with hc | hc
      · have := hb1.2 h.1; rw [hc] at this; cases this
      · rw [down64 (by omega) (Nat.le_trans hi hn)] at hb2
        have h2 := hb2.2 (h.2.1 (by omega))
        rw [hc.2] at h2
        cases h2
  · rename_i hlt b1 hb1 b2 hb2 hc
    have hlt' : i < n := by subst hA; simp only [real, decide_eq_true_eq, Int.ofNat_eq_natCast] at hlt; omega
    have hrow : RowOkP j (g i) mark ∧ (0 < i → AheadP (g (i - 1)).key (g (i - 1)).win (g i).key (g i).win) := by
      subst hA
      simp only [real, bifA, bifB, bifC, bifD, beqB, decide_eq_true_eq, decide_eq_false_iff_not, beqI, bneI, beqIF, bneIF, ne_eq, Bool.and_eq_true, Bool.or_eq_true, Bool.not_eq_true', Bool.not_eq_false', Bool.and_eq_false_iff, Bool.or_eq_false_iff, Bool.false_eq_true, and_false, false_and, or_false, false_or, and_true, true_and, not_true_eq_false, not_false_eq_true, true_iff, false_iff, Int.ofNat_eq_natCast, Int.toNat_natCast] at hlt hb1 hb2 hc
      refine ⟨hb1.1 (by cases b1 <;> simp_all), fun hp => ?_⟩
      rw [down64 hp (Nat.le_trans hi hn)] at hb2
      rcases hc.2 with h | h
      · omega
      · exact hb2.1 h
    clear hb1 hb2 hc
    refine loop_of hA (α := { k : Nat // k ≤ i ∧ (0 < k → j.kind = 3) ∧ ∀ q, q < k → ¬ ((g q).key = (g i).key ∧ TouchP (g q).win (g i).win) }) (fun x => stOkt j mark n g i x.1) (fun x => i - x.1) ⟨0, Nat.zero_le _, fun h => absurd h (Nat.lt_irrefl _), fun j h => absurd h (Nat.not_lt_zero _)⟩ ?_ ?_
    · refine cov_of ?_ ?_ ?_
      · cbv; try (repeat' first | apply And.intro | exact True.intro | rfl)
      · cbv; try (subst hA; repeat' first | apply And.intro | exact True.intro | rfl)
      · cbv
    rintro ⟨k, hki, hk3, hkq⟩
    cbv
    repeat' first
      | apply And.intro
      | exact True.intro
      | with_reducible rfl
      | exact same_of hA rfl
      | refine br_of hA (fun _ => ?_) (fun _ => ?_)
      | exact imp_of hA id
      | (refine imp_of hA ?_; subst hA; simp only [real, Bool.true_and]; exact id)
      | (refine ind_of hA ?_; decide +kernel)
      | (refine call_ex hA hM (c_sTouchP _ _ _ _) (fun _ _ => ?_); cbv)
      | (refine inb_of hA fun _ => ?_; subst hA; simp only [real, Bool.and_eq_true, Bool.not_eq_true', Bool.not_eq_false', decide_eq_true_eq, Int.ofNat_eq_natCast, IntKind.wrap_i64] at *; omega)
      | fail
    · rename_i hl b3 hb3 hc
      subst hA
      refine congrArg (fun b => XA.one (.c (.d (eB b)))) ?_
      simp only [real, bifA, bifB, bifC, bifD, beqB, decide_eq_true_eq, decide_eq_false_iff_not, beqI, bneI, beqIF, bneIF, ne_eq, Bool.and_eq_true, Bool.or_eq_true, Bool.not_eq_true', Bool.not_eq_false', Bool.and_eq_false_iff, Bool.or_eq_false_iff, Bool.false_eq_true, and_false, false_and, or_false, false_or, and_true, true_and, not_true_eq_false, not_false_eq_true, true_iff, false_iff, Int.ofNat_eq_natCast, Int.toNat_natCast] at hl hc
      cases b with
      | false => rfl
      | true =>
        exfalso
        have h : OkAt j mark g i := (hb.1 rfl).2.2.2 i hlt'
        exact h.2.2 hl.2 k (by omega) ⟨hc.1, hb3.1 hc.2⟩
    · rename_i hl b3 hb3 hc
      have hlk : k < i ∧ j.kind = 3 := by subst hA; simp only [real, bifA, bifB, bifC, bifD, beqB, decide_eq_true_eq, decide_eq_false_iff_not, beqI, bneI, beqIF, bneIF, ne_eq, Bool.and_eq_true, Bool.or_eq_true, Bool.not_eq_true', Bool.not_eq_false', Bool.and_eq_false_iff, Bool.or_eq_false_iff, Bool.false_eq_true, and_false, false_and, or_false, false_or, and_true, true_and, not_true_eq_false, not_false_eq_true, true_iff, false_iff, Int.ofNat_eq_natCast, Int.toNat_natCast] at hl; omega
      refine ⟨⟨k + 1, by omega, fun _ => hlk.2, fun q hq => ?_⟩, by simp only; omega, cov_of ?_ ?_ ?_⟩
      · by_cases e : q = k
        · subst e
          subst hA
          simp only [real, bifA, bifB, bifC, bifD, beqB, decide_eq_true_eq, decide_eq_false_iff_not, beqI, bneI, beqIF, bneIF, ne_eq, Bool.and_eq_true, Bool.or_eq_true, Bool.not_eq_true', Bool.not_eq_false', Bool.and_eq_false_iff, Bool.or_eq_false_iff, Bool.false_eq_true, and_false, false_and, or_false, false_or, and_true, true_and, not_true_eq_false, not_false_eq_true, true_iff, false_iff, Int.ofNat_eq_natCast, Int.toNat_natCast] at hc
          intro hh
          rcases hc with h | h
          · exact h hh.1
          · have := hb3.2 hh.2
            rw [h] at this
            cases this
        · exact hkq q (by omega)
      · cbv
        subst hA
        exact ⟨congrArg (fun x => DV.v (.int .i64 x)) (up64 hlk.1 (Nat.le_trans hi hn)), by repeat' first | apply And.intro | exact True.intro | rfl⟩
      · cbv; try (repeat' first | apply And.intro | exact True.intro | rfl)
      · cbv
    · rename_i hl
      refine ⟨⟨i + 1, by omega, fun q hq => ?_⟩, by simp only; omega, cov_of ?_ ?_ ?_⟩
      · by_cases e : q = i
        · subst e
          refine ⟨hrow.1, hrow.2, fun h3 => ?_⟩
          have : k = q := by
            subst hA
            simp only [real, bifA, bifB, bifC, bifD, beqB, decide_eq_true_eq, decide_eq_false_iff_not, beqI, bneI, beqIF, bneIF, ne_eq, Bool.and_eq_true, Bool.or_eq_true, Bool.not_eq_true', Bool.not_eq_false', Bool.and_eq_false_iff, Bool.or_eq_false_iff, Bool.false_eq_true, and_false, false_and, or_false, false_or, and_true, true_and, not_true_eq_false, not_false_eq_true, true_iff, false_iff, Int.ofNat_eq_natCast, Int.toNat_natCast] at hl
            have hl2 : ¬ (k : Int) < q ∨ ¬ j.kind = 3 := hl
            omega
          subst this
          exact hkq
        · exact hk q (by omega)
      · cbv
        subst hA
        exact ⟨congrArg (fun x => DV.v (.int .i64 x)) (up64 hlt' hn), by repeat' first | apply And.intro | exact True.intro | rfl⟩
      · cbv; try (repeat' first | apply And.intro | exact True.intro | rfl)
      · cbv
  · rename_i hge
    refine congrArg (fun b => XA.one (.c (.d (eB b)))) ?_
    refine (hb.2 ⟨hpre.1, hpre.2.1, hpre.2.2, fun k hk' => ?_⟩).symm
    have hk' : k < n := hk'
    exact hk k (by subst hA; simp only [real, decide_eq_false_iff_not, Int.ofNat_eq_natCast] at hge; omega)
end Go.Rk
/- Counts and least numbers. -/
namespace Go.Rk
set_option linter.unusedSimpArgs false
set_option linter.unusedVariables false
def InOkP (j : JobT) (c : TskInT) : Prop := (c.queue.n : Int) ≤ j.room ∧ (0 ≤ c.mark ∧ c.mark ≤ 1000) ∧ ∀ i, i < c.queue.n → ItmOkP (c.queue.g i)
def ToldP (m : Int) (ps : Sl PaneT) (ls : Sl LatT) : Prop := (ps.n : Int) ≤ m ∧ (ls.n : Int) ≤ m ∧ (∀ i, i < ps.n → PaneOkP (ps.g i)) ∧ ∀ i, i < ls.n → LatOkP (ls.g i)
def TxnOkP (x : TxnT) : Prop := (0 ≤ x.n ∧ x.n ≤ 900) ∧ ToldP 1500 x.panes x.lates
theorem nex {b : Bool} {n : Nat} {P : Nat → Prop} (h : b = true ↔ ∃ i, i < n ∧ ¬ P i) : b = false ↔ ∀ i, i < n → P i := by
  rw [← Bool.not_eq_true, h]
  exact ⟨fun h i hi => Classical.byContradiction fun hn => h ⟨i, hi, hn⟩, fun h ⟨i, hi, hn⟩ => hn (h i hi)⟩
def cntB (p : Nat → Bool) : Nat → Nat
  | 0 => 0
  | i + 1 => cntB p i + (if p i = true then 1 else 0)
theorem cntB_le (p : Nat → Bool) : ∀ i, cntB p i ≤ i
  | 0 => Nat.le_refl _
  | i + 1 => by have := cntB_le p i; unfold cntB; split <;> omega
/-- The least of these and 'z'. -/
def LowP (z : Int) (n : Nat) (g : Nat → Int) (x : Int) : Prop := x ≤ z ∧ (∀ i, i < n → x ≤ g i) ∧ (x = z ∨ ∃ i, i < n ∧ x = g i)
theorem lowP_one {z : Int} {n : Nat} {g : Nat → Int} {x y : Int} (h : LowP z n g x) (h' : LowP z n g y) : x = y := by
  have a : x ≤ y := by
    rcases h'.2.2 with e | ⟨i, hi, e⟩
    · rw [e]; exact h.1
    · rw [e]; exact h.2.1 i hi
  have b : y ≤ x := by
    rcases h.2.2 with e | ⟨i, hi, e⟩
    · rw [e]; exact h'.1
    · rw [e]; exact h'.2.1 i hi
  omega
theorem lowP_step {z : Int} {n : Nat} {g : Nat → Int} {x : Int} (h : LowP z n g x) : LowP z (n + 1) g (if g n < x then g n else x) := by
  obtain ⟨h1, h2, h3⟩ := h
  split
  · refine ⟨by omega, fun i hi => ?_, .inr ⟨n, by omega, rfl⟩⟩
    rcases Nat.lt_succ_iff_lt_or_eq.1 hi with hi | rfl
    · have := h2 i hi; omega
    · omega
  · refine ⟨h1, fun i hi => ?_, h3.imp id fun ⟨i, hi, e⟩ => ⟨i, by omega, e⟩⟩
    rcases Nat.lt_succ_iff_lt_or_eq.1 hi with hi | rfl
    · exact h2 i hi
    · omega
theorem lowP_ex (z : Int) (n : Nat) (g : Nat → Int) : ∃ x, LowP z n g x := by
  induction n with
  | zero => exact ⟨z, by omega, fun i hi => absurd hi (Nat.not_lt_zero i), .inl rfl⟩
  | succ n ih => obtain ⟨x, hx⟩ := ih; exact ⟨_, lowP_step hx⟩
/-- The least of these, of which there is one. -/
def MinP (n : Nat) (g : Nat → Int) (x : Int) : Prop := (∀ i, i < n → x ≤ g i) ∧ ∃ i, i < n ∧ x = g i
theorem minP_of {n : Nat} {g : Nat → Int} {x : Int} (h0 : 0 < n) (h : LowP (g 0) n g x) : MinP n g x := ⟨h.2.1, h.2.2.elim (fun e => ⟨0, h0, e⟩) id⟩
theorem minP_one {n : Nat} {g : Nat → Int} {x y : Int} (h : MinP n g x) (h' : MinP n g y) : x = y := by
  obtain ⟨i, hi, e⟩ := h.2
  obtain ⟨j, hj, e'⟩ := h'.2
  have := h.1 j hj
  have := h'.1 i hi
  omega
def TskOkP (j : JobT) (t : TskT) : Prop := OpOkP j t.op ∧ (t.ins.n : Int) = j.srcs ∧ (0 ≤ t.wall ∧ t.wall ≤ 900) ∧ TxnOkP t.pend ∧ t.pend.n = 0 ∧ (∀ i, i < t.ins.n → InOkP j (t.ins.g i)) ∧
  cntB (fun i => (t.ins.g i).held) t.ins.n < t.ins.n ∧ LowP 1000 t.ins.n (fun i => (t.ins.g i).mark) t.op.mark
theorem minP_ofLow {n : Nat} {g h : Nat → Int} {x z : Int} (hg : ∀ i, i < n → h i = g i) (hz : h n = z) (hx : LowP z n g x) : MinP (n + 1) h x := by
  refine ⟨fun i hi => ?_, ?_⟩
  · rcases Nat.lt_succ_iff_lt_or_eq.1 hi with hi | rfl
    · rw [hg i hi]; exact hx.2.1 i hi
    · rw [hz]; exact hx.1
  · rcases hx.2.2 with e | ⟨i, hi, e⟩
    · exact ⟨n, by omega, by rw [hz, e]⟩
    · exact ⟨i, by omega, by rw [hg i hi, e]⟩
theorem low_arg {A : Ar} (hA : real = A) (n : Nat) (f : Nat → Int) (c : Int) : DV.sl 1 (A.add n 1) (A.sub 0 (A.app n (fun i => [eI (f i)]) (A.sub 0 (A.app 1 (A.rep [eI c]) (A.rep [eI 0]))))) =
    .sl 1 (n + 1) fun i => [eI (if i < n then f i else if i = n then c else 0)] := by
  subst hA
  have e : (fun i => (if 0 + i < n then [eI (f (0 + i))] else (if 0 + (0 + i - n) < 1 then [eI c] else [eI 0]))) = fun i => [eI (if i < n then f i else if i = n then c else 0)] := by
    funext i
    simp only [Nat.zero_add]
    by_cases h : i < n
    · simp [h]
    · by_cases h2 : i = n
      · subst h2; simp
      · have : ¬ i - n < 1 := by omega
        simp [h, h2, this]
  exact congrArg (DV.sl 1 (n + 1)) e
theorem room_add {A : Ar} (hA : real = A) {n m b : Nat} (hn : n + m ≤ 1048577) (hb : b ≤ 100000) : A.room (A.add n m) b := by
  subst hA
  have h1 : (n + m) * b ≤ 1048577 * 100000 := Nat.mul_le_mul hn hb
  exact ⟨Nat.le_trans h1 (by omega), Nat.le_trans hn (by omega)⟩
/-- One row more at the end. -/
theorem push_at {A : Ar} (hA : real = A) (n : Nat) (row : Nat → List DV) (x : List DV) (z : Nat → List DV) (k : Nat) (hk : k < n + 1) : A.app n row (A.sub 0 (A.app 1 (A.rep x) z)) k = if k < n then row k else x := by
  subst hA
  show (if k < n then row k else (if 0 + (k - n) < 1 then x else z (0 + (k - n) - 1))) = _
  split
  · rfl
  · rw [if_pos (by omega)]
theorem room_n {A : Ar} (hA : real = A) {n b : Nat} (hn : n ≤ 1048577) (hb : b ≤ 100000) : A.room n b := by
  subst hA
  have h1 : n * b ≤ 1048577 * 100000 := Nat.mul_le_mul hn hb
  exact ⟨by omega, by omega⟩
end Go.Rk
/- Checkpoints. -/
namespace Go.Rk
set_option linter.unusedSimpArgs false
set_option linter.unusedVariables false
open Go.Proofs
def st_min (n : Nat) (g : Nat → Int) (i : Nat) (v : Int) : St := ⟨[(4, .c (.d (eI i))), (3, .c (.d (eI v))), (0, .c (.d (.sl 1 n fun i => [eI (g i)])))], []⟩
set_option maxRecDepth 100000 in
theorem c_min (n : Nat) (hn : n ≤ maxLen) (g : Nat → Int) (h0 : 0 < n) (x : Int) (hx : MinP n g x) : Meets Tryz.prog 156 [.c (.d (.sl 1 n fun i => [eI (g i)]))] ⟨.one (.c (.d (eI x))), [none]⟩ := by
  refine meets_of (H := []) (EX := EXA) ttok mixed Tryz.func156 rfl (by kernel_rfl) (by decide) ?_
  generalize hA : real = A
  generalize hM : MeetsB Tryz.prog = M
  cbv
  repeat' first
    | apply And.intro
    | exact True.intro
    | with_reducible rfl
    | exact same_of hA rfl
    | refine br_of hA (fun _ => ?_) (fun _ => ?_)
    | exact imp_of hA id
    | (refine imp_of hA ?_; subst hA; simp only [real, Bool.true_and]; exact id)
    | (refine ind_of hA ?_; decide +kernel)
    | (refine inb_of hA fun _ => ?_; subst hA; simp only [real, Bool.and_eq_true, Bool.not_eq_true', Bool.not_eq_false', decide_eq_true_eq, Int.ofNat_eq_natCast, IntKind.wrap_i64] at *; omega)
    | fail
  · exfalso
    rename_i h
    subst hA
    simp only [real, decide_eq_true_eq, Int.ofNat_eq_natCast] at h
    omega
  refine loop_of hA (α := { q : Nat × Int // 1 ≤ q.1 ∧ q.1 ≤ n ∧ LowP (g 0) q.1 g q.2 }) (fun y => st_min n g y.1.1 y.1.2) (fun y => n - y.1.1) ⟨(1, g 0), Nat.le_refl _, h0, Int.le_refl _, fun i h => (by have e : i = 0 := Nat.lt_one_iff.1 h; rw [e]; exact Int.le_refl _), .inl rfl⟩ ?_ ?_
  · refine cov_of ?_ ?_ ?_
    · cbv; try (subst hA; repeat' first | apply And.intro | exact True.intro | rfl)
    · cbv; try (subst hA; repeat' first | apply And.intro | exact True.intro | rfl)
    · cbv
  rintro ⟨⟨i, v⟩, h1, hi, hc⟩
  have hc : LowP (g 0) i g v := hc
  have hi : i ≤ n := hi
  have hs := lowP_step hc
  cbv
  repeat' first
    | apply And.intro
    | exact True.intro
    | with_reducible rfl
    | exact same_of hA rfl
    | refine br_of hA (fun _ => ?_) (fun _ => ?_)
    | exact imp_of hA id
    | (refine imp_of hA ?_; subst hA; simp only [real, Bool.true_and]; exact id)
    | (refine ind_of hA ?_; decide +kernel)
    | (refine inb_of hA fun _ => ?_; subst hA; simp only [real, Bool.and_eq_true, Bool.not_eq_true', Bool.not_eq_false', decide_eq_true_eq, Int.ofNat_eq_natCast, IntKind.wrap_i64] at *; omega)
    | fail
  · rename_i hlt
    have hlt' : i < n := by subst hA; simp only [real, decide_eq_true_eq, Int.ofNat_eq_natCast] at hlt; omega
    obtain ⟨v2, hv2⟩ : ∃ v2 : Int, v2 = (if g i < v then g i else v) := ⟨_, rfl⟩
    rw [← hv2] at hs
    refine ⟨⟨(i + 1, v2), by simp only; omega, by simp only; omega, hs⟩, by simp only; omega, cov_of ?_ ?_ ?_⟩
    · cbv
      subst hA
      repeat' first | apply And.intro | exact True.intro | exact congrArg (fun x => DV.v (.int .i64 x)) (up64 hlt' hn) | exact congrArg (fun x => DV.v (.int .i64 x)) hv2.symm | rfl | (intro k hk; exact push_at rfl _ _ _ _ k hk)
    · cbv
    · cbv
  · rename_i hge
    have : i = n := by
      subst hA
      simp only [real, decide_eq_false_iff_not, Int.ofNat_eq_natCast] at hge
      omega
    subst this
    exact congrArg (fun x => XA.one (.c (.d (eI x)))) (minP_one (minP_of h0 hc) hx)
end Go.Rk
/- Rows of values are flat. -/
namespace Go.Rk
set_option linter.unusedSimpArgs false
set_option linter.unusedVariables false
theorem flat_int (x : Int) : FlatL [eI x] := ⟨⟨_, rfl⟩, trivial⟩
theorem flat_Itm (x : ItmT) : FlatL (eItm x) := by repeat' first | exact True.intro | exact ⟨_, rfl⟩ | apply And.intro
theorem flat_Row (x : RowT) : FlatL (eRow x) := by repeat' first | exact True.intro | exact ⟨_, rfl⟩ | apply And.intro
theorem flat_Pane (x : PaneT) : FlatL (ePane x) := by repeat' first | exact True.intro | exact ⟨_, rfl⟩ | apply And.intro
theorem flat_Lat (x : LatT) : FlatL (eLat x) := by repeat' first | exact True.intro | exact ⟨_, rfl⟩ | apply And.intro
end Go.Rk
/- Nests: to. -/
namespace Go.Rk
set_option linter.unusedSimpArgs false
set_option linter.unusedVariables false
open Go.Proofs
set_option maxRecDepth 100000
set_option maxHeartbeats 1000000
theorem to_OpStO (x : OpStT) (hb : bdOpSt x) : Meets Tryz.prog 35 [xd (eOpSt x)] ⟨.one (.agg [.d (eI x.mark), .own 13 x.rows.n fun i => eRow (x.rows.g i)]), [none]⟩ := by
  refine meets_of (H := []) (EX := EXA) ttok mixed Tryz.func35 rfl (by kernel_rfl) (by decide) ?_
  generalize hA : real = A
  generalize hM : MeetsB Tryz.prog = M
  cbv
  repeat' first
    | apply And.intro
    | exact True.intro
    | with_reducible rfl
    | exact same_of hA rfl
    | refine br_of hA (fun _ => ?_) (fun _ => ?_)
    | exact imp_of hA id
    | (refine imp_of hA ?_; subst hA; simp only [real, Bool.true_and]; exact id)
    | (refine ind_of hA ?_; decide +kernel)
    | (refine call_of hA hM _ (to_RowS x.rows.n hb x.rows.g) ?_; cbv)
    | fail
theorem to_TxnO (x : TxnT) (hb : bdTxn x) : Meets Tryz.prog 36 [xd (eTxn x)] ⟨.one (.agg [.d (eI x.n), .own 9 x.panes.n fun i => ePane (x.panes.g i), .own 7 x.lates.n fun i => eLat (x.lates.g i)]), [none]⟩ := by
  refine meets_of (H := []) (EX := EXA) ttok mixed Tryz.func36 rfl (by kernel_rfl) (by decide) ?_
  generalize hA : real = A
  generalize hM : MeetsB Tryz.prog = M
  cbv
  repeat' first
    | apply And.intro
    | exact True.intro
    | with_reducible rfl
    | exact same_of hA rfl
    | refine br_of hA (fun _ => ?_) (fun _ => ?_)
    | exact imp_of hA id
    | (refine imp_of hA ?_; subst hA; simp only [real, Bool.true_and]; exact id)
    | (refine ind_of hA ?_; decide +kernel)
    | (refine call_of hA hM _ (to_PaneS x.panes.n hb.1 x.panes.g) ?_; cbv)
    | (refine call_of hA hM _ (to_LatS x.lates.n hb.2 x.lates.g) ?_; cbv)
    | fail
theorem to_TskInO (x : TskInT) (hb : bdTskIn x) : Meets Tryz.prog 93 [xd (eTskIn x)] ⟨.one (.agg [.own 5 x.queue.n fun i => eItm (x.queue.g i), .d (eI x.mark), .d (eB x.held)]), [none]⟩ := by
  refine meets_of (H := []) (EX := EXA) ttok mixed Tryz.func93 rfl (by kernel_rfl) (by decide) ?_
  generalize hA : real = A
  generalize hM : MeetsB Tryz.prog = M
  cbv
  repeat' first
    | apply And.intro
    | exact True.intro
    | with_reducible rfl
    | exact same_of hA rfl
    | refine br_of hA (fun _ => ?_) (fun _ => ?_)
    | exact imp_of hA id
    | (refine imp_of hA ?_; subst hA; simp only [real, Bool.true_and]; exact id)
    | (refine ind_of hA ?_; decide +kernel)
    | (refine call_of hA hM _ (to_ItmS x.queue.n hb x.queue.g) ?_; cbv)
    | fail
def st_toTskInSO (n : Nat) (rd : Nat → TskInT) (i : Nat) (R : Nat → List DV) : St := ⟨[(4, .c (.d (eI i))), (0, .c (.d (.sl 3 n fun i => eTskIn (rd i)))), (3, .c (.nown 8000 n 1))], [(8000, 1, .nest 3 n R none)]⟩
theorem to_TskInSO (n : Nat) (hn : n ≤ 1048576) (rd : Nat → TskInT) (hb : ∀ i, i < n → bdTskIn (rd i)) : Meets Tryz.prog 34 [.c (.d (.sl 3 n fun i => eTskIn (rd i)))] ⟨.one (.c (.nown 3 n fun i => eTskIn (rd i))), [none]⟩ := by
  have hn2 : n ≤ maxLen := Nat.le_trans hn (by decide)
  refine meets_of (H := [5, 6]) (EX := EXA) ttok mixed Tryz.func34 rfl (by kernel_rfl) (by decide) ?_
  generalize hA : real = A
  generalize hM : MeetsB Tryz.prog = M
  cbv
  repeat' first
    | apply And.intro
    | exact True.intro
    | with_reducible rfl
    | exact same_of hA rfl
    | refine br_of hA (fun _ => ?_) (fun _ => ?_)
    | exact imp_of hA id
    | (refine imp_of hA ?_; subst hA; simp only [real, Bool.true_and]; exact id)
    | (refine ind_of hA ?_; decide +kernel)
    | exact made_n hA hn (by decide)
    | fail
  refine loop_of hA (α := { p : Nat × (Nat → List DV) // p.1 ≤ n ∧ (∀ j, j < p.1 → p.2 j = eTskIn (rd j)) ∧ ∀ j, p.1 ≤ j → p.2 j = [.v nilS, eI 0, eB false] }) (fun x => st_toTskInSO n rd x.1.1 x.1.2) (fun x => n - x.1.1) ⟨(0, fun _ => [.v nilS, eI 0, eB false]), Nat.zero_le _, fun j h => absurd h (Nat.not_lt_zero _), fun _ _ => rfl⟩ ?_ ?_
  · refine cov_nestOf 3 448 8000 1 (fun _ => [.v nilS, eI 0, eB false]) rfl rfl rfl rfl (by subst hA; exact flatR fun _ => by repeat' first | exact True.intro | exact ⟨_, rfl⟩ | apply And.intro) (by subst hA; intro _ _; exact NsLe.rfl) (cov_of ?_ ?_ ?_)
    · (subst hA; repeat' first | exact True.intro | exact rfl | apply And.intro | (intro _ _; rfl) | (intro _ _ _; rfl) | exact .inr (le_of_nble rfl) | exact .inl rfl)
    · (subst hA; repeat' first | exact True.intro | exact rfl | apply And.intro | (intro _ _; rfl) | (intro _ _ _; rfl) | exact .inr (le_of_nble rfl) | exact .inl rfl)
    · (subst hA; repeat' first | exact True.intro | exact rfl | apply And.intro | (intro _ _; rfl) | (intro _ _ _; rfl) | exact .inr (le_of_nble rfl) | exact .inl rfl)
  rintro ⟨⟨i, R⟩, hi, hR, hZ⟩
  have hi : i ≤ n := hi
  have hR : ∀ j, j < i → R j = eTskIn (rd j) := hR
  have hZ : ∀ j, i ≤ j → R j = [.v nilS, eI 0, eB false] := hZ
  cbv
  repeat' first
    | apply And.intro
    | exact True.intro
    | with_reducible rfl
    | exact same_of hA rfl
    | refine br_of hA (fun _ => ?_) (fun _ => ?_)
    | exact imp_of hA id
    | (refine imp_of hA ?_; subst hA; simp only [real, Bool.true_and]; exact id)
    | (refine ind_of hA ?_; decide +kernel)
    | fail
  · rename_i hlt
    have hlt' : i < n := by subst hA; simp only [real, decide_eq_true_eq, Int.ofNat_eq_natCast] at hlt; omega
    refine stop_of hA ⟨[(4, .c (.d (eI i))), (0, .c (.d (.sl 3 n fun i => eTskIn (rd i)))), (3, .c (.nown 8000 n 1))], [(8000, 1, .nest 3 n R (some (i, [.d (.v nilS), .d (eI 0), .d (eB false)])))]⟩
      (cov_open 8000 9000 1 i (fun _ => false) [.v nilS, eI 0, eB false] rfl hlt' (hZ i (Nat.le_refl _)) (by repeat' first | exact True.intro | apply And.intro) rfl (cov_of ?_ ?_ ?_)) ?_
    · (subst hA; repeat' first | exact True.intro | exact rfl | apply And.intro | (intro _ _; rfl) | (intro _ _ _; rfl) | exact .inr (le_of_nble rfl) | exact .inl rfl)
    · (subst hA; repeat' first | exact True.intro | exact rfl | apply And.intro | (intro _ _; rfl) | (intro _ _ _; rfl) | exact .inr (le_of_nble rfl) | exact .inl rfl)
    · (subst hA; repeat' first | exact True.intro | exact rfl | apply And.intro | (intro _ _; rfl) | (intro _ _ _; rfl) | exact .inr (le_of_nble rfl) | exact .inl rfl)
    cbv
    repeat' first
      | apply And.intro
      | exact True.intro
      | with_reducible rfl
      | exact same_of hA rfl
      | refine br_of hA (fun _ => ?_) (fun _ => ?_)
      | exact imp_of hA id
      | (refine imp_of hA ?_; subst hA; simp only [real, Bool.true_and]; exact id)
      | (refine ind_of hA ?_; decide +kernel)
      | (refine call_of hA hM _ (to_TskInO (rd (A.nat (Int.ofNat i))) (hb _ (by subst hA; exact hlt'))) ?_; cbv)
      | (refine inb_of hA fun _ => ?_; subst hA; simp only [real, decide_eq_true_eq, Int.ofNat_eq_natCast] at *; omega)
      | (refine same_of hA ?_; subst hA; rfl)
      | fail
    refine ⟨⟨(i + 1, fun j => if j = i then eTskIn (rd i) else R j), hlt', fun j hj => ?_, fun j hj => ?_⟩, by simp only; omega,
      cov_close 8000 (fun j => if j = i then eTskIn (rd i) else R j) (eTskIn (rd i)) [(1280 + 0, 1)] rfl ?_ rfl (if_pos rfl) (fun k _ hk => if_neg hk) (cov_of ?_ ?_ ?_)⟩
    · simp only at hj ⊢
      by_cases e : j = i
      · rw [if_pos e, e]
      · rw [if_neg e]; exact hR j (by omega)
    · simp only at hj ⊢
      rw [if_neg (by omega)]; exact hZ j (by omega)
    · subst hA; exact (close_own rfl (fun _ _ => rfl) (flatR fun _ => flat_Itm _) (close_v (close_v close_end)))
    · (subst hA; repeat' first | exact True.intro | exact rfl | exact congrArg (fun x => DV.v (.int .i64 x)) (up64 hlt' hn2) | apply And.intro | (intro _ _; rfl) | (intro _ _ _; rfl) | exact .inr (le_of_nble rfl) | exact .inl rfl)
    · (subst hA; repeat' first | exact True.intro | exact rfl | exact congrArg (fun x => DV.v (.int .i64 x)) (up64 hlt' hn2) | apply And.intro | (intro _ _; rfl) | (intro _ _ _; rfl) | exact .inr (le_of_nble rfl) | exact .inl rfl)
    · (subst hA; repeat' first | exact True.intro | exact rfl | exact congrArg (fun x => DV.v (.int .i64 x)) (up64 hlt' hn2) | apply And.intro | (intro _ _; rfl) | (intro _ _ _; rfl) | exact .inr (le_of_nble rfl) | exact .inl rfl)
  · rename_i hge
    have hin : i = n := by
      subst hA
      have : ¬ ((i : Int) < (n : Int)) := of_decide_eq_false hge
      omega
    subst hin
    refine stop_of hA ⟨[(3, .c (.nown 8000 i 1))], [(8000, 1, .nest 3 i (fun j => eTskIn (rd j)) none)]⟩ (cov_of ?_ ?_ ?_) ?_
    · cbv
    · cbv
      first
        | exact ⟨fun q hq _ => hR q hq, trivial⟩
        | exact ⟨fun q hq => hR q hq, trivial⟩
    · cbv
    · cbv
      repeat' first | apply And.intro | refine br_of hA (fun _ => ?_) (fun _ => ?_)
      all_goals first | exact True.intro | with_reducible rfl | exact same_of hA rfl | skip
theorem to_TskO (x : TskT) (hb : bdTsk x) : Meets Tryz.prog 10 [xd (eTsk x)] ⟨.one (.agg [.nown 3 x.ins.n fun i => eTskIn (x.ins.g i), .d (eI x.op.mark), .own 13 x.op.rows.n fun i => eRow (x.op.rows.g i), .d (eI x.wall), .d (eI x.pend.n), .own 9 x.pend.panes.n fun i => ePane (x.pend.panes.g i), .own 7 x.pend.lates.n fun i => eLat (x.pend.lates.g i)]), [none]⟩ := by
  refine meets_of (H := []) (EX := EXA) ttok mixed Tryz.func10 rfl (by kernel_rfl) (by decide) ?_
  generalize hA : real = A
  generalize hM : MeetsB Tryz.prog = M
  cbv
  repeat' first
    | apply And.intro
    | exact True.intro
    | with_reducible rfl
    | exact same_of hA rfl
    | refine br_of hA (fun _ => ?_) (fun _ => ?_)
    | exact imp_of hA id
    | (refine imp_of hA ?_; subst hA; simp only [real, Bool.true_and]; exact id)
    | (refine ind_of hA ?_; decide +kernel)
    | (refine call_of hA hM _ (to_TskInSO x.ins.n hb.1 x.ins.g hb.2.1) ?_; cbv)
    | (refine call_of hA hM _ (to_OpStO x.op hb.2.2.1) ?_; cbv)
    | (refine call_of hA hM _ (to_TxnO x.pend hb.2.2.2) ?_; cbv)
    | fail
end Go.Rk
/- Windows of a time, and pairs of records and windows, as lists. -/
namespace Go.Rk
set_option linter.unusedSimpArgs false
set_option linter.unusedVariables false
def zLat : LatT := ⟨⟨0, 0, 0, 0, 0⟩, ⟨0, 0⟩⟩
def mkItm (k : Int) : ItmT := ⟨k, k + 1, k + 2, k + 3, k + 4⟩
def mkLat (k : Int) : LatT := ⟨⟨k, k + 1, k + 2, k + 3, k + 4⟩, ⟨k + 5, k + 6⟩⟩
end Go.Rk
/- Rows of a table, as lists. -/
namespace Go.Rk
set_option linter.unusedSimpArgs false
set_option linter.unusedVariables false
def IsRow (key : Int) (w : WinT) (r : TabT) : Prop := r.key = key ∧ (r.win.s = w.s ∧ r.win.e = w.e)
instance (key : Int) (w : WinT) (r : TabT) : Decidable (IsRow key w r) := inferInstanceAs (Decidable (_ ∧ _))
def Ahead (r q : TabT) : Prop := r.key < q.key ∨ (r.key = q.key ∧ (r.win.s < q.win.s ∨ (r.win.s = q.win.s ∧ r.win.e < q.win.e)))
instance (r q : TabT) : Decidable (Ahead r q) := inferInstanceAs (Decidable (_ ∨ _))
theorem room_add2 {A : Ar} (hA : real = A) {n m b : Nat} (hn : n + m ≤ 2000000) (hb : b ≤ 100000) : A.room (A.add n m) b := by
  subst hA
  have h1 : (n + m) * b ≤ 2000000 * 100000 := Nat.mul_le_mul hn hb
  exact ⟨Nat.le_trans h1 (by omega), Nat.le_trans hn (by omega)⟩
theorem lt_of {A : Ar} (hA : real = A) {i n : Nat} (h : A.cmp .lss (Int.ofNat i) (A.int n) = true) : i < n := by
  subst hA
  have h : decide ((i : Int) < (n : Int)) = true := h
  rw [decide_eq_true_eq] at h
  omega
theorem inb_lt {A : Ar} (hA : real = A) {g : Bool} {i n : Nat} (h : i < n) : A.inb g (Int.ofNat i) n := by
  refine inb_of hA fun _ => ?_
  have e : Int.ofNat i = (i : Int) := rfl
  rw [e]
  omega
def zAgg : AggT := ⟨0, 0, 0, 0⟩
end Go.Rk
/- What is known of values, by lists; tables that records lead to. -/
namespace Go.Rk
set_option linter.unusedSimpArgs false
set_option linter.unusedVariables false
def sumI : List Int → Int
  | [] => 0
  | x :: l => x + sumI l
/-- What is known of just these values. -/
structure AggIs (a : AggT) (L : List Int) : Prop where
  n : a.n = (L.length : Int)
  sum : a.sum = sumI L
  z : L = [] → a = zAgg
  nz : L ≠ [] → a.least ∈ L ∧ a.most ∈ L ∧ ∀ x, x ∈ L → a.least ≤ x ∧ x ≤ a.most
abbrev Rise (l : List TabT) : Prop := l.Pairwise Ahead
end Go.Rk
/- Tables of pairs of records and windows: what they say, and that they hang on no order. -/
namespace Go.Rk
set_option linter.unusedSimpArgs false
set_option linter.unusedVariables false
def valsW (k : Int) (w : WinT) (P : List LatT) : List Int := (P.filter fun l => decide (l.itm.key = k ∧ l.win.s = w.s ∧ l.win.e = w.e)).map (·.itm.v)
def valsS (k : Int) (w : WinT) (P : List LatT) : List Int := (P.filter fun l => decide (l.itm.key = k ∧ w.s ≤ l.win.s ∧ l.win.s < w.e)).map (·.itm.v)
/-! ## Windows that do not grow -/
structure InvW (P : List LatT) (T : List TabT) : Prop where
  rise : Rise T
  row : ∀ r, r ∈ T → valsW r.key r.win P ≠ [] ∧ AggIs r.agg (valsW r.key r.win P)
  has : ∀ l, l ∈ P → ∃ r, r ∈ T ∧ IsRow l.itm.key l.win r
/-! ## Sessions -/
def CovP (P : List LatT) (k p : Int) : Prop := ∃ l, l ∈ P ∧ l.itm.key = k ∧ l.win.s < p ∧ p < l.win.e
structure SessP (P : List LatT) (r : TabT) : Prop where
  lt : r.win.s < r.win.e
  fst : ∃ l, l ∈ P ∧ l.itm.key = r.key ∧ l.win.s = r.win.s
  lst : ∃ l, l ∈ P ∧ l.itm.key = r.key ∧ l.win.e = r.win.e
  mid : ∀ p, r.win.s < p → p < r.win.e → CovP P r.key p
  low : ¬ CovP P r.key r.win.s
  top : ¬ CovP P r.key r.win.e
  agg : AggIs r.agg (valsS r.key r.win P)
structure InvS (P : List LatT) (T : List TabT) : Prop where
  rise : Rise T
  row : ∀ r, r ∈ T → SessP P r
  has : ∀ l, l ∈ P → ∃ r, r ∈ T ∧ r.key = l.itm.key ∧ r.win.s ≤ l.win.s ∧ l.win.e ≤ r.win.e
end Go.Rk
/- Tables of panes. -/
namespace Go.Rk
set_option linter.unusedSimpArgs false
set_option linter.unusedVariables false
theorem sub0r (f : Nat → List DV) : real.sub 0 f = f := sub0 rfl f
def mkPane (k : Int) : PaneT := ⟨k, ⟨k + 1, k + 2⟩, k + 3, k + 4, ⟨k + 5, k + 6, k + 7, k + 8⟩⟩
/-- One row more at the end, told by its own shape. -/
theorem push_if {A : Ar} {α : Type} (e : α → List DV) (hA : real = A) (n : Nat) (G : Nat → α) (x : α) (z : Nat → List DV) (k : Nat) (hk : k < n + 1) : A.app n (fun i => e (G i)) (A.sub 0 (A.app 1 (A.rep (e x)) z)) k = e (if k < n then G k else x) := by
  subst hA
  show (if k < n then e (G k) else (if 0 + (k - n) < 1 then e x else z (0 + (k - n) - 1))) = _
  split
  · rfl
  · rw [if_pos (by omega)]
theorem lt2_of {A : Ar} (hA : real = A) {i n : Nat} (h : A.cmp .lss (Int.ofNat i) (Int.ofNat n) = true) : i < n := by
  subst hA
  have h : decide ((i : Int) < (n : Int)) = true := h
  rw [decide_eq_true_eq] at h
  omega
end Go.Rk
/- What a mark does to rows, in plain words. -/
namespace Go.Rk
set_option linter.unusedSimpArgs false
set_option linter.unusedVariables false
def zRow : RowT := ⟨0, ⟨0, 0⟩, zAgg, zAgg, 0, false⟩
def zPan : PaneT := ⟨0, ⟨0, 0⟩, 0, 0, zAgg⟩
def mkRow (k : Int) : RowT := ⟨k, ⟨k + 1, k + 2⟩, ⟨k + 3, k + 4, k + 5, k + 6⟩, ⟨k + 7, k + 8, k + 9, k + 10⟩, k + 11, ((k + 12).tmod 3 == 0)⟩
theorem wr1 (k : Int) (h : 0 ≤ k ∧ k ≤ 150000000) : IntKind.i64.wrap (k + 1) = k + 1 := IntWalk.i64_in _ (by omega)
theorem wrn (k c d : Int) (h : 0 ≤ k ∧ k ≤ 150000000) (hc : 0 ≤ c ∧ c ≤ 1000) (hd : c + 1 = d) : IntKind.i64.wrap (k + c + 1) = k + d := by
  rw [IntWalk.i64_in _ (by omega)]; omega
end Go.Rk
/- What a record does to rows, in plain words. -/
namespace Go.Rk
set_option linter.unusedSimpArgs false
set_option linter.unusedVariables false
def IsR (k : Int) (w : WinT) (r : RowT) : Prop := r.key = k ∧ (r.win.s = w.s ∧ r.win.e = w.e)
instance (k : Int) (w : WinT) (r : RowT) : Decidable (IsR k w r) := inferInstanceAs (Decidable (_ ∧ _))
def RA (r q : RowT) : Prop := AheadP r.key r.win q.key q.win
instance (r q : RowT) : Decidable (RA r q) := inferInstanceAs (Decidable (_ ∨ (_ ∧ (_ ∨ (_ ∧ _)))))
end Go.Rk
/- Nests: clone. -/
namespace Go.Rk
set_option linter.unusedSimpArgs false
set_option linter.unusedVariables false
open Go.Proofs
set_option maxRecDepth 100000
set_option maxHeartbeats 1000000
theorem c_CloneRow (n : Nat) (hn : n ≤ 1080000) (g : Nat → RowT) : Meets Tryz.prog 159 [.c (.d (.sl 13 n fun i => eRow (g i)))] ⟨.one (.c (.own 13 n fun i => eRow (g i))), [none]⟩ := by
  refine meets_slice (fun h0 ad cap => ?_) (fun h1 => ?_)
  · subst h0
    cases ad with
    | none =>
      refine meets_up (res := .one (.c (.d (.v nilS)))) (UpV.nil 13 fun i => eRow (g i)) ?_
      refine meets_of (H := []) (EX := EXA) ttok mixed Tryz.func159 rfl (by kernel_rfl) (by decide) ?_
      generalize hA : real = A
      generalize hM : MeetsB Tryz.prog = M
      cbv
      repeat' first
        | exact absurd (show true = false by assumption) (by decide)
        | exact absurd (show false = true by assumption) (by decide)
        | apply And.intro
        | exact True.intro
        | with_reducible rfl
        | exact same_of hA rfl
        | refine br_of hA (fun _ => ?_) (fun _ => ?_)
        | exact imp_of hA id
        | (refine imp_of hA ?_; subst hA; simp only [real, Bool.true_and]; exact id)
        | (refine ind_of hA ?_; decide +kernel)
        | fail
    | some ad =>
      refine meets_up (res := .one (.c (.own 13 0 fun i => (real.rep ([eI 0, eI 0, eI 0, eI 0, eI 0, eI 0, eI 0, eI 0, eI 0, eI 0, eI 0, eI 0, eB false]) i)))) (UpV.row fun i hi => absurd hi (Nat.not_lt_zero i)) ?_
      refine meets_of (H := []) (EX := EXA) ttok mixed Tryz.func159 rfl (by kernel_rfl) (by decide) ?_
      generalize hA : real = A
      generalize hM : MeetsB Tryz.prog = M
      cbv
      repeat' first
        | exact absurd (show true = false by assumption) (by decide)
        | exact absurd (show false = true by assumption) (by decide)
        | apply And.intro
        | exact True.intro
        | with_reducible rfl
        | exact same_of hA rfl
        | refine br_of hA (fun _ => ?_) (fun _ => ?_)
        | exact imp_of hA id
        | (refine imp_of hA ?_; subst hA; simp only [real, Bool.true_and]; exact id)
        | (refine ind_of hA ?_; decide +kernel)
        | exact room_z hA (by omega) (by decide)
        | fail
      exact own_cp hA (by subst hA; rfl)
  · skip
    refine meets_of (H := []) (EX := EXA) ttok mixed Tryz.func159 rfl (by kernel_rfl) (by decide) ?_
    generalize hA : real = A
    generalize hM : MeetsB Tryz.prog = M
    cbv
    repeat' first
      | exact absurd (show true = false by assumption) (by decide)
      | exact absurd (show false = true by assumption) (by decide)
      | apply And.intro
      | exact True.intro
      | with_reducible rfl
      | exact same_of hA rfl
      | refine br_of hA (fun _ => ?_) (fun _ => ?_)
      | exact imp_of hA id
      | (refine imp_of hA ?_; subst hA; simp only [real, Bool.true_and]; exact id)
      | (refine ind_of hA ?_; decide +kernel)
      | exact room_z hA (by omega) (by decide)
      | (refine inb_of hA (fun _ => ⟨by omega, by omega⟩))
      | (rename_i hb; cases hb; done)
      | fail
    exact own_cp hA rfl
theorem c_CloneItm (n : Nat) (hn : n ≤ 1080000) (g : Nat → ItmT) : Meets Tryz.prog 107 [.c (.d (.sl 5 n fun i => eItm (g i)))] ⟨.one (.c (.own 5 n fun i => eItm (g i))), [none]⟩ := by
  refine meets_slice (fun h0 ad cap => ?_) (fun h1 => ?_)
  · subst h0
    cases ad with
    | none =>
      refine meets_up (res := .one (.c (.d (.v nilS)))) (UpV.nil 5 fun i => eItm (g i)) ?_
      refine meets_of (H := []) (EX := EXA) ttok mixed Tryz.func107 rfl (by kernel_rfl) (by decide) ?_
      generalize hA : real = A
      generalize hM : MeetsB Tryz.prog = M
      cbv
      repeat' first
        | exact absurd (show true = false by assumption) (by decide)
        | exact absurd (show false = true by assumption) (by decide)
        | apply And.intro
        | exact True.intro
        | with_reducible rfl
        | exact same_of hA rfl
        | refine br_of hA (fun _ => ?_) (fun _ => ?_)
        | exact imp_of hA id
        | (refine imp_of hA ?_; subst hA; simp only [real, Bool.true_and]; exact id)
        | (refine ind_of hA ?_; decide +kernel)
        | fail
    | some ad =>
      refine meets_up (res := .one (.c (.own 5 0 fun i => (real.rep ([eI 0, eI 0, eI 0, eI 0, eI 0]) i)))) (UpV.row fun i hi => absurd hi (Nat.not_lt_zero i)) ?_
      refine meets_of (H := []) (EX := EXA) ttok mixed Tryz.func107 rfl (by kernel_rfl) (by decide) ?_
      generalize hA : real = A
      generalize hM : MeetsB Tryz.prog = M
      cbv
      repeat' first
        | exact absurd (show true = false by assumption) (by decide)
        | exact absurd (show false = true by assumption) (by decide)
        | apply And.intro
        | exact True.intro
        | with_reducible rfl
        | exact same_of hA rfl
        | refine br_of hA (fun _ => ?_) (fun _ => ?_)
        | exact imp_of hA id
        | (refine imp_of hA ?_; subst hA; simp only [real, Bool.true_and]; exact id)
        | (refine ind_of hA ?_; decide +kernel)
        | exact room_z hA (by omega) (by decide)
        | fail
      exact own_cp hA (by subst hA; rfl)
  · skip
    refine meets_of (H := []) (EX := EXA) ttok mixed Tryz.func107 rfl (by kernel_rfl) (by decide) ?_
    generalize hA : real = A
    generalize hM : MeetsB Tryz.prog = M
    cbv
    repeat' first
      | exact absurd (show true = false by assumption) (by decide)
      | exact absurd (show false = true by assumption) (by decide)
      | apply And.intro
      | exact True.intro
      | with_reducible rfl
      | exact same_of hA rfl
      | refine br_of hA (fun _ => ?_) (fun _ => ?_)
      | exact imp_of hA id
      | (refine imp_of hA ?_; subst hA; simp only [real, Bool.true_and]; exact id)
      | (refine ind_of hA ?_; decide +kernel)
      | exact room_z hA (by omega) (by decide)
      | (refine inb_of hA (fun _ => ⟨by omega, by omega⟩))
      | (rename_i hb; cases hb; done)
      | fail
    exact own_cp hA rfl
theorem c_ClonePane (n : Nat) (hn : n ≤ 1080000) (g : Nat → PaneT) : Meets Tryz.prog 160 [.c (.d (.sl 9 n fun i => ePane (g i)))] ⟨.one (.c (.own 9 n fun i => ePane (g i))), [none]⟩ := by
  refine meets_slice (fun h0 ad cap => ?_) (fun h1 => ?_)
  · subst h0
    cases ad with
    | none =>
      refine meets_up (res := .one (.c (.d (.v nilS)))) (UpV.nil 9 fun i => ePane (g i)) ?_
      refine meets_of (H := []) (EX := EXA) ttok mixed Tryz.func160 rfl (by kernel_rfl) (by decide) ?_
      generalize hA : real = A
      generalize hM : MeetsB Tryz.prog = M
      cbv
      repeat' first
        | exact absurd (show true = false by assumption) (by decide)
        | exact absurd (show false = true by assumption) (by decide)
        | apply And.intro
        | exact True.intro
        | with_reducible rfl
        | exact same_of hA rfl
        | refine br_of hA (fun _ => ?_) (fun _ => ?_)
        | exact imp_of hA id
        | (refine imp_of hA ?_; subst hA; simp only [real, Bool.true_and]; exact id)
        | (refine ind_of hA ?_; decide +kernel)
        | fail
    | some ad =>
      refine meets_up (res := .one (.c (.own 9 0 fun i => (real.rep ([eI 0, eI 0, eI 0, eI 0, eI 0, eI 0, eI 0, eI 0, eI 0]) i)))) (UpV.row fun i hi => absurd hi (Nat.not_lt_zero i)) ?_
      refine meets_of (H := []) (EX := EXA) ttok mixed Tryz.func160 rfl (by kernel_rfl) (by decide) ?_
      generalize hA : real = A
      generalize hM : MeetsB Tryz.prog = M
      cbv
      repeat' first
        | exact absurd (show true = false by assumption) (by decide)
        | exact absurd (show false = true by assumption) (by decide)
        | apply And.intro
        | exact True.intro
        | with_reducible rfl
        | exact same_of hA rfl
        | refine br_of hA (fun _ => ?_) (fun _ => ?_)
        | exact imp_of hA id
        | (refine imp_of hA ?_; subst hA; simp only [real, Bool.true_and]; exact id)
        | (refine ind_of hA ?_; decide +kernel)
        | exact room_z hA (by omega) (by decide)
        | fail
      exact own_cp hA (by subst hA; rfl)
  · skip
    refine meets_of (H := []) (EX := EXA) ttok mixed Tryz.func160 rfl (by kernel_rfl) (by decide) ?_
    generalize hA : real = A
    generalize hM : MeetsB Tryz.prog = M
    cbv
    repeat' first
      | exact absurd (show true = false by assumption) (by decide)
      | exact absurd (show false = true by assumption) (by decide)
      | apply And.intro
      | exact True.intro
      | with_reducible rfl
      | exact same_of hA rfl
      | refine br_of hA (fun _ => ?_) (fun _ => ?_)
      | exact imp_of hA id
      | (refine imp_of hA ?_; subst hA; simp only [real, Bool.true_and]; exact id)
      | (refine ind_of hA ?_; decide +kernel)
      | exact room_z hA (by omega) (by decide)
      | (refine inb_of hA (fun _ => ⟨by omega, by omega⟩))
      | (rename_i hb; cases hb; done)
      | fail
    exact own_cp hA rfl
theorem c_CloneLat (n : Nat) (hn : n ≤ 1080000) (g : Nat → LatT) : Meets Tryz.prog 161 [.c (.d (.sl 7 n fun i => eLat (g i)))] ⟨.one (.c (.own 7 n fun i => eLat (g i))), [none]⟩ := by
  refine meets_slice (fun h0 ad cap => ?_) (fun h1 => ?_)
  · subst h0
    cases ad with
    | none =>
      refine meets_up (res := .one (.c (.d (.v nilS)))) (UpV.nil 7 fun i => eLat (g i)) ?_
      refine meets_of (H := []) (EX := EXA) ttok mixed Tryz.func161 rfl (by kernel_rfl) (by decide) ?_
      generalize hA : real = A
      generalize hM : MeetsB Tryz.prog = M
      cbv
      repeat' first
        | exact absurd (show true = false by assumption) (by decide)
        | exact absurd (show false = true by assumption) (by decide)
        | apply And.intro
        | exact True.intro
        | with_reducible rfl
        | exact same_of hA rfl
        | refine br_of hA (fun _ => ?_) (fun _ => ?_)
        | exact imp_of hA id
        | (refine imp_of hA ?_; subst hA; simp only [real, Bool.true_and]; exact id)
        | (refine ind_of hA ?_; decide +kernel)
        | fail
    | some ad =>
      refine meets_up (res := .one (.c (.own 7 0 fun i => (real.rep ([eI 0, eI 0, eI 0, eI 0, eI 0, eI 0, eI 0]) i)))) (UpV.row fun i hi => absurd hi (Nat.not_lt_zero i)) ?_
      refine meets_of (H := []) (EX := EXA) ttok mixed Tryz.func161 rfl (by kernel_rfl) (by decide) ?_
      generalize hA : real = A
      generalize hM : MeetsB Tryz.prog = M
      cbv
      repeat' first
        | exact absurd (show true = false by assumption) (by decide)
        | exact absurd (show false = true by assumption) (by decide)
        | apply And.intro
        | exact True.intro
        | with_reducible rfl
        | exact same_of hA rfl
        | refine br_of hA (fun _ => ?_) (fun _ => ?_)
        | exact imp_of hA id
        | (refine imp_of hA ?_; subst hA; simp only [real, Bool.true_and]; exact id)
        | (refine ind_of hA ?_; decide +kernel)
        | exact room_z hA (by omega) (by decide)
        | fail
      exact own_cp hA (by subst hA; rfl)
  · skip
    refine meets_of (H := []) (EX := EXA) ttok mixed Tryz.func161 rfl (by kernel_rfl) (by decide) ?_
    generalize hA : real = A
    generalize hM : MeetsB Tryz.prog = M
    cbv
    repeat' first
      | exact absurd (show true = false by assumption) (by decide)
      | exact absurd (show false = true by assumption) (by decide)
      | apply And.intro
      | exact True.intro
      | with_reducible rfl
      | exact same_of hA rfl
      | refine br_of hA (fun _ => ?_) (fun _ => ?_)
      | exact imp_of hA id
      | (refine imp_of hA ?_; subst hA; simp only [real, Bool.true_and]; exact id)
      | (refine ind_of hA ?_; decide +kernel)
      | exact room_z hA (by omega) (by decide)
      | (refine inb_of hA (fun _ => ⟨by omega, by omega⟩))
      | (rename_i hb; cases hb; done)
      | fail
    exact own_cp hA rfl
theorem c_copied (mk : Int) (n : Nat) (hn : n ≤ 1080000) (g : Nat → RowT) : Meets Tryz.prog 105 [.agg [.d (eI mk), .d (.sl 13 n fun i => eRow (g i))]] ⟨.one (.agg [.d (eI mk), .own 13 n fun i => eRow (g i)]), [none]⟩ := by
  refine meets_of (H := []) (EX := EXA) ttok mixed Tryz.func105 rfl (by kernel_rfl) (by decide) ?_
  generalize hA : real = A
  generalize hM : MeetsB Tryz.prog = M
  cbv
  repeat' first
    | apply And.intro
    | exact True.intro
    | with_reducible rfl
    | exact same_of hA rfl
    | refine br_of hA (fun _ => ?_) (fun _ => ?_)
    | exact imp_of hA id
    | (refine imp_of hA ?_; subst hA; simp only [real, Bool.true_and]; exact id)
    | (refine ind_of hA ?_; decide +kernel)
    | exact room_z hA (by omega) (by decide)
    | (refine call_of2 hA hM _ (c_CloneRow n hn g) rfl ?_; cbv)
    | fail
theorem c_sCopy (mk : Int) (n : Nat) (hn : n ≤ 1080000) (g : Nat → RowT) : Meets Tryz.prog 91 [.agg [.d (eI mk), .d (.sl 13 n fun i => eRow (g i))]] ⟨.one (.agg [.d (eI mk), .own 13 n fun i => eRow (g i)]), [none]⟩ := by
  refine meets_of (H := []) (EX := EXA) ttok mixed Tryz.func91 rfl (by kernel_rfl) (by decide) ?_
  generalize hA : real = A
  generalize hM : MeetsB Tryz.prog = M
  cbv
  repeat' first
    | apply And.intro
    | exact True.intro
    | with_reducible rfl
    | exact same_of hA rfl
    | refine br_of hA (fun _ => ?_) (fun _ => ?_)
    | exact imp_of hA id
    | (refine imp_of hA ?_; subst hA; simp only [real, Bool.true_and]; exact id)
    | (refine ind_of hA ?_; decide +kernel)
    | exact room_z hA (by omega) (by decide)
    | (refine call_of2 hA hM _ (c_CloneRow n hn g) rfl ?_; cbv)
    | fail
  exact own_cp2 hA rfl
end Go.Rk
/- Marks, in plain words. -/
namespace Go.Rk
set_option linter.unusedSimpArgs false
set_option linter.unusedVariables false
def mkint (k : Int) : Int := k
def mkbool (k : Int) : Bool := k.tmod 3 == 0
/-- Where the marks of a row's parts begin, one behind the other. -/
def posS (len : Nat → Int) (s : Int) : Nat → Int
  | 0 => s
  | i + 1 => posS len s i + len i
theorem posS_mono {len : Nat → Int} {s : Int} {n : Nat} (h : ∀ i, i < n → 0 ≤ len i) : ∀ {i j : Nat}, i ≤ j → j ≤ n → posS len s i ≤ posS len s j := by
  intro i j hij hj
  induction j with
  | zero => have : i = 0 := by omega
            subst this; exact Int.le_refl _
  | succ j ih =>
    by_cases e : i = j + 1
    · subst e; exact Int.le_refl _
    · have h1 := ih (by omega) (by omega)
      have h2 := h j (by omega)
      show _ ≤ posS len s j + len j
      omega
def lenSnap (x : SnapT) : Int := 1 + 13 * (x.op.rows.n : Int) + (x.marks.n : Int)
def mkSnap (p : Int) (x : SnapT) : SnapT := ⟨⟨p, ⟨x.op.rows.n, fun i => mkRow (p + 1 + 13 * (i : Int)), x.op.rows.hn⟩⟩, ⟨x.marks.n, fun i => p + 1 + 13 * (x.op.rows.n : Int) + (i : Int), x.marks.hn⟩⟩
def lenTskIn (x : TskInT) : Int := 5 * (x.queue.n : Int) + 2
def mkTskIn (p : Int) (x : TskInT) : TskInT := ⟨⟨x.queue.n, fun i => mkItm (p + 5 * (i : Int)), x.queue.hn⟩, p + 5 * (x.queue.n : Int), mkbool (p + 5 * (x.queue.n : Int) + 1)⟩
end Go.Rk
