/- Tables: find. -/
import Derived.Test.YtbkpfnddpnccmaaTA22
import Derived.Test.YtbkpfnddpnccmaaDTb
import Derived.Test.YtbkpfnddpnccmaaDDr
import Derived.Test.YtbkpfnddpnccmaaRk28
import Derived.Test.YtbkpfnddpnccmaaRk29
namespace Go.Rk
set_option linter.unusedSimpArgs false
set_option linter.unusedVariables false
open Go.Proofs
set_option maxRecDepth 100000
set_option maxHeartbeats 1000000
open Classical in
set_option maxRecDepth 100000 in
theorem c_Find1 (r : TabT) (key : Int) (w : WinT) : ∃ b, (b = true ↔ IsRow key w r) ∧ Meets Try.prog 96 [xd (eTab r), .c (.d (.p [eI key])), .c (.d (.p (eWin w)))] ⟨.one (.c (.d (eB b))), [none, none, none]⟩ := by
  obtain ⟨b, hb⟩ : ∃ b, b = decide (IsRow key w r) := ⟨_, rfl⟩
  refine ⟨b, by rw [hb, decide_eq_true_eq], ?_⟩
  refine meets_of (H := []) (EX := EXA) ttok mixed Try.func96 rfl (by kernel_rfl) (by decide) ?_
  generalize hA : real = A
  generalize hM : Meets Try.prog = M
  cbv
  repeat' first
    | apply And.intro
    | exact True.intro
    | with_reducible rfl
    | exact same_of hA rfl
    | refine br_of hA (fun _ => ?_) (fun _ => ?_)
    | exact imp_of hA id
    | (refine imp_of hA ?_; subst hA; simp only [real, Bool.true_and]; exact id)
    | (refine ind_of hA ?_; decide +kernel)
    | (refine call_ex hA hM (c_of _ _ _) (fun _ _ => ?_); cbv)
  all_goals obtain ⟨k, ⟨s, e⟩, ag⟩ := r; obtain ⟨s2, e2⟩ := w
  all_goals subst hA
  all_goals refine congrArg (fun b => XA.one (.c (.d (eB b)))) (Bool.eq_iff_iff.2 ?_)
  all_goals subst_vars
  all_goals simp only [real, bifA, bifB, bifC, bifD, beqB, decide_eq_true_eq, decide_eq_false_iff_not, beqI, bneI, beqIF, bneIF, ne_eq, Bool.and_eq_true, Bool.or_eq_true, Bool.not_eq_true', Bool.not_eq_false', Bool.and_eq_false_iff, Bool.or_eq_false_iff, Bool.false_eq_true, and_false, false_and, or_false, false_or, and_true, true_and, not_true_eq_false, not_false_eq_true, true_iff, false_iff, IntKind.wrap_i64, IsRow, WinOkP, AggOkP] at *
  all_goals first | omega | exact (@decide_eq_true_iff _ _).symm | (refine Iff.trans ?_ (@decide_eq_true_iff _ _).symm; omega)
theorem c_Find (l : List TabT) (n : Nat) (g : Nat → TabT) (hl : Lst zTab l n g) (hn : n ≤ 1100000) (key : Int) (w : WinT) (a : AggT) (ha : a = (tFind key w l).getD zAgg) (b : Bool) (hb : b = (tFind key w l).isSome) : Meets Try.prog 47 [.c (.d (.sl 7 n fun i => eTab (g i))), .c (.d (eI key)), xd (eWin w)] ⟨.tup [xd (eAgg a), .c (.d (eB b))], [none, none, none]⟩ := by
  have hnL : n ≤ maxLen := Nat.le_trans hn (by decide)
  obtain ⟨x, hx, hX⟩ := c_IndexTab2 n hnL g 96 (.p [eI key]) (.p (eWin w)) (IsRow key w) (fun r => c_Find1 r key w)
  have hxx := firstIx_neg hx
  have hcs : (0 ≤ x → x < (n : Int) ∧ some (g x.toNat).agg = tFind key w l) ∧ (¬ 0 ≤ x → tFind key w l = none) := by
    refine ⟨fun h => ?_, fun h => tFind_none hl fun k hk hq => h (hxx.1.2 ⟨k, hk, hq⟩)⟩
    obtain ⟨q, hq1, hq2, hq3, hq4⟩ := hxx.2.1 h
    rw [hq2]
    exact ⟨Int.ofNat_lt.2 hq1, (tFind_first hl hq1 hq3 hq4).symm⟩
  refine meets_of (H := []) (EX := EXA) ttok mixed Try.func47 rfl (by kernel_rfl) (by decide) ?_
  generalize hA : real = A
  generalize hM : Meets Try.prog = M
  cbv
  repeat' first
    | apply And.intro
    | exact True.intro
    | with_reducible rfl
    | exact same_of hA rfl
    | refine br_of hA (fun _ => ?_) (fun _ => ?_)
    | exact imp_of hA id
    | (refine imp_of hA ?_; subst hA; simp only [real, Bool.true_and]; exact id)
    | (refine ind_of hA ?_; decide +kernel)
    | (refine call_of hA hM _ hX ?_; cbv)
    | (rename_i hneg; refine inb_of hA fun _ => ?_; subst hA; have h2 := Int.not_lt.1 (of_decide_eq_false (show decide (x < 0) = false from hneg)); exact ⟨h2, (hcs.1 h2).1⟩)
  · rename_i hneg
    subst hA
    have e := hcs.2 (Int.not_le.2 (of_decide_eq_true (show decide (x < 0) = true from hneg)))
    rw [e] at ha hb; subst ha; subst hb; rfl
  · rename_i hneg
    subst hA
    have e := (hcs.1 (Int.not_lt.1 (of_decide_eq_false (show decide (x < 0) = false from hneg)))).2
    rw [← e] at ha hb; subst ha; subst hb; rfl
def st_sFind (n : Nat) (g : Nat → TabT) (key : Int) (w : WinT) (i : Nat) : St := ⟨[(8, .c (.d (eI i))), (0, .c (.d (.sl 7 n fun i => eTab (g i)))), (1, .c (.d (eI key))), (5, .c (.bp 320 1 0)), (6, .c (.bp 384 1 0)), (7, .c (.d (eB false)))], [(320, 1, .box ((eWin w).map .d)), (384, 1, .box ((eAgg zAgg).map .d))]⟩
theorem c_sFind (l : List TabT) (n : Nat) (g : Nat → TabT) (hl : Lst zTab l n g) (hn : n ≤ 1100000) (key : Int) (w : WinT) (a : AggT) (ha : a = (tFind key w l).getD zAgg) (b : Bool) (hb : b = (tFind key w l).isSome) : Meets Try.prog 99 [.c (.d (.sl 7 n fun i => eTab (g i))), .c (.d (eI key)), xd (eWin w)] ⟨.tup [xd (eAgg a), .c (.d (eB b))], [none, none, none]⟩ := by
  have hnL : n ≤ maxLen := Nat.le_trans hn (by decide)
  refine meets_of (H := []) (EX := EXA) ttok mixed Try.func99 rfl (by kernel_rfl) (by decide) ?_
  generalize hA : real = A
  generalize hM : Meets Try.prog = M
  cbv
  repeat' first
    | apply And.intro
    | exact True.intro
    | with_reducible rfl
    | exact same_of hA rfl
    | refine br_of hA (fun _ => ?_) (fun _ => ?_)
    | exact imp_of hA id
    | (refine imp_of hA ?_; subst hA; simp only [real, Bool.true_and]; exact id)
    | (refine ind_of hA ?_; decide +kernel)
  refine loop_of hA (α := { i : Nat // i ≤ n ∧ ∀ k, k < i → ¬ IsRow key w (g k) }) (fun x => st_sFind n g key w x.1) (fun x => n - x.1) ⟨0, Nat.zero_le _, fun k h => absurd h (Nat.not_lt_zero k)⟩ ?_ ?_
  · refine cov_of ?_ ?_ ?_
    · cbv; try (subst hA; repeat' first | apply And.intro | exact True.intro | rfl)
    · cbv; try (subst hA; repeat' first | apply And.intro | exact True.intro | rfl | (intro _ _; rfl) | (intro k hk; exact absurd hk (Nat.not_lt_zero k)))
    · cbv; try (subst hA; repeat' first | apply And.intro | exact True.intro | rfl | exact .inr trivial)
  rintro ⟨i, hi, hk⟩
  cbv
  repeat' first
    | apply And.intro
    | exact True.intro
    | with_reducible rfl
    | exact same_of hA rfl
    | refine br_of hA (fun _ => ?_) (fun _ => ?_)
    | exact imp_of hA id
    | (refine imp_of hA ?_; subst hA; simp only [real, Bool.true_and]; exact id)
    | (refine ind_of hA ?_; decide +kernel)
    | (refine inb_of hA fun _ => ?_; subst hA; simp only [real, Bool.and_eq_true, Bool.not_eq_true', Bool.not_eq_false', decide_eq_true_eq, Int.ofNat_eq_natCast, IntKind.wrap_i64] at *; omega)
  · rename_i hlt hc
    have hlt' := lt_of hA hlt
    have hq : IsRow key w (g i) := by
      subst hA
      have e1 : real.nat (Int.ofNat i) = i := rfl
      simp only [e1, real, bifA, bifB, bifC, bifD, beqB, decide_eq_true_eq, decide_eq_false_iff_not, beqI, bneI, beqIF, bneIF, ne_eq, Classical.not_not, Bool.and_eq_true, Bool.or_eq_true, Bool.not_eq_true', Bool.not_eq_false', Bool.and_eq_false_iff, Bool.or_eq_false_iff, Bool.false_eq_true, and_false, false_and, or_false, false_or, and_true, true_and, not_true_eq_false, not_false_eq_true, true_iff, false_iff, Int.ofNat_eq_natCast, Int.toNat_natCast] at hc
      exact ⟨hc.1, hc.2.1, hc.2.2⟩
    have e := tFind_first hl hlt' hq hk
    subst hA
    rw [e] at ha hb; subst ha; subst hb; rfl
  · rename_i hlt hc
    have hlt' := lt_of hA hlt
    have hq : ¬ IsRow key w (g i) := by
      subst hA
      have e1 : real.nat (Int.ofNat i) = i := rfl
      simp only [e1, real, bifA, bifB, bifC, bifD, beqB, decide_eq_true_eq, decide_eq_false_iff_not, beqI, bneI, beqIF, bneIF, ne_eq, Classical.not_not, Bool.and_eq_true, Bool.or_eq_true, Bool.not_eq_true', Bool.not_eq_false', Bool.and_eq_false_iff, Bool.or_eq_false_iff, Bool.false_eq_true, and_false, false_and, or_false, false_or, and_true, true_and, not_true_eq_false, not_false_eq_true, true_iff, false_iff, Int.ofNat_eq_natCast, Int.toNat_natCast] at hc
      intro hI
      rcases hc with h | h | h | h
      · exact h hI.1
      · exact h hI.2.1
      · exact h hI.2.2
      · cases h
    refine ⟨⟨i + 1, by omega, fun k hk' => ?_⟩, by simp only; omega, cov_of ?_ ?_ ?_⟩
    · by_cases e : k = i
      · rw [e]; exact hq
      · exact hk k (by omega)
    · cbv
      subst hA
      repeat' first | apply And.intro | exact True.intro | exact congrArg (fun x => DV.v (.int .i64 x)) (up64 hlt' hnL) | rfl
    · cbv; try (subst hA; repeat' first | apply And.intro | exact True.intro | rfl | (intro _ _; rfl))
    · cbv; try (subst hA; repeat' first | apply And.intro | exact True.intro | rfl | exact .inr trivial)
  · rename_i hge
    have hin : i = n := by have := ge_of hA hge; omega
    have e := tFind_none hl fun k hkn => hk k (by omega)
    rw [e] at ha hb; subst ha; subst hb; rfl
end Go.Rk
