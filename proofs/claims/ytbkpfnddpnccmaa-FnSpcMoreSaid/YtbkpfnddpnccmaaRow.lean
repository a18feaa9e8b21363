/- The walk over this seat's functions, part 4: what each of them answers, at all data. -/
import Derived.Test.YtbkpfnddpnccmaaM1
import Derived.Test.YtbkpfnddpnccmaaM2
import Derived.Test.YtbkpfnddpnccmaaM3
import Derived.Shelf.Spec.SlicesInsertGrow
import Derived.Test.YtbkpfnddpnccmaaRows
import Derived.WalkKit
import Derived.ProofKit
import Derived.OpenShut
import Derived.ShutString
import Derived.ChangeOld
import Derived.SizedLaws
import Derived.DataShut
/- What is known of values, put together. -/
namespace Go.Rk
set_option linter.unusedSimpArgs false
set_option linter.unusedVariables false
open Go.Proofs
set_option maxRecDepth 100000
set_option maxHeartbeats 1000000
theorem c_AggBoth (a b c : AggT) (hc : c = aggB a b) : Meets Try.prog 52 [xd (eAgg a), xd (eAgg b)] ⟨.one (xd (eAgg c)), [none, none]⟩ := by
  obtain ⟨n, s, l, m⟩ := a; obtain ⟨n2, s2, l2, m2⟩ := b; obtain ⟨n3, s3, l3, m3⟩ := c
  refine meets_of (H := []) (EX := EXA) ttok mixed Try.func52 rfl (by kernel_rfl) (by decide) ?_
  generalize hA : real = A
  generalize hM : Meets Try.prog = M
  cbv
  repeat' first
    | apply And.intro
    | exact True.intro
    | with_reducible rfl
    | exact same_of hA rfl
    | refine br_of hA (fun _ => ?_) (fun _ => ?_)
    | exact imp_of hA id
    | (refine imp_of hA ?_; subst hA; simp only [real, Bool.true_and]; exact id)
    | (refine ind_of hA ?_; decide +kernel)
  all_goals
    subst hA
    simp only [aggB, w64] at hc
    simp only [real, bifA, bifB, bifC, bifD, beqI, beqIF, decide_eq_true_eq, decide_eq_false_iff_not, gt_iff_lt] at *
    simp_all
theorem c_AggAdd (a : AggT) (v : Int) (c : AggT) (hc : c = aggAdd a v) : Meets Try.prog 62 [xd (eAgg a), .c (.d (eI v))] ⟨.one (xd (eAgg c)), [none, none]⟩ := by
  have h := c_AggBoth a (agg1 v) c hc
  obtain ⟨n, s, l, m⟩ := a
  refine meets_of (H := []) (EX := EXA) ttok mixed Try.func62 rfl (by kernel_rfl) (by decide) ?_
  generalize hA : real = A
  generalize hM : Meets Try.prog = M
  cbv
  repeat' first
    | apply And.intro
    | exact True.intro
    | with_reducible rfl
    | exact same_of hA rfl
    | refine br_of hA (fun _ => ?_) (fun _ => ?_)
    | exact imp_of hA id
    | (refine imp_of hA ?_; subst hA; simp only [real, Bool.true_and]; exact id)
    | (refine ind_of hA ?_; decide +kernel)
    | (refine call_of hA hM _ h ?_; cbv)
theorem c_WinSpan (a b c : WinT) (hc : c = winSpan a b) : Meets Try.prog 103 [xd (eWin a), xd (eWin b)] ⟨.one (xd (eWin c)), [none, none]⟩ := by
  obtain ⟨n, s⟩ := a; obtain ⟨n2, s2⟩ := b; obtain ⟨n3, s3⟩ := c
  refine meets_of (H := []) (EX := EXA) ttok mixed Try.func103 rfl (by kernel_rfl) (by decide) ?_
  generalize hA : real = A
  generalize hM : Meets Try.prog = M
  cbv
  repeat' first
    | apply And.intro
    | exact True.intro
    | with_reducible rfl
    | exact same_of hA rfl
    | refine br_of hA (fun _ => ?_) (fun _ => ?_)
    | exact imp_of hA id
    | (refine imp_of hA ?_; subst hA; simp only [real, Bool.true_and]; exact id)
    | (refine ind_of hA ?_; decide +kernel)
  all_goals
    subst hA
    simp only [winSpan] at hc
    simp only [real, bifA, bifB, bifC, bifD, beqI, beqIF, decide_eq_true_eq, decide_eq_false_iff_not, gt_iff_lt] at *
    simp_all
theorem c_sAggBoth (a b c : AggT) (hc : c = aggB a b) : Meets Try.prog 100 [xd (eAgg a), xd (eAgg b)] ⟨.one (xd (eAgg c)), [none, none]⟩ := by
  obtain ⟨n, s, l, m⟩ := a; obtain ⟨n2, s2, l2, m2⟩ := b; obtain ⟨n3, s3, l3, m3⟩ := c
  refine meets_of (H := []) (EX := EXA) ttok mixed Try.func100 rfl (by kernel_rfl) (by decide) ?_
  generalize hA : real = A
  generalize hM : Meets Try.prog = M
  cbv
  repeat' first
    | apply And.intro
    | exact True.intro
    | with_reducible rfl
    | exact same_of hA rfl
    | refine br_of hA (fun _ => ?_) (fun _ => ?_)
    | exact imp_of hA id
    | (refine imp_of hA ?_; subst hA; simp only [real, Bool.true_and]; exact id)
    | (refine ind_of hA ?_; decide +kernel)
  all_goals
    subst hA
    simp only [aggB, w64] at hc
    simp only [real, bifA, bifB, bifC, bifD, beqI, beqIF, decide_eq_true_eq, decide_eq_false_iff_not, gt_iff_lt] at *
    simp_all
theorem c_sAggAdd (a : AggT) (v : Int) (c : AggT) (hc : c = aggAdd a v) : Meets Try.prog 105 [xd (eAgg a), .c (.d (eI v))] ⟨.one (xd (eAgg c)), [none, none]⟩ := by
  have h := c_sAggBoth a (agg1 v) c hc
  obtain ⟨n, s, l, m⟩ := a
  refine meets_of (H := []) (EX := EXA) ttok mixed Try.func105 rfl (by kernel_rfl) (by decide) ?_
  generalize hA : real = A
  generalize hM : Meets Try.prog = M
  cbv
  repeat' first
    | apply And.intro
    | exact True.intro
    | with_reducible rfl
    | exact same_of hA rfl
    | refine br_of hA (fun _ => ?_) (fun _ => ?_)
    | exact imp_of hA id
    | (refine imp_of hA ?_; subst hA; simp only [real, Bool.true_and]; exact id)
    | (refine ind_of hA ?_; decide +kernel)
    | (refine call_of hA hM _ h ?_; cbv)
theorem c_sWinSpan (a b c : WinT) (hc : c = winSpan a b) : Meets Try.prog 125 [xd (eWin a), xd (eWin b)] ⟨.one (xd (eWin c)), [none, none]⟩ := by
  obtain ⟨n, s⟩ := a; obtain ⟨n2, s2⟩ := b; obtain ⟨n3, s3⟩ := c
  refine meets_of (H := []) (EX := EXA) ttok mixed Try.func125 rfl (by kernel_rfl) (by decide) ?_
  generalize hA : real = A
  generalize hM : Meets Try.prog = M
  cbv
  repeat' first
    | apply And.intro
    | exact True.intro
    | with_reducible rfl
    | exact same_of hA rfl
    | refine br_of hA (fun _ => ?_) (fun _ => ?_)
    | exact imp_of hA id
    | (refine imp_of hA ?_; subst hA; simp only [real, Bool.true_and]; exact id)
    | (refine ind_of hA ?_; decide +kernel)
  all_goals
    subst hA
    simp only [winSpan] at hc
    simp only [real, bifA, bifB, bifC, bifD, beqI, beqIF, decide_eq_true_eq, decide_eq_false_iff_not, gt_iff_lt] at *
    simp_all
end Go.Rk
/- Tables: out. -/
namespace Go.Rk
set_option linter.unusedSimpArgs false
set_option linter.unusedVariables false
open Go.Proofs
set_option maxRecDepth 100000
set_option maxHeartbeats 1000000
open Classical in
set_option maxRecDepth 100000 in
theorem c_of (r : TabT) (key : Int) (w : WinT) : ∃ b, (b = true ↔ IsRow key w r) ∧ Meets Try.prog 97 [xd (eTab r), .c (.d (eI key)), xd (eWin w)] ⟨.one (.c (.d (eB b))), [none, none, none]⟩ := by
  obtain ⟨b, hb⟩ : ∃ b, b = decide (IsRow key w r) := ⟨_, rfl⟩
  refine ⟨b, by rw [hb, decide_eq_true_eq], ?_⟩
  refine meets_of (H := []) (EX := EXA) ttok mixed Try.func97 rfl (by kernel_rfl) (by decide) ?_
  generalize hA : real = A
  generalize hM : Meets Try.prog = M
  cbv
  repeat' first
    | apply And.intro
    | exact True.intro
    | with_reducible rfl
    | exact same_of hA rfl
    | refine br_of hA (fun _ => ?_) (fun _ => ?_)
    | exact imp_of hA id
    | (refine imp_of hA ?_; subst hA; simp only [real, Bool.true_and]; exact id)
    | (refine ind_of hA ?_; decide +kernel)
  all_goals obtain ⟨k, ⟨s, e⟩, ag⟩ := r; obtain ⟨s2, e2⟩ := w
  all_goals subst hA
  all_goals refine congrArg (fun b => XA.one (.c (.d (eB b)))) (Bool.eq_iff_iff.2 ?_)
  all_goals subst_vars
  all_goals simp only [real, bifA, bifB, bifC, bifD, beqB, decide_eq_true_eq, decide_eq_false_iff_not, beqI, bneI, beqIF, bneIF, ne_eq, Bool.and_eq_true, Bool.or_eq_true, Bool.not_eq_true', Bool.not_eq_false', Bool.and_eq_false_iff, Bool.or_eq_false_iff, Bool.false_eq_true, and_false, false_and, or_false, false_or, and_true, true_and, not_true_eq_false, not_false_eq_true, true_iff, false_iff, IntKind.wrap_i64, IsRow, WinOkP, AggOkP] at *
  all_goals first | omega | exact decide_eq_true_iff.symm
def st_Out (n : Nat) (g : Nat → TabT) (key : Int) (w : WinT) (i c : Nat) (row : Nat → List DV) : St := ⟨[(12, .c (.d (eI i))), (11, .c (.d (eI n))), (10, .c (.d (.sl 7 n fun i => eTab (g i)))), (7, .c (.own 448 0 c 1)), (1, .c (.d (eI key))), (5, .c (.bp 320 1 0))], [(320, 1, .box ((eWin w).map .d)), (448, 1, .arr 7 c row)]⟩
theorem c_Out (l : List TabT) (n : Nat) (g : Nat → TabT) (hl : Lst zTab l n g) (hn : n ≤ 1100000) (key : Int) (w : WinT) (n0 : Nat) (G : Nat → TabT) (h0 : Lst zTab (tOut key w l) n0 G) : Meets Try.prog 48 [.c (.d (.sl 7 n fun i => eTab (g i))), .c (.d (eI key)), xd (eWin w)] ⟨.one (.c (.own 7 n0 fun i => eTab (G i))), [none, none, none]⟩ := by
  have hnL : n ≤ maxLen := Nat.le_trans hn (by decide)
  have h0 := lst_tells eTab h0
  refine meets_of (H := [8]) (EX := EXA) ttok mixed Try.func48 rfl (by kernel_rfl) (by decide) ?_
  generalize hA : real = A
  generalize hM : Meets Try.prog = M
  cbv
  repeat' first
    | apply And.intro
    | exact True.intro
    | with_reducible rfl
    | exact same_of hA rfl
    | refine br_of hA (fun _ => ?_) (fun _ => ?_)
    | exact imp_of hA id
    | (refine imp_of hA ?_; subst hA; simp only [real, Bool.true_and]; exact id)
    | (refine ind_of hA ?_; decide +kernel)
  refine loop_of hA (α := { q : Nat × Nat × (Nat → List DV) // q.1 ≤ n ∧ Tells zTab eTab (tOut key w (l.take q.1)) q.2.1 q.2.2 }) (fun y => st_Out n g key w y.1.1 y.1.2.1 y.1.2.2) (fun y => n - y.1.1) ⟨(0, 0, fun _ => []), Nat.zero_le _, rfl, fun k h => absurd h (Nat.not_lt_zero k)⟩ ?_ ?_
  · refine cov_prom 7 448 1 7 (fun _ => []) (by cbv) (by cbv) (cov_of ?_ ?_ ?_)
    · cbv; try (subst hA; repeat' first | apply And.intro | exact True.intro | rfl)
    · cbv; try (subst hA; repeat' first | apply And.intro | exact True.intro | rfl | (intro _ _; rfl) | (intro k hk; exact absurd hk (Nat.not_lt_zero k)))
    · cbv; try (subst hA; repeat' first | apply And.intro | exact True.intro | rfl | exact .inr trivial)
  rintro ⟨⟨i, c, row⟩, hi, hT⟩
  have hi : i ≤ n := hi
  have hT : Tells zTab eTab (tOut key w (l.take i)) c row := hT
  have hci : c ≤ i := by
    rw [hT.1]
    have h1 := tOut_len key w (l.take i)
    rw [List.length_take] at h1
    omega
  cbv
  repeat' first
    | apply And.intro
    | exact True.intro
    | with_reducible rfl
    | exact same_of hA rfl
    | refine br_of hA (fun _ => ?_) (fun _ => ?_)
    | exact imp_of hA id
    | (refine imp_of hA ?_; subst hA; simp only [real, Bool.true_and]; exact id)
    | (refine ind_of hA ?_; decide +kernel)
    | (refine call_ex hA hM (c_of _ _ _) (fun _ _ => ?_); cbv)
    | (refine inb_of hA fun _ => ?_; subst hA; simp only [real, Bool.and_eq_true, Bool.not_eq_true', Bool.not_eq_false', decide_eq_true_eq, Int.ofNat_eq_natCast, IntKind.wrap_i64] at *; omega)
    | exact room_add2 hA (by omega) (by decide)
  · rename_i hlt bq hbq hc
    have hlt' : i < n := by subst hA; simp only [real, decide_eq_true_eq, Int.ofNat_eq_natCast] at hlt; omega
    have hq : ¬ IsRow key w (g i) := by
      have hbq : bq = true ↔ IsRow key w (g i) := by subst hA; exact hbq
      intro h
      have h2 := hbq.2 h
      subst hA
      have hc : (!bq) = true := hc
      rw [h2] at hc; cases hc
    refine ⟨⟨(i + 1, c + 1, fun q => if q < c then row q else eTab (g i)), by simp only; omega, ?_⟩, by simp only; omega, cov_of ?_ ?_ ?_⟩
    · simp only
      rw [lst_take hl hlt', tOut_app]
      show Tells zTab eTab (tOut key w (l.take i) ++ (if IsRow key w (g i) then tOut key w [] else g i :: tOut key w [])) _ _
      rw [if_neg hq]
      exact tells_snoc hT (fun q _ => rfl)
    · cbv
      subst hA
      repeat' first | apply And.intro | exact True.intro | exact congrArg (fun x => DV.v (.int .i64 x)) (up64 hlt' hnL) | rfl
    · cbv
      subst hA
      repeat' first | apply And.intro | exact True.intro | rfl | (intro _ _; rfl) | (intro q hq; exact push_at rfl _ _ _ _ q hq) | (intro q hq; have e0 : real.add 0 (real.nat (Int.ofNat i)) = i := Nat.zero_add i; rw [e0]; exact push_at rfl _ _ _ _ q hq) | (intro q hq; have e0 : real.nat (Int.ofNat i) = i := rfl; rw [e0]; exact push_at rfl _ _ _ _ q hq)
    · cbv; try (subst hA; repeat' first | apply And.intro | exact True.intro | rfl | exact .inr trivial)
  · rename_i hlt bq hbq hc
    have hlt' : i < n := by subst hA; simp only [real, decide_eq_true_eq, Int.ofNat_eq_natCast] at hlt; omega
    have hq : IsRow key w (g i) := by
      have hbq : bq = true ↔ IsRow key w (g i) := by subst hA; exact hbq
      subst hA
      have hc : (!bq) = false := hc
      refine hbq.1 ?_
      cases bq
      · cases hc
      · rfl
    refine ⟨⟨(i + 1, c, row), by simp only; omega, ?_⟩, by simp only; omega, cov_of ?_ ?_ ?_⟩
    · simp only
      rw [lst_take hl hlt', tOut_app]
      show Tells zTab eTab (tOut key w (l.take i) ++ (if IsRow key w (g i) then tOut key w [] else g i :: tOut key w [])) _ _
      rw [if_pos hq]
      show Tells zTab eTab (tOut key w (l.take i) ++ []) _ _
      rw [List.append_nil]
      exact hT
    · cbv
      subst hA
      repeat' first | apply And.intro | exact True.intro | exact congrArg (fun x => DV.v (.int .i64 x)) (up64 hlt' hnL) | rfl
    · cbv; try (subst hA; repeat' first | apply And.intro | exact True.intro | rfl | (intro _ _; rfl))
    · cbv; try (subst hA; repeat' first | apply And.intro | exact True.intro | rfl | exact .inr trivial)
  · rename_i hge
    have hin : i = n := by subst hA; simp only [real, decide_eq_false_iff_not, Int.ofNat_eq_natCast] at hge; omega
    subst hin
    rw [lst_all hl] at hT
    have hcc : c = n0 := hT.1.trans h0.1.symm
    subst hcc
    refine stop_of hA ⟨[(7, .c (.own 448 0 c 1))], [(448, 1, .arr 7 c fun i => eTab (G i))]⟩ (cov_of ?_ ?_ ?_) ?_
    · cbv
    · cbv
      exact ⟨fun q hq => (hT.2 q hq).trans (h0.2 q hq).symm, trivial⟩
    · cbv
    · cbv
      repeat' first
        | apply And.intro
        | exact True.intro
        | with_reducible rfl
        | exact same_of hA rfl
        | refine br_of hA (fun _ => ?_) (fun _ => ?_)
        | exact imp_of hA id
        | (refine imp_of hA ?_; subst hA; simp only [real, Bool.true_and]; exact id)
        | (refine ind_of hA ?_; decide +kernel)
def st_sOut (n : Nat) (g : Nat → TabT) (key : Int) (w : WinT) (i c : Nat) (row : Nat → List DV) : St := ⟨[(8, .c (.d (eI i))), (0, .c (.d (.sl 7 n fun i => eTab (g i)))), (7, .c (.own 576 0 c 1)), (1, .c (.d (eI key))), (5, .c (.bp 320 1 0))], [(320, 1, .box ((eWin w).map .d)), (576, 1, .arr 7 c row)]⟩
theorem c_sOut (l : List TabT) (n : Nat) (g : Nat → TabT) (hl : Lst zTab l n g) (hn : n ≤ 1100000) (key : Int) (w : WinT) (n0 : Nat) (G : Nat → TabT) (h0 : Lst zTab (tOut key w l) n0 G) : Meets Try.prog 85 [.c (.d (.sl 7 n fun i => eTab (g i))), .c (.d (eI key)), xd (eWin w)] ⟨.one (.c (.own 7 n0 fun i => eTab (G i))), [none, none, none]⟩ := by
  have hnL : n ≤ maxLen := Nat.le_trans hn (by decide)
  have h0 := lst_tells eTab h0
  refine meets_of (H := [7]) (EX := EXA) ttok mixed Try.func85 rfl (by kernel_rfl) (by decide) ?_
  generalize hA : real = A
  generalize hM : Meets Try.prog = M
  cbv
  repeat' first
    | apply And.intro
    | exact True.intro
    | with_reducible rfl
    | exact same_of hA rfl
    | refine br_of hA (fun _ => ?_) (fun _ => ?_)
    | exact imp_of hA id
    | (refine imp_of hA ?_; subst hA; simp only [real, Bool.true_and]; exact id)
    | (refine ind_of hA ?_; decide +kernel)
  refine loop_of hA (α := { q : Nat × Nat × (Nat → List DV) // q.1 ≤ n ∧ Tells zTab eTab (tOut key w (l.take q.1)) q.2.1 q.2.2 }) (fun y => st_sOut n g key w y.1.1 y.1.2.1 y.1.2.2) (fun y => n - y.1.1) ⟨(0, 0, fun _ => []), Nat.zero_le _, rfl, fun k h => absurd h (Nat.not_lt_zero k)⟩ ?_ ?_
  · refine cov_of ?_ ?_ ?_
    · cbv; try (subst hA; repeat' first | apply And.intro | exact True.intro | rfl)
    · cbv; try (subst hA; repeat' first | apply And.intro | exact True.intro | rfl | (intro _ _; rfl) | (intro k hk; exact absurd hk (Nat.not_lt_zero k)))
    · cbv; try (subst hA; repeat' first | apply And.intro | exact True.intro | rfl | exact .inr trivial)
  rintro ⟨⟨i, c, row⟩, hi, hT⟩
  have hi : i ≤ n := hi
  have hT : Tells zTab eTab (tOut key w (l.take i)) c row := hT
  have hci : c ≤ i := by
    rw [hT.1]
    have h1 := tOut_len key w (l.take i)
    rw [List.length_take] at h1
    omega
  cbv
  repeat' first
    | apply And.intro
    | exact True.intro
    | with_reducible rfl
    | exact same_of hA rfl
    | refine br_of hA (fun _ => ?_) (fun _ => ?_)
    | exact imp_of hA id
    | (refine imp_of hA ?_; subst hA; simp only [real, Bool.true_and]; exact id)
    | (refine ind_of hA ?_; decide +kernel)
    | (refine inb_of hA fun _ => ?_; subst hA; simp only [real, Bool.and_eq_true, Bool.not_eq_true', Bool.not_eq_false', decide_eq_true_eq, Int.ofNat_eq_natCast, IntKind.wrap_i64] at *; omega)
    | exact room_add2 hA (by omega) (by decide)
  · rename_i hlt hc
    have hlt' : i < n := by subst hA; simp only [real, decide_eq_true_eq, Int.ofNat_eq_natCast] at hlt; omega
    have hq : ¬ IsRow key w (g i) := by
      subst hA
      have e0 : real.add 0 (real.nat (Int.ofNat i)) = i := Nat.zero_add i
      have e1 : real.nat (Int.ofNat i) = i := rfl
      simp only [e0, e1, real, bifA, bifB, bifC, bifD, beqB, decide_eq_true_eq, decide_eq_false_iff_not, beqI, bneI, beqIF, bneIF, ne_eq, Classical.not_not, Bool.and_eq_true, Bool.or_eq_true, Bool.not_eq_true', Bool.not_eq_false', Bool.and_eq_false_iff, Bool.or_eq_false_iff, Bool.false_eq_true, and_false, false_and, or_false, false_or, and_true, true_and, not_true_eq_false, not_false_eq_true, true_iff, false_iff, Int.ofNat_eq_natCast, Int.toNat_natCast] at hc
      intro hI
      rcases hc with h | h | h | h
      · exact h hI.1
      · exact h hI.2.1
      · exact h hI.2.2
      · cases h
    refine ⟨⟨(i + 1, c + 1, fun q => if q < c then row q else eTab (g i)), by simp only; omega, ?_⟩, by simp only; omega, cov_of ?_ ?_ ?_⟩
    · simp only
      rw [lst_take hl hlt', tOut_app]
      show Tells zTab eTab (tOut key w (l.take i) ++ (if IsRow key w (g i) then tOut key w [] else g i :: tOut key w [])) _ _
      rw [if_neg hq]
      exact tells_snoc hT (fun q _ => rfl)
    · cbv
      subst hA
      repeat' first | apply And.intro | exact True.intro | exact congrArg (fun x => DV.v (.int .i64 x)) (up64 hlt' hnL) | rfl
    · cbv
      subst hA
      repeat' first | apply And.intro | exact True.intro | rfl | (intro _ _; rfl) | (intro q hq; exact push_at rfl _ _ _ _ q hq) | (intro q hq; have e0 : real.add 0 (real.nat (Int.ofNat i)) = i := Nat.zero_add i; rw [e0]; exact push_at rfl _ _ _ _ q hq) | (intro q hq; have e0 : real.nat (Int.ofNat i) = i := rfl; rw [e0]; exact push_at rfl _ _ _ _ q hq)
    · cbv; try (subst hA; repeat' first | apply And.intro | exact True.intro | rfl | exact .inr trivial)
  · rename_i hlt hc
    have hlt' : i < n := by subst hA; simp only [real, decide_eq_true_eq, Int.ofNat_eq_natCast] at hlt; omega
    have hq : IsRow key w (g i) := by
      subst hA
      have e0 : real.add 0 (real.nat (Int.ofNat i)) = i := Nat.zero_add i
      have e1 : real.nat (Int.ofNat i) = i := rfl
      simp only [e0, e1, real, bifA, bifB, bifC, bifD, beqB, decide_eq_true_eq, decide_eq_false_iff_not, beqI, bneI, beqIF, bneIF, ne_eq, Classical.not_not, Bool.and_eq_true, Bool.or_eq_true, Bool.not_eq_true', Bool.not_eq_false', Bool.and_eq_false_iff, Bool.or_eq_false_iff, Bool.false_eq_true, and_false, false_and, or_false, false_or, and_true, true_and, not_true_eq_false, not_false_eq_true, true_iff, false_iff, Int.ofNat_eq_natCast, Int.toNat_natCast] at hc
      unfold IsRow
      omega
    refine ⟨⟨(i + 1, c, row), by simp only; omega, ?_⟩, by simp only; omega, cov_of ?_ ?_ ?_⟩
    · simp only
      rw [lst_take hl hlt', tOut_app]
      show Tells zTab eTab (tOut key w (l.take i) ++ (if IsRow key w (g i) then tOut key w [] else g i :: tOut key w [])) _ _
      rw [if_pos hq]
      show Tells zTab eTab (tOut key w (l.take i) ++ []) _ _
      rw [List.append_nil]
      exact hT
    · cbv
      subst hA
      repeat' first | apply And.intro | exact True.intro | exact congrArg (fun x => DV.v (.int .i64 x)) (up64 hlt' hnL) | rfl
    · cbv; try (subst hA; repeat' first | apply And.intro | exact True.intro | rfl | (intro _ _; rfl))
    · cbv; try (subst hA; repeat' first | apply And.intro | exact True.intro | rfl | exact .inr trivial)
  · rename_i hge
    have hin : i = n := by subst hA; simp only [real, decide_eq_false_iff_not, Int.ofNat_eq_natCast] at hge; omega
    subst hin
    rw [lst_all hl] at hT
    have hcc : c = n0 := hT.1.trans h0.1.symm
    subst hcc
    refine stop_of hA ⟨[(7, .c (.own 576 0 c 1))], [(576, 1, .arr 7 c fun i => eTab (G i))]⟩ (cov_of ?_ ?_ ?_) ?_
    · cbv
    · cbv
      exact ⟨fun q hq => (hT.2 q hq).trans (h0.2 q hq).symm, trivial⟩
    · cbv
    · cbv
      repeat' first
        | apply And.intro
        | exact True.intro
        | with_reducible rfl
        | exact same_of hA rfl
        | refine br_of hA (fun _ => ?_) (fun _ => ?_)
        | exact imp_of hA id
        | (refine imp_of hA ?_; subst hA; simp only [real, Bool.true_and]; exact id)
        | (refine ind_of hA ?_; decide +kernel)
end Go.Rk
/- slices.Insert of one element at the end. -/
namespace Go.Rk
set_option linter.unusedSimpArgs false
set_option linter.unusedVariables false
open Go.Proofs
set_option maxRecDepth 100000
set_option maxHeartbeats 1000000
theorem ins_end (n : Nat) (hn : n ≤ 1100000) (row : Nat → List DV) (r : List DV) (row1 : Nat → List DV) (hr : row1 0 = r) (R : Nat → List DV) (hR : ∀ k, k < n + 1 → R k = if k < n then row k else r) :
    Meets Try.prog 91 [.c (.own 7 n row), .c (.d (eI n)), .c (.own 7 1 row1)] ⟨.one (.c (.own 7 (n + 1) R)), [none, none, none]⟩ := by
  obtain ⟨R', hR'⟩ : ∃ R' : Nat → List DV, R' = real.app n row (real.sub 0 row1) := ⟨_, rfl⟩
  refine meets_rows (row := R') (fun k hk => ?_) ?_
  · rw [hR k hk, hR']
    show (if k < n then row k else row1 (0 + (k - n))) = _
    by_cases h : k < n
    · rw [if_pos h, if_pos h]
    · rw [if_neg h, if_neg h, show 0 + (k - n) = 0 by omega, hr]
  refine meets_of (H := []) (EX := EXA) ttok mixed Try.func91 rfl (by kernel_rfl) (by decide) ?_
  generalize hA : real = A
  generalize hM : Meets Try.prog = M
  cbv
  repeat' first
    | (refine br_f hA ?_ ?_; focus (subst hA; simp [real]; done))
    | (refine br_t hA ?_ ?_; focus (subst hA; simp [real]; done))
    | apply And.intro
    | exact True.intro
    | with_reducible rfl
    | exact same_of hA rfl
    | refine br_of hA (fun _ => ?_) (fun _ => ?_)
    | exact imp_of hA id
    | (refine imp_of hA ?_; subst hA; simp only [real, Bool.true_and]; exact id)
    | (refine ind_of hA ?_; decide +kernel)
    | (refine cut_of hA ?_; subst hA; exact ⟨Int.natCast_nonneg n, Int.le_refl _, Int.le_refl _⟩)
    | exact room_add2 hA (by omega) (by decide)
  subst hA
  rw [hR']
  rfl
end Go.Rk
/- What copy and slices.overlaps do, of elements of any size. -/
namespace Go.Rk
set_option linter.unusedSimpArgs false
set_option linter.unusedVariables false
open Go Go.Proofs
theorem run_copy_k {P : Program} (w : World) (dT sT ty elem : TypeId) (k : Nat) (b o dLen dCap : Nat) (a : Addr) (sLen sCap : Nat) (cs : List Value)
    (hu : P.underlying dT = some (.slice elem)) (hs : (P.info? elem).map (·.size) = some k) (n : Nat) (hm : Nat.min sLen dLen = n) (hn : cs.length = n * k)
    (hsrc : ∀ j v, cs[j]? = some v → w.cell? (a.add j) = some v) (hc : ∀ j, j < cs.length → (w.cell? ⟨b, o + j, none⟩).isSome = true) (hf : ∀ j, j < cs.length → w.frozen? ⟨b, o + j, none⟩ = false) (h1 : ∀ v ∈ cs, v.oneCell' = true) :
    (Builtin.copy_ #[dT, sT] ty #[.slice (some ⟨b, o, none⟩) dLen dCap, .slice (some a) sLen sCap]).run P w = .ok (goInt n) (w.setCells b o cs) := by
  have hl := run_loadCells_list (P := P) w a cs hsrc
  have hst := run_storeCells_cells (P := P) b o cs 0 w (by simpa using hc) (by simpa using hf) h1
  cases hq : P.info? elem with
  | none => simp [hq] at hs
  | some i =>
    have hi : i.size = k := by simpa [hq] using hs
    simp [Builtin.copy_, run_underlying hu, Builtin.lenOf, Builtin.firstCells, sizeOf, typeInfo, hq, hi, hm, ← hn, hl, hst]
theorem setCells_size (b : Nat) : ∀ (vs : List Value) (o : Nat) (w : World), (w.setCells b o vs).heap.size = w.heap.size
  | [], _, _ => rfl
  | v :: r, o, w => by rw [World.setCells, setCells_size b r]; show (w.heap.modify b _).size = _; rw [Array.size_modify]
theorem setCells_env (b : Nat) : ∀ (vs : List Value) (o : Nat) (w : World), (w.setCells b o vs).os = w.os ∧ (w.setCells b o vs).output = w.output ∧ (w.setCells b o vs).tape = w.tape
  | [], _, _ => ⟨rfl, rfl, rfl⟩
  | v :: r, o, w => by
    rw [World.setCells]
    exact setCells_env b r (o + 1) (w.setCell ⟨b, o, none⟩ v)
theorem setCells_other (b : Nat) : ∀ (vs : List Value) (o : Nat) (w : World) (i : Nat), i ≠ b → (w.setCells b o vs).heap[i]? = w.heap[i]?
  | [], _, _, _, _ => rfl
  | v :: r, o, w, i, h => by
    rw [World.setCells, setCells_other b r _ _ i h]
    show (w.heap.modify b _)[i]? = _
    rw [Array.getElem?_modify, if_neg (fun e => h e.symm)]
theorem setCells_at (b : Nat) : ∀ (vs : List Value) (o : Nat) (w : World) (cs : Array Value) (e : TypeId) (fr : Nat × Nat), w.heap[b]? = some (.cells cs e fr) → o + vs.length ≤ cs.size →
    ∃ cs', (w.setCells b o vs).heap[b]? = some (.cells cs' e fr) ∧ cs'.size = cs.size ∧ (∀ j, j < o → cs'[j]? = cs[j]?) ∧ (∀ j, j < vs.length → cs'[o + j]? = vs[j]?) ∧ (∀ j, o + vs.length ≤ j → cs'[j]? = cs[j]?)
  | [], o, w, cs, e, fr, h, _ => ⟨cs, h, rfl, fun _ _ => rfl, fun j hj => absurd hj (Nat.not_lt_zero j), fun _ _ => rfl⟩
  | v :: r, o, w, cs, e, fr, h, hl => by
    have hl' : o + (r.length + 1) ≤ cs.size := by simpa using hl
    have h1 : (w.setCell ⟨b, o, none⟩ v).heap[b]? = some (.cells (cs.setIfInBounds o v) e fr) := by
      show (w.heap.modify b _)[b]? = _
      rw [Array.getElem?_modify, if_pos rfl, h]
      rfl
    obtain ⟨cs', g1, g2, g3, g4, g5⟩ := setCells_at b r (o + 1) (w.setCell ⟨b, o, none⟩ v) _ e fr h1 (by rw [Array.size_setIfInBounds]; omega)
    refine ⟨cs', g1, by rw [g2, Array.size_setIfInBounds], fun j hj => ?_, fun j hj => ?_, fun j hj => ?_⟩
    · rw [g3 j (by omega), Array.getElem?_setIfInBounds, if_neg (by omega)]
    · cases j with
      | zero =>
        rw [Nat.add_zero, g3 o (by omega), Array.getElem?_setIfInBounds, if_pos rfl, if_pos (by omega)]
        rfl
      | succ j =>
        rw [show o + (j + 1) = o + 1 + j by omega, g4 j (by simpa using hj)]
        rfl
    · have hj : o + (r.length + 1) ≤ j := by simpa using hj
      rw [g5 j (by omega), Array.getElem?_setIfInBounds, if_neg (by omega)]
end Go.Rk
/- slices.Insert of one element, there is room: the model's own walk. -/
namespace Go.Rk
set_option linter.unusedSimpArgs false
set_option linter.unusedVariables false
open Go Go.Proofs Go.RowKit Go.Lib
set_option maxHeartbeats 4000000 in
set_option maxRecDepth 100000 in
theorem ins_shift (b off n c i vb voff vc : Nat) (cs vs : List Value) (w : World) (hi : i < n) (hroom : n + 1 ≤ c) (hn63 : n ≤ 1100000) (hvb : vb ≠ b)
    (hcl : cs.length = n * 7) (hvl : vs.length = 7)
    (hcs : ∀ j v, cs[j]? = some v → w.cell? ⟨b, off + j, none⟩ = some v) (hsp : ∀ j, j < (n + 1) * 7 → (w.cell? ⟨b, off + j, none⟩).isSome = true) (hfz : ∀ j, j < (n + 1) * 7 → w.frozen? ⟨b, off + j, none⟩ = false)
    (hvs : ∀ j v, vs[j]? = some v → w.cell? ⟨vb, voff + j, none⟩ = some v) (h1c : ∀ v ∈ cs, v.oneCell' = true) (h1v : ∀ v ∈ vs, v.oneCell' = true)
    (tA tB : TypeId) (kA kB : Nat) (hsa : w.shape? vb = some (tA, kA)) (hsb : w.shape? b = some (tB, kB)) (hkB : kB ≠ 0) (hfa : w.frozen? ⟨vb, voff, none⟩ = false) (hfe : w.frozen? ⟨vb, kA, none⟩ = false) :
    Calls Try.prog 91 #[.slice (some ⟨b, off, none⟩) n c, .int .i64 i, .slice (some ⟨vb, voff, none⟩) 1 vc] w fun e w' =>
      e = .returned (.slice (some ⟨b, off, none⟩) (n + 1) c) ∧ w' = (w.drew.setCells b (off + (i + 1) * 7) (cs.drop (i * 7))).setCells b (off + i * 7) vs := by
  have hz2 : ¬ ((i : Int) = (n : Int)) := by omega
  have hsz : (Try.prog.info? 79).map (·.size) = some 7 := by kernel_rfl
  have hov : ∀ lb cb, (callFunc 121 #[.slice (some ⟨vb, voff, none⟩) 1 vc, .slice (some ⟨b, off + (i + 1) * 7, none⟩) lb cb]).run Try.prog w = .ok (.value (.bool false)) w := fun lb cb => by
    rw [run_callFunc_extern Try.func121 (by kernel_rfl) (by kernel_rfl) (by kernel_rfl) (e := Extern.SlicesOverlaps.overlaps #[75, 75] #[4]) (by kernel_rfl),
      Lib.run_overlaps_apart w 75 4 79 Try.underlying75 7 Try.sizeOf79 ⟨vb, voff, none⟩ ⟨b, off + (i + 1) * 7, none⟩ 1 vc lb cb hvb tA tB kA kB hsa hsb hkB hfa hfe]
    rfl
  have hdl : (cs.drop (i * 7)).length = (n - i) * 7 := by rw [List.length_drop, hcl, Nat.sub_mul]
  have hw1 : IntKind.i64.wrap ((i : Int) + 1) = (i : Int) + 1 := by rw [IntKind.wrap_i64]; omega
  have hw2 : IntKind.i64.wrap ((n : Int) + 1) = (n : Int) + 1 := by rw [IntKind.wrap_i64]; omega
  have hb1 : (0 : Int) ≤ (i : Int) + 1 := by omega
  have hin : i ≤ n := by omega
  have htn : ((i : Int) + 1).toNat = i + 1 := by omega
  have htm : ((n : Int) + 1).toNat = n + 1 := by omega
  have hb2 : ¬ (c = i + 1) := by omega
  have hb3 : (i : Int) ≤ (n : Int) + 1 := by omega
  have hb4 : ¬ (c = i) := by omega
  have hcp1 : ∀ ty dc sc, (Builtin.copy_ #[75, 75] ty #[.slice (some ⟨b, off + (i + 1) * 7, none⟩) (n - i) dc, .slice (some ⟨b, off + i * 7, none⟩) (n + 1 - i) sc]).run Try.prog w.drew = .ok (goInt ((n - i : Nat) : Int)) (w.drew.setCells b (off + (i + 1) * 7) (cs.drop (i * 7))) := fun ty dc sc =>
    run_copy_k w.drew _ _ ty 79 7 b (off + (i + 1) * 7) (n - i) dc ⟨b, off + i * 7, none⟩ (n + 1 - i) sc (cs.drop (i * 7)) Try.underlying75 hsz (n - i) (by simp only [Nat.min_def]; split <;> omega) hdl
      (fun j v hj => by rw [Addr.add_lit, Nat.add_assoc]; exact hcs (i * 7 + j) v (by rwa [List.getElem?_drop] at hj))
      (fun j hj => by rw [Nat.add_assoc]; exact hsp _ (by rw [hdl] at hj; omega)) (fun j hj => by rw [Nat.add_assoc]; exact hfz _ (by rw [hdl] at hj; omega)) (fun v hv => h1c v (List.mem_of_mem_drop hv))
  obtain ⟨W1, hW1⟩ : ∃ W1, W1 = w.drew.setCells b (off + (i + 1) * 7) (cs.drop (i * 7)) := ⟨_, rfl⟩
  have hsp1 : ∀ k, k < (n + 1) * 7 → (W1.cell? ⟨b, off + k, none⟩).isSome = true := fun k hk => by
    rw [hW1]
    exact isSome_setCells b _ _ _ (fun j hj => by rw [Nat.add_assoc]; exact hsp _ (by rw [hdl] at hj; omega)) _ (hsp k hk)
  have hcp2 : ∀ (W : World), (∀ x, W.cell? x = W1.cell? x) → (∀ x, W.frozen? x = W1.frozen? x) → ∀ ty dc, (Builtin.copy_ #[75, 75] ty #[.slice (some ⟨b, off + i * 7, none⟩) (n + 1 - i) dc, .slice (some ⟨vb, voff, none⟩) 1 vc]).run Try.prog W = .ok (goInt 1) (W.setCells b (off + i * 7) vs) := fun W hWc hWf ty dc =>
    run_copy_k W _ _ ty 79 7 b (off + i * 7) (n + 1 - i) dc ⟨vb, voff, none⟩ 1 vc vs Try.underlying75 hsz 1 (by simp only [Nat.min_def]; split <;> omega) (by rw [hvl])
      (fun j v hj => by
        rw [Addr.add_lit, hWc, hW1, World.cell?_setCells_out b _ _ _ _ (fun h _ => absurd h hvb)]
        exact hvs j v hj)
      (fun j hj => by rw [hWc, Nat.add_assoc]; exact hsp1 _ (by rw [hvl] at hj; omega)) (fun j hj => by rw [hWf, hW1, World.frozen?_setCells, Nat.add_assoc]; exact hfz _ (by rw [hvl] at hj; omega)) h1v
  rw [← hW1] at hcp1
  have mixed := mixed
  go_enter Try.func91, Try.ntmps91
  go_wp2_with (simp only [hov])
  go_region_law_o (refine step_copy_runI rfl _ _ 75 75 rfl _ _ (by simp [Act.eval, Act.put]) (by simp [Act.eval, Act.put]) (hcp1 _ _ _) ?_)
  go_wp2_with (at_builtin; refine wpList_copy_runI _ rfl _ _ 75 75 rfl _ _ rfl rfl (hcp2 _ (fun _ => rfl) (fun _ => rfl) _ _) ?_)
  go_ret
  first | exact ⟨rfl, rfl⟩ | exact ⟨rfl, by rw [hW1]⟩
end Go.Rk
/- slices.Insert of one element, no room: the model's own walk. -/
namespace Go.Rk
set_option linter.unusedSimpArgs false
set_option linter.unusedVariables false
open Go Go.Proofs Go.RowKit Go.Lib
set_option maxHeartbeats 4000000 in
set_option maxRecDepth 100000 in
theorem ins_grow (b off n c i vb voff vc : Nat) (cs vs : List Value) (w : World) (hi : i < n) (hnc : n ≤ c) (hroom : c < n + 1) (hbig : (n + 1) * 56 ≤ 140737488355328)
    (hcl : cs.length = n * 7) (hvl : vs.length = 7)
    (hcs : ∀ j v, cs[j]? = some v → w.cell? ⟨b, off + j, none⟩ = some v)
    (hvs : ∀ j v, vs[j]? = some v → w.cell? ⟨vb, voff + j, none⟩ = some v) (h1c : ∀ v ∈ cs, v.oneCell' = true) (h1v : ∀ v ∈ vs, v.oneCell' = true) :
    ∃ ROW : Array Value, ROW.size = grownCap w (n + 1) c 79 * 7 ∧ (∀ j, j < i * 7 → ROW[j]? = cs[j]?) ∧ n + 1 ≤ grownCap w (n + 1) c 79 ∧
    Calls Try.prog 91 #[.slice (some ⟨b, off, none⟩) n c, .int .i64 i, .slice (some ⟨vb, voff, none⟩) 1 vc] w fun e w' =>
      e = .returned (.slice (some ⟨w.heap.size, 0, none⟩) (n + 1) (grownCap w (n + 1) c 79)) ∧
      w' = (((w.alloc (.cells ROW 79)).drew.setCells w.heap.size (i * 7) vs).drew).setCells w.heap.size ((i + 1) * 7) (cs.drop (i * 7)) := by
  have hi0 : Try.prog.info? 79 = some Try.t79 := by kernel_rfl
  have hzs : Try.t79.size = 7 := rfl
  have hzb : Try.t79.bytes = 56 := rfl
  have hz0 : Try.t79.zero = some (.agg #[.int .i64 0, .int .i64 0, .int .i64 0, .int .i64 0, .int .i64 0, .int .i64 0, .int .i64 0]) := rfl
  obtain ⟨Z, hZ⟩ : ∃ Z : Array Value, Z = #[.int .i64 0, .int .i64 0, .int .i64 0, .int .i64 0, .int .i64 0, .int .i64 0, .int .i64 0] := ⟨_, rfl⟩
  have hZ7 : Z.size = 7 := by rw [hZ]; rfl
  rw [← hZ] at hz0
  have hz2 : ¬ ((i : Int) = (n : Int)) := by omega
  have hsz : (Try.prog.info? 79).map (·.size) = some 7 := by rw [hi0]; rfl
  have hbw : b < w.heap.size := block_lt_of_cell (hcs 0 _ (List.getElem?_eq_getElem (by omega)))
  have hvw : vb < w.heap.size := block_lt_of_cell (hvs 0 _ (List.getElem?_eq_getElem (by omega)))
  have hkk : (n : Int) + 1 - (i : Int) = ((n + 1 - i : Nat) : Int) := by omega
  have hik : i + (n + 1 - i) = n + 1 := by omega
  have hold : (Builtin.firstCells Try.t79.size i (.slice (some ⟨b, off, none⟩) i c)).run Try.prog w.drew = .ok (cs.take (i * 7)).toArray w.drew := by
    rw [hzs]
    exact run_firstCells_some w.drew 7 i ⟨b, off, none⟩ i c (cs.take (i * 7)) (by rw [List.length_take]; omega) (fun j v hj => by
      rw [Addr.add_lit]
      rw [List.getElem?_take] at hj
      split at hj
      · exact hcs j v hj
      · cases hj)
  have hrz : ∀ ty, (Builtin.append_ #[75, 3] ty #[.slice (some ⟨b, off, none⟩) i c, .int .i64 ((n : Int) + 1 - (i : Int))]).run Try.prog w =
      .ok (.slice (some ⟨w.heap.size, 0, none⟩) (n + 1) (grownCap w (n + 1) c 79)) (w.drew.alloc (.cells ((cs.take (i * 7)).toArray ++ Builtin.zeroCells Z (n + 1 - i) ++ Builtin.zeroCells Z (grownCap w (n + 1) c 79 - (n + 1))) 79)) := fun ty => by
    have h := Lib.run_append_grow_zeros w 75 3 ty 79 Try.t79 _ .i64 .i64 Try.underlying75 Try.underlying3 hi0 hz0 (some ⟨b, off, none⟩) i c (cs.take (i * 7)) hold (n + 1 - i) (by omega) (by omega) (by omega) (by omega) (by rw [hzb]; omega) (by rw [hzb, hik]; exact growslice_fits hroom hbig)
    rw [hik] at h
    rw [hkk]
    exact h
  obtain ⟨G, hG⟩ : ∃ G, G = grownCap w (n + 1) c 79 := ⟨_, rfl⟩
  obtain ⟨ROW, hROW⟩ : ∃ ROW : Array Value, ROW = (cs.take (i * 7)).toArray ++ Builtin.zeroCells Z (n + 1 - i) ++ Builtin.zeroCells Z (G - (n + 1)) := ⟨_, rfl⟩
  have hGn : n + 1 ≤ G := by rw [hG]; exact grownCap_ge w _ _ _
  have hG63 : G ≤ 9223372036854775807 := by
    have := grownCap_le_maxLen w (n + 1) c 79 (by unfold maxLen; omega)
    rw [← hG] at this
    unfold maxLen at this
    omega
  rw [← hG] at hrz ⊢
  rw [← hROW] at hrz
  have htl : (cs.take (i * 7)).length = i * 7 := by rw [List.length_take, hcl]; omega
  have hRs : ROW.size = G * 7 := by
    rw [hROW]
    simp only [Array.size_append, List.size_toArray, htl, Builtin.zeroCells, Array.size_map, Array.size_range, hZ7]
    omega
  refine ⟨ROW, hRs, fun j hj => ?_, hGn, ?_⟩
  · rw [hROW, Array.append_assoc, Array.getElem?_append_left (by rw [List.size_toArray, htl]; exact hj), List.getElem?_toArray, List.getElem?_take, if_pos hj]
  obtain ⟨W1, hW1⟩ : ∃ W1, W1 = w.drew.alloc (.cells ROW 79) := ⟨_, rfl⟩
  rw [← hW1] at hrz
  have hN : ∀ j, j < (n + 1) * 7 → (W1.cell? ⟨w.heap.size, j, none⟩).isSome = true := fun j hj => by
    rw [hW1, World.cell?_alloc_at (w := w.drew) ROW _ w.heap.size j rfl, Array.getElem?_eq_getElem (by omega)]; rfl
  have hNf : ∀ j, W1.frozen? ⟨w.heap.size, j, none⟩ = false := fun j => by rw [hW1]; exact World.frozen?_alloc_at (w := w.drew) ROW _ w.heap.size j rfl
  have hOb : ∀ j v, w.cell? ⟨b, j, none⟩ = some v → W1.cell? ⟨b, j, none⟩ = some v := fun j v h => by rw [hW1, World.cell?_alloc_past (w := w.drew) _ b j hbw]; exact h
  have hOv : ∀ j v, w.cell? ⟨vb, j, none⟩ = some v → W1.cell? ⟨vb, j, none⟩ = some v := fun j v h => by rw [hW1, World.cell?_alloc_past (w := w.drew) _ vb j hvw]; exact h
  have hcpA : ∀ (W : World), (∀ x, W.cell? x = W1.cell? x) → (∀ x, W.frozen? x = W1.frozen? x) → ∀ ty dc, (Builtin.copy_ #[75, 75] ty #[.slice (some ⟨w.heap.size, i * 7, none⟩) (n + 1 - i) dc, .slice (some ⟨vb, voff, none⟩) 1 vc]).run Try.prog W = .ok (goInt 1) (W.setCells w.heap.size (i * 7) vs) := fun W hWc hWf ty dc =>
    run_copy_k W _ _ ty 79 7 w.heap.size (i * 7) (n + 1 - i) dc ⟨vb, voff, none⟩ 1 vc vs Try.underlying75 hsz 1 (by simp only [Nat.min_def]; split <;> omega) (by rw [hvl])
      (fun j v hj => by rw [Addr.add_lit, hWc]; exact hOv _ v (hvs j v hj))
      (fun j hj => by rw [hWc]; exact hN _ (by rw [hvl] at hj; omega)) (fun j hj => by rw [hWf]; exact hNf _) h1v
  have hGi : ¬ (G = i) := by omega
  have hGim : ¬ (G = i + 1) := by omega
  have hci : ¬ (c = i) := by omega
  have hbN : b ≠ w.heap.size := by omega
  have hdl : (cs.drop (i * 7)).length = (n - i) * 7 := by rw [List.length_drop, hcl, Nat.sub_mul]
  have hcpB : ∀ (W : World), (∀ x, W.cell? x = (W1.setCells w.heap.size (i * 7) vs).cell? x) → (∀ x, W.frozen? x = (W1.setCells w.heap.size (i * 7) vs).frozen? x) → ∀ ty dc sc, (Builtin.copy_ #[75, 75] ty #[.slice (some ⟨w.heap.size, (i + 1) * 7, none⟩) (n - i) dc, .slice (some ⟨b, off + i * 7, none⟩) (n - i) sc]).run Try.prog W = .ok (goInt ((n - i : Nat) : Int)) (W.setCells w.heap.size ((i + 1) * 7) (cs.drop (i * 7))) := fun W hWc hWf ty dc sc =>
    run_copy_k W _ _ ty 79 7 w.heap.size ((i + 1) * 7) (n - i) dc ⟨b, off + i * 7, none⟩ (n - i) sc (cs.drop (i * 7)) Try.underlying75 hsz (n - i) (by simp only [Nat.min_def]; split <;> omega) hdl
      (fun j v hj => by
        rw [Addr.add_lit, hWc, World.cell?_setCells_out _ _ _ _ _ (fun h _ => absurd h hbN), Nat.add_assoc]
        exact hOb _ v (hcs (i * 7 + j) v (by rwa [List.getElem?_drop] at hj)))
      (fun j hj => by rw [hWc]; exact isSome_setCells _ _ _ _ (fun t ht => hN _ (by rw [hvl] at ht; omega)) _ (hN _ (by rw [hdl] at hj; omega)))
      (fun j hj => by rw [hWf, World.frozen?_setCells]; exact hNf _) (fun v hv => h1c v (List.mem_of_mem_drop hv))
  subst hW1
  have hE1 : ∀ x, ((w.alloc (.cells ROW 79)).drew).cell? x = (w.drew.alloc (.cells ROW 79)).cell? x := fun x => rfl
  have hE2 : ∀ x, ((w.alloc (.cells ROW 79)).drew).frozen? x = (w.drew.alloc (.cells ROW 79)).frozen? x := fun x => rfl
  have hF1 : ∀ x, (((w.alloc (.cells ROW 79)).drew.setCells w.heap.size (i * 7) vs).drew).cell? x = ((w.drew.alloc (.cells ROW 79)).setCells w.heap.size (i * 7) vs).cell? x := fun x => rfl
  have hF2 : ∀ x, (((w.alloc (.cells ROW 79)).drew.setCells w.heap.size (i * 7) vs).drew).frozen? x = ((w.drew.alloc (.cells ROW 79)).setCells w.heap.size (i * 7) vs).frozen? x := fun x => rfl
  have hw1 : IntKind.i64.wrap ((i : Int) + 1) = (i : Int) + 1 := by rw [IntKind.wrap_i64]; omega
  have hw2 : IntKind.i64.wrap ((n : Int) + 1) = (n : Int) + 1 := by rw [IntKind.wrap_i64]; omega
  have hb1 : (0 : Int) ≤ (i : Int) + 1 := by omega
  have hin : i ≤ n := by omega
  have htn : ((i : Int) + 1).toNat = i + 1 := by omega
  have hb3 : (i : Int) ≤ (n : Int) := by omega
  have mixed := mixed
  clear hkk hik hold hROW hG hRs
  go_enter Try.func91, Try.ntmps91
  go_wp2_with (first
    | (at_builtin; refine Lib.wpList_append_run _ rfl _ _ _ _ rfl _ _ rfl rfl _ _ (hrz _) ?_)
    | (at_builtin; refine wpList_copy_runI _ rfl _ _ 75 75 rfl _ _ rfl rfl (hcpA _ hE1 hE2 _ _) ?_)
    | (at_builtin; refine wpList_copy_runI _ rfl _ _ 75 75 rfl _ _ rfl rfl (hcpB _ (fun _ => rfl) (fun _ => rfl) _ _ _) ?_))
  go_region_law_o (refine step_copy_runI rfl _ _ 75 75 rfl (.slice (some ⟨w.heap.size, (i + 1) * 7, none⟩) (n - i) (G - (i + 1))) (.slice (some ⟨b, off + i * 7, none⟩) (n - i) (c - i)) (by simp [Act.eval, Act.put]) (by simp [Act.eval, Act.put]) (hcpB _ hF1 hF2 3 (G - (i + 1)) (c - i)) ?_)
  go_wp2
  go_ret
  exact ⟨rfl, rfl⟩
end Go.Rk
/- slices.Insert of one element: what it answers. -/
namespace Go.Rk
set_option linter.unusedSimpArgs false
set_option linter.unusedVariables false
open Go Go.Proofs
theorem env_of {w w' : World} (h : w'.os = w.os ∧ w'.output = w.output ∧ w'.tape = w.tape) : Env w w' := h
/-- The cells that lie one behind the other. -/
def cutOf (A : Array Value) (o k : Nat) : List Value := (A.toList.drop o).take k
theorem cutOf_len {A : Array Value} {o k : Nat} (h : o + k ≤ A.size) : (cutOf A o k).length = k := by
  unfold cutOf
  rw [List.length_take, List.length_drop, Array.length_toList]
  omega
theorem cutOf_at {A : Array Value} {o k j : Nat} : (cutOf A o k)[j]? = if j < k then A[o + j]? else none := by
  unfold cutOf
  rw [List.getElem?_take]
  split
  · rw [List.getElem?_drop, Array.getElem?_toList]
  · rfl
theorem cell_of {w : World} {b : Nat} {A : Array Value} {e : TypeId} {fr : Nat × Nat} (h : w.heap[b]? = some (.cells A e fr)) (j : Nat) : w.cell? ⟨b, j, none⟩ = A[j]? := by
  simp [World.cell?, h]
theorem frozen_of {w : World} {b : Nat} {A : Array Value} {e : TypeId} (h : w.heap[b]? = some (.cells A e (0, 0))) (j : Nat) : w.frozen? ⟨b, j, none⟩ = false := by
  simp [World.frozen?, h]
/-- Rows of so many cells, one put between. -/
theorem ins_rows {w : World} {N : Nat → Prop} {n i base base' vo : Nat} {A B C : Array Value} {row row1 R : Nat → List DV}
    (hi : i ≤ n) (hl : ∀ k, k < n → (row k).length = 7) (hl1 : (row1 0).length = 7)
    (hA : ∀ k j x, k < n → (row k)[j]? = some x → ∃ u, A[base + k * 7 + j]? = some u ∧ DRep w N x u)
    (hB : ∀ j x, (row1 0)[j]? = some x → ∃ u, B[vo + j]? = some u ∧ DRep w N x u)
    (c1 : ∀ k j, k < i → j < 7 → C[base' + k * 7 + j]? = A[base + k * 7 + j]?)
    (c2 : ∀ j, j < 7 → C[base' + i * 7 + j]? = B[vo + j]?)
    (c3 : ∀ k j, i ≤ k → k < n → j < 7 → C[base' + (k + 1) * 7 + j]? = A[base + k * 7 + j]?)
    (hR : ∀ k, k < n + 1 → R k = if k < i then row k else if k = i then row1 0 else row (k - 1)) :
    (∀ k, k < n + 1 → (R k).length = 7) ∧ ∀ k j x, k < n + 1 → (R k)[j]? = some x → ∃ u, C[base' + k * 7 + j]? = some u ∧ DRep w N x u := by
  have hlen : ∀ k, k < n + 1 → (R k).length = 7 := fun k hk => by
    rw [hR k hk]
    split
    · exact hl k (by omega)
    · split
      · exact hl1
      · exact hl (k - 1) (by omega)
  refine ⟨hlen, fun k j x hk hj => ?_⟩
  have hj7 : j < 7 := by rw [← hlen k hk]; exact (List.getElem?_eq_some_iff.1 hj).1
  rw [hR k hk] at hj
  split at hj
  · rename_i h
    rw [c1 k j h hj7]
    exact hA k j x (by omega) hj
  · split at hj
    · rename_i h
      subst h
      rw [c2 j hj7]
      exact hB j x hj
    · rename_i h1 h2
      have e : k = (k - 1) + 1 := by omega
      rw [e, c3 (k - 1) j (by omega) (by omega) hj7]
      exact hA (k - 1) j x (by omega) hj
theorem c_Insert (n i : Nat) (hn : n ≤ 1100000) (hi : i ≤ n) (row row1 R : Nat → List DV) (hR : ∀ k, k < n + 1 → R k = if k < i then row k else if k = i then row1 0 else row (k - 1)) :
    Meets Try.prog 91 [.c (.own 7 n row), .c (.d (eI i)), .c (.own 7 1 row1)] ⟨.one (.c (.own 7 (n + 1) R)), [none, none, none]⟩ := by
  by_cases hin : i = n
  · subst hin
    refine ins_end i hn row (row1 0) row1 rfl R fun k hk => ?_
    rw [hR k hk]
    by_cases h : k < i
    · rw [if_pos h, if_pos h]
    · rw [if_neg h, if_neg h, if_pos (by omega)]
  have hlt : i < n := by omega
  refine ⟨by kernel_rfl, fun w vals F N hx hF hFN hN => ?_⟩
  obtain ⟨v0, vals, rfl⟩ : ∃ v0 r, vals = v0 :: r := by cases vals with | nil => exact hx.elim | cons a r => exact ⟨a, r, rfl⟩
  obtain ⟨v1, vals, rfl⟩ : ∃ v0 r, vals = v0 :: r := by cases vals with | nil => obtain ⟨_, _, _, _, h⟩ := hx; exact h.elim | cons a r => exact ⟨a, r, rfl⟩
  obtain ⟨v2, vals, rfl⟩ : ∃ v0 r, vals = v0 :: r := by cases vals with | nil => obtain ⟨_, _, _, _, _, _, _, _, h⟩ := hx; exact h.elim | cons a r => exact ⟨a, r, rfl⟩
  obtain ⟨F1, F', rfl, h0, F2, F'', rfl, h1, F3, F4, rfl, h2, h3⟩ := hx
  obtain rfl : vals = [] := by cases vals with | nil => rfl | cons a r => exact h3.elim
  have h3 : F4 = [] := h3
  subst h3
  obtain ⟨h1a, h1⟩ := h1
  subst h1a
  obtain ⟨hl, h0⟩ := h0
  rcases h0 with ⟨h0, _⟩ | ⟨b, base, cap, A, e, rfl, rfl, hcp, hnc, hb, hsz, hA⟩
  · omega
  obtain ⟨hl1, h2⟩ := h2
  rcases h2 with ⟨h2, _⟩ | ⟨vb, vo, vc, B, e2, rfl, rfl, hvp, h1c, hvb, hvsz, hB⟩
  · omega
  cases h1
  simp only [List.nil_append, List.append_nil, List.cons_append] at hF hFN ⊢
  have hne : vb ≠ b := by
    intro h
    simp only [List.nodup_cons, List.mem_cons, List.not_mem_nil, or_false] at hF
    exact hF.1 h.symm
  have hbN : ∀ x, N x → x ≠ b ∧ x ≠ vb := fun x hx => ⟨fun h => (hFN b (by simp)).2 (h ▸ hx), fun h => (hFN vb (by simp)).2 (h ▸ hx)⟩
  have hbw : b < w.heap.size := (hFN b (by simp)).1
  have hvw : vb < w.heap.size := (hFN vb (by simp)).1
  have hsA : base + n * 7 ≤ A.size := Nat.le_trans (Nat.add_le_add_left (Nat.mul_le_mul_right 7 hnc) base) hsz
  have hsB : vo + 7 ≤ B.size := by omega
  obtain ⟨cs, hcs⟩ : ∃ cs, cs = cutOf A base (n * 7) := ⟨_, rfl⟩
  obtain ⟨vs, hvs⟩ : ∃ vs, vs = cutOf B vo 7 := ⟨_, rfl⟩
  have hcl : cs.length = n * 7 := by rw [hcs]; exact cutOf_len hsA
  have hvl : vs.length = 7 := by rw [hvs]; exact cutOf_len hsB
  have hca : ∀ j v, cs[j]? = some v → w.cell? ⟨b, base + j, none⟩ = some v := fun j v h => by
    rw [hcs, cutOf_at] at h
    split at h
    · rw [cell_of hb]; exact h
    · cases h
  have hva : ∀ j v, vs[j]? = some v → w.cell? ⟨vb, vo + j, none⟩ = some v := fun j v h => by
    rw [hvs, cutOf_at] at h
    split at h
    · rw [cell_of hvb]; exact h
    · cases h
  have h1A : ∀ v ∈ cs, v.oneCell' = true := fun v hv => by
    obtain ⟨j, hj⟩ := List.mem_iff_getElem?.1 hv
    rw [hcs, cutOf_at] at hj
    split at hj
    · rename_i hjn
      have hk : j / 7 < n := Nat.div_lt_of_lt_mul (by omega)
      have hr := hl (j / 7) hk
      obtain ⟨x, hx⟩ : ∃ x, (row (j / 7))[j % 7]? = some x := ⟨_, List.getElem?_eq_getElem (by rw [hr]; exact Nat.mod_lt _ (by decide))⟩
      obtain ⟨u, hu, hd⟩ := hA (j / 7) (j % 7) x hk hx
      rw [show base + j / 7 * 7 + j % 7 = base + j by omega, hj] at hu
      cases hu
      exact hd.one
    · cases hj
  have h1B : ∀ v ∈ vs, v.oneCell' = true := fun v hv => by
    obtain ⟨j, hj⟩ := List.mem_iff_getElem?.1 hv
    rw [hvs, cutOf_at] at hj
    split at hj
    · rename_i hjn
      obtain ⟨x, hx⟩ : ∃ x, (row1 0)[j]? = some x := ⟨_, List.getElem?_eq_getElem (by rw [hl1 0 (by omega)]; exact hjn)⟩
      obtain ⟨u, hu, hd⟩ := hB 0 j x (by omega) hx
      rw [show vo + 0 * 7 + j = vo + j by omega, hj] at hu
      cases hu
      exact hd.one
    · cases hj
  have hBr : ∀ j x, (row1 0)[j]? = some x → ∃ u, B[vo + j]? = some u ∧ DRep w N x u := fun j x hj => by
    have := hB 0 j x (by omega) hj
    rw [show vo + 0 * 7 + j = vo + j by omega] at this
    exact this
  have hcsA : ∀ j, j < n * 7 → cs[j]? = A[base + j]? := fun j hj => by rw [hcs, cutOf_at, if_pos hj]
  have hvsB : ∀ j, j < 7 → vs[j]? = B[vo + j]? := fun j hj => by rw [hvs, cutOf_at, if_pos hj]
  have hdl : (cs.drop (i * 7)).length = (n - i) * 7 := by rw [List.length_drop, hcl, Nat.sub_mul]
  by_cases hroom : n + 1 ≤ cap
  · -- in place
    have hsC : base + (n + 1) * 7 ≤ A.size := Nat.le_trans (Nat.add_le_add_left (Nat.mul_le_mul_right 7 hroom) base) hsz
    refine (ins_shift b base n cap i vb vo vc cs vs w hlt hroom hn hne hcl hvl hca (fun j hj => by rw [cell_of hb, Array.getElem?_eq_getElem (by omega)]; rfl) (fun j hj => frozen_of hb _) hva h1A h1B e2 e B.size A.size (by simp [World.shape?, hvb]) (by simp [World.shape?, hb]) (by omega) (frozen_of hvb _) (frozen_of hvb _)).mono ?_
    rintro ee w' ⟨rfl, rfl⟩
    have hbd : w.drew.heap[b]? = some (.cells A e (0, 0)) := hb
    obtain ⟨C1, g1, g2, g3, g4, g5⟩ := setCells_at b (cs.drop (i * 7)) (base + (i + 1) * 7) w.drew A e (0, 0) hbd (by rw [hdl]; omega)
    obtain ⟨C, k1, k2, k3, k4, k5⟩ := setCells_at b vs (base + i * 7) _ C1 e (0, 0) g1 (by rw [hvl, g2]; omega)
    have hoth : ∀ x, x ≠ b → ((w.drew.setCells b (base + (i + 1) * 7) (cs.drop (i * 7))).setCells b (base + i * 7) vs).heap[x]? = w.heap[x]? := fun x hx => by
      rw [setCells_other b _ _ _ x hx, setCells_other b _ _ _ x hx]; rfl
    have hsize : ((w.drew.setCells b (base + (i + 1) * 7) (cs.drop (i * 7))).setCells b (base + i * 7) vs).heap.size = w.heap.size := by rw [setCells_size, setCells_size]; rfl
    obtain ⟨q1, q2⟩ := ins_rows (w := w) (N := N) (n := n) (i := i) (base := base) (base' := base) (vo := vo) (A := A) (B := B) (C := C) hi hl (hl1 0 (by omega)) hA hBr
      (fun k j hk hj => by rw [k3 _ (by omega), g3 _ (by omega)])
      (fun j hj => by rw [k4 j (by rw [hvl]; exact hj), hvsB j hj])
      (fun k j hk1 hk2 hj => by
        rw [k5 _ (by rw [hvl]; omega), show base + (k + 1) * 7 + j = base + (i + 1) * 7 + ((k - i) * 7 + j) by omega, g4 _ (by rw [hdl]; omega), List.getElem?_drop, hcsA _ (by omega)]
        congr 1
        omega) hR
    refine ⟨_, [b], [], rfl, ?_, by rw [hsize]; exact Nat.le_refl _, fun x hx hxF => hoth x fun h => hxF (by rw [h]; simp), fun x xs xe xf hx => ?_, fun x hx => ?_, by simp, ?_, ?_⟩
    · have e1 := setCells_env b vs (base + i * 7) (w.drew.setCells b (base + (i + 1) * 7) (cs.drop (i * 7)))
      have e2 := setCells_env b (cs.drop (i * 7)) (base + (i + 1) * 7) w.drew
      exact ⟨e1.1.trans e2.1, e1.2.1.trans e2.2.1, e1.2.2.trans e2.2.2⟩
    · by_cases hxb : x = b
      · subst hxb
        rw [hb] at hx
        cases hx
        exact ⟨C, k1, by rw [k2, g2]⟩
      · exact ⟨xs, by rw [hoth x hxb]; exact hx, rfl⟩
    · have hx : x = b := by simpa using hx
      subst hx
      exact ⟨by rw [hsize]; exact hbw, .inl (by simp)⟩
    · refine ⟨q1, .inr ⟨b, base, cap, C, e, rfl, rfl, hcp, hroom, k1, by rw [k2, g2]; exact hsz, fun k j x hk hj => ?_⟩⟩
      obtain ⟨u, hu, hd⟩ := q2 k j x hk hj
      exact ⟨u, hu, hd.carry fun x hx => ⟨hoth x (hbN x hx).1, by rw [hsize]; exact hN x hx, by simpa using (hbN x hx).1, .inl hx⟩⟩
    · rfl
  · -- a new row
    obtain ⟨ROW, hRs, hR1, hGn, hc⟩ := ins_grow b base n cap i vb vo vc cs vs w hlt hnc (by omega) (by omega) hcl hvl hca hva h1A h1B
    refine hc.mono ?_
    rintro ee w' ⟨rfl, rfl⟩
    obtain ⟨Gc, hGc⟩ : ∃ G, G = grownCap w (n + 1) cap 79 := ⟨_, rfl⟩
    rw [← hGc] at hRs hGn ⊢
    have hnw : (w.alloc (.cells ROW 79)).drew.heap[w.heap.size]? = some (.cells ROW 79 (0, 0)) := by
      show (w.heap.push _)[w.heap.size]? = _
      rw [Array.getElem?_push_size]
    obtain ⟨C1, g1, g2, g3, g4, g5⟩ := setCells_at w.heap.size vs (i * 7) _ ROW 79 (0, 0) hnw (by rw [hvl]; omega)
    have g1' : (((w.alloc (.cells ROW 79)).drew.setCells w.heap.size (i * 7) vs).drew).heap[w.heap.size]? = some (.cells C1 79 (0, 0)) := g1
    obtain ⟨C, k1, k2, k3, k4, k5⟩ := setCells_at w.heap.size (cs.drop (i * 7)) ((i + 1) * 7) _ C1 79 (0, 0) g1' (by rw [hdl, g2]; omega)
    obtain ⟨w', hw'⟩ : ∃ w', w' = (((w.alloc (.cells ROW 79)).drew.setCells w.heap.size (i * 7) vs).drew).setCells w.heap.size ((i + 1) * 7) (cs.drop (i * 7)) := ⟨_, rfl⟩
    have hoth : ∀ x, x < w.heap.size → w'.heap[x]? = w.heap[x]? := fun x hx => by
      rw [hw', setCells_other _ _ _ _ x (by omega)]
      show ((w.alloc (.cells ROW 79)).drew.setCells w.heap.size (i * 7) vs).heap[x]? = _
      rw [setCells_other _ _ _ _ x (by omega)]
      show (w.heap.push _)[x]? = _
      rw [Array.getElem?_push, if_neg (by omega)]
    have hsize : w'.heap.size = w.heap.size + 1 := by
      rw [hw', setCells_size]
      show ((w.alloc (.cells ROW 79)).drew.setCells w.heap.size (i * 7) vs).heap.size = _
      rw [setCells_size]
      show (w.heap.push _).size = _
      rw [Array.size_push]
    have henv : Env w w' := by
      have e1 := setCells_env w.heap.size (cs.drop (i * 7)) ((i + 1) * 7) (((w.alloc (.cells ROW 79)).drew.setCells w.heap.size (i * 7) vs).drew)
      have e2 := setCells_env w.heap.size vs (i * 7) ((w.alloc (.cells ROW 79)).drew)
      rw [hw']
      exact ⟨e1.1.trans e2.1, e1.2.1.trans e2.2.1, e1.2.2.trans e2.2.2⟩
    rw [← hw'] at k1 ⊢
    obtain ⟨q1, q2⟩ := ins_rows (w := w) (N := N) (n := n) (i := i) (base := base) (base' := 0) (vo := vo) (A := A) (B := B) (C := C) hi hl (hl1 0 (by omega)) hA hBr
      (fun k j hk hj => by rw [k3 _ (by omega), g3 _ (by omega), hR1 _ (by omega), hcsA _ (by omega)]; congr 1; omega)
      (fun j hj => by rw [k3 _ (by omega), Nat.zero_add, g4 j (by rw [hvl]; exact hj), hvsB j hj])
      (fun k j hk1 hk2 hj => by
        rw [show 0 + (k + 1) * 7 + j = (i + 1) * 7 + ((k - i) * 7 + j) by omega, k4 _ (by rw [hdl]; omega), List.getElem?_drop, hcsA _ (by omega)]
        congr 1
        omega) hR
    refine ⟨_, [w.heap.size], [], rfl, henv, by rw [hsize]; omega, fun x hx _ => hoth x hx, fun x xs xe xf hx => ⟨xs, by rw [hoth x (Array.getElem?_eq_some_iff.1 hx).1]; exact hx, rfl⟩, fun x hx => ?_, by simp, ?_, ?_⟩
    · have hx : x = w.heap.size := by simpa using hx
      subst hx
      exact ⟨by rw [hsize]; omega, .inr (Nat.le_refl _)⟩
    · refine ⟨q1, .inr ⟨w.heap.size, 0, Gc, C, 79, rfl, rfl, by omega, hGn, k1, by rw [k2, g2, hRs]; omega, fun k j x hk hj => ?_⟩⟩
      obtain ⟨u, hu, hd⟩ := q2 k j x hk hj
      exact ⟨u, hu, hd.carry fun x hx => ⟨hoth x (hN x hx), by have := hN x hx; rw [hsize]; omega, by have := hN x hx; simp; omega, .inl hx⟩⟩
    · rfl
end Go.Rk
/- Tables: put. -/
namespace Go.Rk
set_option linter.unusedSimpArgs false
set_option linter.unusedVariables false
open Go.Proofs
set_option maxRecDepth 100000
set_option maxHeartbeats 1000000
open Classical in
set_option maxRecDepth 100000 in
theorem c_Put1 (s r : TabT) : ∃ b, (b = true ↔ Ahead r s) ∧ Meets Try.prog 89 [xd (eTab s), .c (.d (.p (eTab r)))] ⟨.one (.c (.d (eB b))), [none, none]⟩ := by
  obtain ⟨b, hb⟩ : ∃ b, b = decide (Ahead r s) := ⟨_, rfl⟩
  refine ⟨b, by rw [hb, decide_eq_true_eq], ?_⟩
  refine meets_of (H := []) (EX := EXA) ttok mixed Try.func89 rfl (by kernel_rfl) (by decide) ?_
  generalize hA : real = A
  generalize hM : Meets Try.prog = M
  cbv
  repeat' first
    | apply And.intro
    | exact True.intro
    | with_reducible rfl
    | exact same_of hA rfl
    | refine br_of hA (fun _ => ?_) (fun _ => ?_)
    | exact imp_of hA id
    | (refine imp_of hA ?_; subst hA; simp only [real, Bool.true_and]; exact id)
    | (refine ind_of hA ?_; decide +kernel)
    | (refine call_ex hA hM (c_tcompare _ _) (fun _ _ => ?_); cbv)
  all_goals obtain ⟨k, ⟨s, e⟩, ag⟩ := s; obtain ⟨k2, ⟨s2, e2⟩, ag2⟩ := r
  all_goals subst hA
  all_goals refine congrArg (fun b => XA.one (.c (.d (eB b)))) (Bool.eq_iff_iff.2 ?_)
  all_goals subst_vars
  all_goals simp only [real, bifA, bifB, bifC, bifD, beqB, decide_eq_true_eq, decide_eq_false_iff_not, beqI, bneI, beqIF, bneIF, ne_eq, Bool.and_eq_true, Bool.or_eq_true, Bool.not_eq_true', Bool.not_eq_false', Bool.and_eq_false_iff, Bool.or_eq_false_iff, Bool.false_eq_true, and_false, false_and, or_false, false_or, and_true, true_and, not_true_eq_false, not_false_eq_true, true_iff, false_iff, IntKind.wrap_i64, Ahead, WinOkP, AggOkP] at *
  all_goals first | omega | exact (@decide_eq_true_iff _ _).symm | (refine Iff.trans ?_ (@decide_eq_true_iff _ _).symm; omega)
def stIxTab1 (n : Nat) (g : Nat → TabT) (F : FuncId) (c0 : DV) (i : Nat) : St := ⟨[(8, .c (.d (eI i))), (7, .c (.d (eI n))), (0, .c (.d (.sl 7 n fun i => eTab (g i)))), (1, .c (.d (.fn F [c0])))], []⟩
set_option maxRecDepth 100000 in
theorem c_IndexTab1 (n : Nat) (hn : n ≤ maxLen) (g : Nat → TabT) (F : FuncId) (c0 : DV) (Q : TabT → Prop) (hc : ∀ r, ∃ b, (b = true ↔ Q r) ∧ Meets Try.prog F [xd (eTab r), .c (.d c0)] ⟨.one (.c (.d (eB b))), [none, none]⟩) : ∃ x, FirstIx n (fun i => Q (g i)) x ∧ Meets Try.prog 88 [.c (.d (.sl 7 n fun i => eTab (g i))), .c (.d (.fn F [c0]))] ⟨.one (.c (.d (eI x))), [none, none]⟩ := by
  obtain ⟨x, hx⟩ := firstIx_ex n fun i => Q (g i)
  refine ⟨x, hx, ?_⟩
  refine meets_of (H := []) (EX := EXA) ttok mixed Try.func88 rfl (by kernel_rfl) (by decide) ?_
  generalize hA : real = A
  generalize hM : Meets Try.prog = M
  cbv
  repeat' first
    | apply And.intro
    | exact True.intro
    | with_reducible rfl
    | exact same_of hA rfl
    | refine br_of hA (fun _ => ?_) (fun _ => ?_)
    | exact imp_of hA id
    | (refine imp_of hA ?_; subst hA; simp only [real, Bool.true_and]; exact id)
    | (refine ind_of hA ?_; decide +kernel)
  refine loop_of hA (α := { i : Nat // i ≤ n ∧ ∀ j, j < i → ¬ Q (g j) }) (fun x => stIxTab1 n g F c0 x.1) (fun x => n - x.1) ⟨0, Nat.zero_le _, fun j h => absurd h (Nat.not_lt_zero _)⟩ ?_ ?_
  · refine cov_of ?_ ?_ ?_
    · cbv; subst hA; exact ⟨rfl, rfl, trivial⟩
    · cbv
    · cbv
  rintro ⟨i, hi, hb⟩
  cbv
  repeat' first
    | apply And.intro
    | exact True.intro
    | with_reducible rfl
    | exact same_of hA rfl
    | refine br_of hA (fun _ => ?_) (fun _ => ?_)
    | exact imp_of hA id
    | (refine imp_of hA ?_; subst hA; simp only [real, Bool.true_and]; exact id)
    | (refine ind_of hA ?_; decide +kernel)
    | (refine inb_of hA fun _ => ?_; subst hA; simp only [real, decide_eq_true_eq, Int.ofNat_eq_natCast] at *; omega)
  · refine call_ex hA hM (hc (g (A.nat (Int.ofNat i)))) (fun b hbb => ?_)
    cbv
    repeat' first
      | apply And.intro
      | exact True.intro
      | with_reducible rfl
      | exact same_of hA rfl
      | refine br_of hA (fun _ => ?_) (fun _ => ?_)
      | exact imp_of hA id
      | (refine imp_of hA ?_; subst hA; simp only [real, Bool.true_and]; exact id)
      | (refine ind_of hA ?_; decide +kernel)
    · rename_i hlt ht
      subst hA
      simp only [real, decide_eq_true_eq, Int.ofNat_eq_natCast, Int.toNat_natCast] at *
      obtain rfl := firstIx_one hx (.at i (by omega) (hbb.1 ht) hb)
      rfl
    · rename_i hlt ht
      have hlt' : i < n := by subst hA; simp only [real, decide_eq_true_eq, Int.ofNat_eq_natCast] at hlt; omega
      refine ⟨⟨i + 1, by omega, fun j hj => ?_⟩, by simp only; omega, cov_of ?_ ?_ ?_⟩
      · by_cases e : j = i
        · subst e
          subst hA
          intro hq
          have := hbb.2 hq
          rw [ht] at this
          cases this
        · exact hb j (by omega)
      · cbv
        subst hA
        exact ⟨congrArg (fun x => DV.v (.int .i64 x)) (up64 hlt' hn), trivial⟩
      · cbv
      · cbv
  · subst hA
    simp only [real, decide_eq_false_iff_not, Int.ofNat_eq_natCast] at *
    obtain rfl := firstIx_one hx (.none fun j hj => hb j (by omega))
    rfl
theorem flat_tab {A : Ar} (hA : real = A) (n : Nat) (G : Nat → TabT) : A.flat n (fun i => eTab (G i)) := by
  subst hA
  intro i _ x hx
  simp only [eTab, List.mem_cons, List.not_mem_nil, or_false] at hx
  rcases hx with rfl | rfl | rfl | rfl | rfl | rfl | rfl <;> exact ⟨_, rfl⟩
def EXI : FuncId → List Nat × Bool := fun f => (if f = 91 then [0, 2] else [], false)
theorem c_Put (l : List TabT) (n : Nat) (g : Nat → TabT) (hl : Lst zTab l n g) (hn : n ≤ 1090000) (r : TabT) (n1 : Nat) (G : Nat → TabT) (h1 : Lst zTab (tPut r l) n1 G) : Meets Try.prog 41 [.c (.d (.sl 7 n fun i => eTab (g i))), xd (eTab r)] ⟨.one (.c (.own 7 n1 fun i => eTab (G i))), [none, none]⟩ := by
  obtain ⟨n0, hn0⟩ : ∃ n0, n0 = (tOut r.key r.win l).length := ⟨_, rfl⟩
  obtain ⟨G0, hG0⟩ : ∃ G0 : Nat → TabT, G0 = fun k => (tOut r.key r.win l).getD k zTab := ⟨_, rfl⟩
  have h0 : Lst zTab (tOut r.key r.win l) n0 G0 := ⟨hn0, fun k _ => by rw [hG0]⟩
  have hn0n : n0 ≤ n := by rw [hn0, hl.1]; exact tOut_len _ _ _
  have hO := c_Out l n g hl (by omega) r.key r.win n0 G0 h0
  obtain ⟨x, hx, hX⟩ := c_IndexTab1 n0 (Nat.le_trans (show n0 ≤ 1090000 by omega) (by decide)) G0 89 (.p (eTab r)) (Ahead r) (fun s => c_Put1 s r)
  have hxx := firstIx_neg hx
  obtain ⟨i, hi⟩ : ∃ i : Nat, i = if 0 ≤ x then x.toNat else n0 := ⟨_, rfl⟩
  have hi2 : i ≤ n0 ∧ (∀ k, k < i → ¬ Ahead r (G0 k)) ∧ (i < n0 → Ahead r (G0 i)) ∧ (0 ≤ x → x = (i : Int)) ∧ (¬ 0 ≤ x → i = n0) := by
    by_cases h : 0 ≤ x
    · rw [if_pos h] at hi
      obtain ⟨q, hq1, hq2, hq3, hq4⟩ := hxx.2.1 h
      have e : i = q := by rw [hi, hq2]; rfl
      rw [e]
      exact ⟨by omega, hq4, fun _ => hq3, fun _ => hq2, fun hc => absurd h hc⟩
    · rw [if_neg h] at hi
      rw [hi]
      refine ⟨Nat.le_refl _, fun k hk ha => h (hxx.1.2 ⟨k, hk, ha⟩), fun hc => absurd hc (Nat.lt_irrefl _), fun hc => absurd hc h, fun _ => rfl⟩
  obtain ⟨hi0, ha, hb, hx1, hx2⟩ := hi2
  obtain ⟨e1, hG⟩ := tIns_lst h0 h1 hi0 ha hb
  have hIn : ∀ row1 : Nat → List DV, row1 0 = eTab r → Meets Try.prog 91 [.c (.own 7 n0 fun k => eTab (G0 k)), .c (.d (eI i)), .c (.own 7 1 row1)] ⟨.one (.c (.own 7 n1 fun k => eTab (G k))), [none, none, none]⟩ := fun row1 hr1 => by
    rw [e1]
    refine c_Insert n0 i (by omega) hi0 _ row1 _ fun k hk => ?_
    show eTab (G k) = _
    rw [hG k hk]
    split
    · rfl
    · split
      · exact hr1.symm
      · rfl
  refine meets_of (H := []) (EX := EXI) ttok mixed Try.func41 rfl (by kernel_rfl) (by decide) ?_
  generalize hA : real = A
  generalize hM : Meets Try.prog = M
  cbv
  repeat' first
    | apply And.intro
    | exact True.intro
    | with_reducible rfl
    | exact same_of hA rfl
    | refine br_of hA (fun _ => ?_) (fun _ => ?_)
    | exact imp_of hA id
    | (refine imp_of hA ?_; subst hA; simp only [real, Bool.true_and]; exact id)
    | (refine ind_of hA ?_; decide +kernel)
    | (refine call_of hA hM _ hO ?_; cbv)
    | exact flat_tab hA _ _
    | (refine call_of2 hA hM _ hX (congrArg (fun f => [XT.c (.d (.sl 7 n0 f)), XT.c (.d (.fn 89 [.p (eTab r)]))]) (sub0 hA fun i => eTab (G0 i))) ?_; cbv)
  · rename_i hneg
    have hin : i = n0 := hx2 (by subst hA; exact Int.not_le.2 (of_decide_eq_true (show decide (x < 0) = true from hneg)))
    refine call_of2 hA hM _ (hIn _ ?_) (congrArg (fun z => [XT.c (.own 7 n0 fun k => eTab (G0 k)), XT.c (.d (eI z)), XT.c (.own 7 1 (A.app 1 (A.rep (eTab r)) (A.rep (eTab zTab))))]) (show A.int n0 = (i : Int) by subst hA; rw [hin]; rfl)) ?_
    · subst hA; rfl
    cbv
    repeat' first
      | apply And.intro
      | exact True.intro
      | with_reducible rfl
      | exact same_of hA rfl
      | refine br_of hA (fun _ => ?_) (fun _ => ?_)
      | exact imp_of hA id
      | (refine imp_of hA ?_; subst hA; simp only [real, Bool.true_and]; exact id)
      | (refine ind_of hA ?_; decide +kernel)
  · rename_i hneg
    have hin : x = (i : Int) := hx1 (by subst hA; exact Int.not_lt.1 (of_decide_eq_false (show decide (x < 0) = false from hneg)))
    refine call_of2 hA hM _ (hIn _ ?_) (congrArg (fun z => [XT.c (.own 7 n0 fun k => eTab (G0 k)), XT.c (.d (eI z)), XT.c (.own 7 1 (A.app 1 (A.rep (eTab r)) (A.rep (eTab zTab))))]) hin) ?_
    · subst hA; rfl
    cbv
    repeat' first
      | apply And.intro
      | exact True.intro
      | with_reducible rfl
      | exact same_of hA rfl
      | refine br_of hA (fun _ => ?_) (fun _ => ?_)
      | exact imp_of hA id
      | (refine imp_of hA ?_; subst hA; simp only [real, Bool.true_and]; exact id)
      | (refine ind_of hA ?_; decide +kernel)
end Go.Rk
/- Tables: sput. -/
namespace Go.Rk
set_option linter.unusedSimpArgs false
set_option linter.unusedVariables false
open Go.Proofs
set_option maxRecDepth 100000
set_option maxHeartbeats 1000000
theorem tells_snoc2 {α : Type} {z : α} {e : α → List DV} {l : List α} {n : Nat} {row row' : Nat → List DV} {x y : α} (h : Tells z e l n row)
    (h' : ∀ k, k < n + 1 + 1 → row' k = if k < n + 1 then (if k < n then row k else e x) else e y) : Tells z e (l ++ [x, y]) (n + 1 + 1) row' := by
  have := tells_snoc (row' := row') (x := y) (tells_snoc (row' := fun k => if k < n then row k else e x) (x := x) h fun k _ => rfl) h'
  rw [List.append_assoc] at this
  exact this
def st_sPut (r : TabT) (n0 : Nat) (G0 : Nat → TabT) (i : Nat) (d : Bool) (c : Nat) (row : Nat → List DV) : St := ⟨[(8, .c (.d (eI i))), (5, .c (.own 896 0 n0 1)), (6, .c (.own 960 0 c 1)), (7, .c (.d (eB d))), (3, .c (.bp 192 1 0))], [(192, 1, .box ((eTab r).map .d)), (896, 1, .arr 7 n0 fun i => eTab (G0 i)), (960, 1, .arr 7 c row)]⟩
theorem c_sPut (l : List TabT) (n : Nat) (g : Nat → TabT) (hl : Lst zTab l n g) (hn : n ≤ 1090000) (r : TabT) (n1 : Nat) (G : Nat → TabT) (h1 : Lst zTab (tPut r l) n1 G) : Meets Try.prog 38 [.c (.d (.sl 7 n fun i => eTab (g i))), xd (eTab r)] ⟨.one (.c (.own 7 n1 fun i => eTab (G i))), [none, none]⟩ := by
  obtain ⟨o, ho⟩ : ∃ o, o = tOut r.key r.win l := ⟨_, rfl⟩
  obtain ⟨n0, hn0⟩ : ∃ n0, n0 = o.length := ⟨_, rfl⟩
  obtain ⟨G0, hG0⟩ : ∃ G0 : Nat → TabT, G0 = fun k => o.getD k zTab := ⟨_, rfl⟩
  have h0 : Lst zTab o n0 G0 := ⟨hn0, fun k _ => by rw [hG0]⟩
  have hn0n : n0 ≤ n := by rw [hn0, hl.1, ho]; exact tOut_len _ _ _
  have hnL : n0 ≤ maxLen := Nat.le_trans (show n0 ≤ 1090000 by omega) (by decide)
  have hO := c_sOut l n g hl (by omega) r.key r.win n0 G0 (by rw [← ho]; exact h0)
  unfold tPut at h1
  rw [← ho] at h1
  have h1T := lst_tells eTab h1
  refine meets_of (H := [13]) (EX := EXA) ttok mixed Try.func38 rfl (by kernel_rfl) (by decide) ?_
  generalize hA : real = A
  generalize hM : Meets Try.prog = M
  cbv
  repeat' first
    | apply And.intro
    | exact True.intro
    | with_reducible rfl
    | exact same_of hA rfl
    | refine br_of hA (fun _ => ?_) (fun _ => ?_)
    | exact imp_of hA id
    | (refine imp_of hA ?_; subst hA; simp only [real, Bool.true_and]; exact id)
    | (refine ind_of hA ?_; decide +kernel)
    | (refine call_of hA hM _ hO ?_; cbv)
  refine loop_of hA (α := { q : Nat × Bool × Nat × (Nat → List DV) × List TabT // q.1 ≤ n0 ∧ Tells zTab eTab q.2.2.2.2 q.2.2.1 q.2.2.2.1 ∧ ∀ s, tIns r (o.take q.1 ++ s) = q.2.2.2.2 ++ (if q.2.1 = true then s else tIns r s) }) (fun y => st_sPut r n0 G0 y.1.1 y.1.2.1 y.1.2.2.1 y.1.2.2.2.1) (fun y => n0 - y.1.1) ⟨(0, false, 0, fun _ => [], []), Nat.zero_le _, ⟨rfl, fun k h => absurd h (Nat.not_lt_zero k)⟩, fun s => rfl⟩ ?_ ?_
  · refine cov_of ?_ ?_ ?_
    · cbv; try (subst hA; repeat' first | apply And.intro | exact True.intro | rfl)
    · cbv; try (subst hA; repeat' first | apply And.intro | exact True.intro | rfl | (intro _ _; rfl) | (intro k hk; exact absurd hk (Nat.not_lt_zero k)))
    · cbv; try (subst hA; repeat' first | apply And.intro | exact True.intro | rfl | exact .inr trivial)
  rintro ⟨⟨i, d, c, row, lo⟩, hi, hT, hs⟩
  have hi : i ≤ n0 := hi
  have hT : Tells zTab eTab lo c row := hT
  have hs : ∀ s, tIns r (o.take i ++ s) = lo ++ (if d = true then s else tIns r s) := hs
  have hci : c ≤ i + 1 := by
    have h := congrArg List.length (hs [])
    rw [List.append_nil, tIns_len, List.length_append, List.length_take, ← hn0] at h
    have := hT.1
    omega
  cbv
  repeat' first
    | apply And.intro
    | exact True.intro
    | with_reducible rfl
    | exact same_of hA rfl
    | refine br_of hA (fun _ => ?_) (fun _ => ?_)
    | exact imp_of hA id
    | (refine imp_of hA ?_; subst hA; simp only [real, Bool.true_and]; exact id)
    | (refine ind_of hA ?_; decide +kernel)
    | (refine call_ex hA hM (c_l5Ahead _ _ _ _ _ _) (fun _ _ => ?_); cbv)
    | (rename_i hlt; refine inb_of hA fun _ => ?_; subst hA; simp only [real, decide_eq_true_eq, Int.ofNat_eq_natCast] at *; omega)
    | (refine inb_of hA fun _ => ?_; subst hA; simp only [real, Bool.and_eq_true, Bool.not_eq_true', Bool.not_eq_false', decide_eq_true_eq, Int.ofNat_eq_natCast, IntKind.wrap_i64] at *; omega)
    | exact room_add2 hA (by omega) (by decide)
    | (refine room_add2 hA ?_ (by decide); subst hA; show c + 1 + 1 ≤ _; omega)
  · rename_i hlt bq hbq hc
    have hlt' := lt_of hA hlt
    rw [ix0 hA i] at hbq
    have hbq : bq = decide (Ahead r (G0 i)) := hbq
    have hc : d = false ∧ bq = true := by subst hA; have hc : (bif (!d) then bq else false) = true := hc; cases d <;> simp_all
    obtain ⟨rfl, hb⟩ := hc
    have hq : Ahead r (G0 i) := by rw [hb] at hbq; exact of_decide_eq_true hbq.symm
    refine ⟨⟨(i + 1, true, c + 1 + 1, fun q => if q < c + 1 then (if q < c then row q else eTab r) else eTab (G0 i), lo ++ [r, G0 i]), by simp only; omega, tells_snoc2 hT (fun _ _ => rfl), fun s => ?_⟩, by simp only; omega, cov_of ?_ ?_ ?_⟩
    · simp only
      rw [lst_take h0 hlt', List.append_assoc]
      show tIns r (o.take i ++ (G0 i :: s)) = _
      rw [hs (G0 i :: s)]
      show lo ++ (if Ahead r (G0 i) then r :: G0 i :: s else G0 i :: tIns r s) = (lo ++ [r, G0 i]) ++ s
      rw [if_pos hq, List.append_assoc]
      rfl
    · cbv
      subst hA
      repeat' first | apply And.intro | exact True.intro | exact congrArg (fun x => DV.v (.int .i64 x)) (up64 hlt' hnL) | rfl
    · cbv
      rw [ix0 hA i]
      subst hA
      repeat' first | apply And.intro | exact True.intro | rfl | (intro _ _; rfl)
      all_goals
        intro q hq
        refine (push_at rfl (c + 1) _ _ _ q hq).trans ?_
        by_cases h1 : q < c + 1
        · rw [if_pos h1, if_pos h1]
          exact push_at rfl _ _ _ _ q h1
        · rw [if_neg h1, if_neg h1]
          rfl
    · cbv; try (subst hA; repeat' first | apply And.intro | exact True.intro | rfl | exact .inr trivial)
  · rename_i hlt bq hbq hc
    have hlt' := lt_of hA hlt
    rw [ix0 hA i] at hbq
    have hbq : bq = decide (Ahead r (G0 i)) := hbq
    have hc : d = true ∨ bq = false := by subst hA; have hc : (bif (!d) then bq else false) = false := hc; cases d <;> simp_all
    have hq : d = true ∨ ¬ Ahead r (G0 i) := by
      rcases hc with h | h
      · exact .inl h
      · rw [h] at hbq; exact .inr (of_decide_eq_false hbq.symm)
    refine ⟨⟨(i + 1, d, c + 1, fun q => if q < c then row q else eTab (G0 i), lo ++ [G0 i]), by simp only; omega, tells_snoc hT (fun _ _ => rfl), fun s => ?_⟩, by simp only; omega, cov_of ?_ ?_ ?_⟩
    · simp only
      rw [lst_take h0 hlt', List.append_assoc]
      show tIns r (o.take i ++ (G0 i :: s)) = _
      rw [hs (G0 i :: s)]
      by_cases hd : d = true
      · rw [if_pos hd, if_pos hd, List.append_assoc]; rfl
      · rw [if_neg hd, if_neg hd, List.append_assoc]
        show lo ++ (if Ahead r (G0 i) then r :: G0 i :: s else G0 i :: tIns r s) = lo ++ (G0 i :: tIns r s)
        rw [if_neg (hq.resolve_left hd)]
    · cbv
      subst hA
      repeat' first | apply And.intro | exact True.intro | exact congrArg (fun x => DV.v (.int .i64 x)) (up64 hlt' hnL) | rfl
    · cbv
      rw [ix0 hA i]
      subst hA
      repeat' first | apply And.intro | exact True.intro | rfl | (intro _ _; rfl) | (intro q hq; exact push_at rfl _ _ _ _ q hq)
    · cbv; try (subst hA; repeat' first | apply And.intro | exact True.intro | rfl | exact .inr trivial)
  · rename_i hge hd
    have hin : i = n0 := by have := ge_of hA hge; omega
    have hd : d = false := by subst hA; have hd : (!d) = true := hd; cases d <;> simp_all
    have hs0 := hs []
    rw [List.append_nil, hin, lst_all h0, hd] at hs0
    have hs0 : tIns r o = lo ++ [r] := hs0
    have hT2 : Tells zTab eTab (tIns r o) (c + 1) (fun q => if q < c then row q else eTab r) := by rw [hs0]; exact tells_snoc hT fun _ _ => rfl
    have hcc : c + 1 = n1 := hT2.1.trans h1T.1.symm
    subst hcc
    refine stop_of hA ⟨[(6, .c (.own 960 0 (c + 1) 1))], [(960, 1, .arr 7 (c + 1) fun i => eTab (G i))]⟩ (cov_of ?_ ?_ ?_) ?_
    · cbv; try (subst hA; repeat' first | apply And.intro | exact True.intro | rfl)
    · cbv
      subst hA
      repeat' first | apply And.intro | exact True.intro | rfl
      intro q hq
      exact (push_at rfl _ _ _ _ q hq).trans ((hT2.2 q hq).trans (h1T.2 q hq).symm)
    · cbv; try (subst hA; repeat' first | apply And.intro | exact True.intro | rfl | exact .inr trivial)
    · cbv
      repeat' first
        | apply And.intro
        | exact True.intro
        | with_reducible rfl
        | exact same_of hA rfl
        | refine br_of hA (fun _ => ?_) (fun _ => ?_)
        | exact imp_of hA id
        | (refine imp_of hA ?_; subst hA; simp only [real, Bool.true_and]; exact id)
        | (refine ind_of hA ?_; decide +kernel)
  · rename_i hge hd
    have hin : i = n0 := by have := ge_of hA hge; omega
    have hd : d = true := by subst hA; have hd : (!d) = false := hd; cases d <;> simp_all
    have hs0 := hs []
    rw [List.append_nil, hin, lst_all h0, hd] at hs0
    have hs0 : tIns r o = lo ++ [] := hs0
    rw [List.append_nil] at hs0
    rw [hs0] at h1T
    have hcc : c = n1 := hT.1.trans h1T.1.symm
    subst hcc
    refine stop_of hA ⟨[(6, .c (.own 960 0 c 1))], [(960, 1, .arr 7 c fun i => eTab (G i))]⟩ (cov_of ?_ ?_ ?_) ?_
    · cbv
    · cbv
      exact ⟨fun q hq => (hT.2 q hq).trans (h1T.2 q hq).symm, trivial⟩
    · cbv
    · cbv
      repeat' first
        | apply And.intro
        | exact True.intro
        | with_reducible rfl
        | exact same_of hA rfl
        | refine br_of hA (fun _ => ?_) (fun _ => ?_)
        | exact imp_of hA id
        | (refine imp_of hA ?_; subst hA; simp only [real, Bool.true_and]; exact id)
        | (refine ind_of hA ?_; decide +kernel)
end Go.Rk
/- Tables: find. -/
namespace Go.Rk
set_option linter.unusedSimpArgs false
set_option linter.unusedVariables false
open Go.Proofs
set_option maxRecDepth 100000
set_option maxHeartbeats 1000000
open Classical in
set_option maxRecDepth 100000 in
theorem c_Find1 (r : TabT) (key : Int) (w : WinT) : ∃ b, (b = true ↔ IsRow key w r) ∧ Meets Try.prog 96 [xd (eTab r), .c (.d (.p [eI key])), .c (.d (.p (eWin w)))] ⟨.one (.c (.d (eB b))), [none, none, none]⟩ := by
  obtain ⟨b, hb⟩ : ∃ b, b = decide (IsRow key w r) := ⟨_, rfl⟩
  refine ⟨b, by rw [hb, decide_eq_true_eq], ?_⟩
  refine meets_of (H := []) (EX := EXA) ttok mixed Try.func96 rfl (by kernel_rfl) (by decide) ?_
  generalize hA : real = A
  generalize hM : Meets Try.prog = M
  cbv
  repeat' first
    | apply And.intro
    | exact True.intro
    | with_reducible rfl
    | exact same_of hA rfl
    | refine br_of hA (fun _ => ?_) (fun _ => ?_)
    | exact imp_of hA id
    | (refine imp_of hA ?_; subst hA; simp only [real, Bool.true_and]; exact id)
    | (refine ind_of hA ?_; decide +kernel)
    | (refine call_ex hA hM (c_of _ _ _) (fun _ _ => ?_); cbv)
  all_goals obtain ⟨k, ⟨s, e⟩, ag⟩ := r; obtain ⟨s2, e2⟩ := w
  all_goals subst hA
  all_goals refine congrArg (fun b => XA.one (.c (.d (eB b)))) (Bool.eq_iff_iff.2 ?_)
  all_goals subst_vars
  all_goals simp only [real, bifA, bifB, bifC, bifD, beqB, decide_eq_true_eq, decide_eq_false_iff_not, beqI, bneI, beqIF, bneIF, ne_eq, Bool.and_eq_true, Bool.or_eq_true, Bool.not_eq_true', Bool.not_eq_false', Bool.and_eq_false_iff, Bool.or_eq_false_iff, Bool.false_eq_true, and_false, false_and, or_false, false_or, and_true, true_and, not_true_eq_false, not_false_eq_true, true_iff, false_iff, IntKind.wrap_i64, IsRow, WinOkP, AggOkP] at *
  all_goals first | omega | exact (@decide_eq_true_iff _ _).symm | (refine Iff.trans ?_ (@decide_eq_true_iff _ _).symm; omega)
theorem c_Find (l : List TabT) (n : Nat) (g : Nat → TabT) (hl : Lst zTab l n g) (hn : n ≤ 1100000) (key : Int) (w : WinT) (a : AggT) (ha : a = (tFind key w l).getD zAgg) (b : Bool) (hb : b = (tFind key w l).isSome) : Meets Try.prog 47 [.c (.d (.sl 7 n fun i => eTab (g i))), .c (.d (eI key)), xd (eWin w)] ⟨.tup [xd (eAgg a), .c (.d (eB b))], [none, none, none]⟩ := by
  have hnL : n ≤ maxLen := Nat.le_trans hn (by decide)
  obtain ⟨x, hx, hX⟩ := c_IndexTab2 n hnL g 96 (.p [eI key]) (.p (eWin w)) (IsRow key w) (fun r => c_Find1 r key w)
  have hxx := firstIx_neg hx
  have hcs : (0 ≤ x → x < (n : Int) ∧ some (g x.toNat).agg = tFind key w l) ∧ (¬ 0 ≤ x → tFind key w l = none) := by
    refine ⟨fun h => ?_, fun h => tFind_none hl fun k hk hq => h (hxx.1.2 ⟨k, hk, hq⟩)⟩
    obtain ⟨q, hq1, hq2, hq3, hq4⟩ := hxx.2.1 h
    rw [hq2]
    exact ⟨Int.ofNat_lt.2 hq1, (tFind_first hl hq1 hq3 hq4).symm⟩
  refine meets_of (H := []) (EX := EXA) ttok mixed Try.func47 rfl (by kernel_rfl) (by decide) ?_
  generalize hA : real = A
  generalize hM : Meets Try.prog = M
  cbv
  repeat' first
    | apply And.intro
    | exact True.intro
    | with_reducible rfl
    | exact same_of hA rfl
    | refine br_of hA (fun _ => ?_) (fun _ => ?_)
    | exact imp_of hA id
    | (refine imp_of hA ?_; subst hA; simp only [real, Bool.true_and]; exact id)
    | (refine ind_of hA ?_; decide +kernel)
    | (refine call_of hA hM _ hX ?_; cbv)
    | (rename_i hneg; refine inb_of hA fun _ => ?_; subst hA; have h2 := Int.not_lt.1 (of_decide_eq_false (show decide (x < 0) = false from hneg)); exact ⟨h2, (hcs.1 h2).1⟩)
  · rename_i hneg
    subst hA
    have e := hcs.2 (Int.not_le.2 (of_decide_eq_true (show decide (x < 0) = true from hneg)))
    rw [e] at ha hb; subst ha; subst hb; rfl
  · rename_i hneg
    subst hA
    have e := (hcs.1 (Int.not_lt.1 (of_decide_eq_false (show decide (x < 0) = false from hneg)))).2
    rw [← e] at ha hb; subst ha; subst hb; rfl
def st_sFind (n : Nat) (g : Nat → TabT) (key : Int) (w : WinT) (i : Nat) : St := ⟨[(8, .c (.d (eI i))), (0, .c (.d (.sl 7 n fun i => eTab (g i)))), (1, .c (.d (eI key))), (5, .c (.bp 320 1 0)), (6, .c (.bp 384 1 0)), (7, .c (.d (eB false)))], [(320, 1, .box ((eWin w).map .d)), (384, 1, .box ((eAgg zAgg).map .d))]⟩
theorem c_sFind (l : List TabT) (n : Nat) (g : Nat → TabT) (hl : Lst zTab l n g) (hn : n ≤ 1100000) (key : Int) (w : WinT) (a : AggT) (ha : a = (tFind key w l).getD zAgg) (b : Bool) (hb : b = (tFind key w l).isSome) : Meets Try.prog 99 [.c (.d (.sl 7 n fun i => eTab (g i))), .c (.d (eI key)), xd (eWin w)] ⟨.tup [xd (eAgg a), .c (.d (eB b))], [none, none, none]⟩ := by
  have hnL : n ≤ maxLen := Nat.le_trans hn (by decide)
  refine meets_of (H := []) (EX := EXA) ttok mixed Try.func99 rfl (by kernel_rfl) (by decide) ?_
  generalize hA : real = A
  generalize hM : Meets Try.prog = M
  cbv
  repeat' first
    | apply And.intro
    | exact True.intro
    | with_reducible rfl
    | exact same_of hA rfl
    | refine br_of hA (fun _ => ?_) (fun _ => ?_)
    | exact imp_of hA id
    | (refine imp_of hA ?_; subst hA; simp only [real, Bool.true_and]; exact id)
    | (refine ind_of hA ?_; decide +kernel)
  refine loop_of hA (α := { i : Nat // i ≤ n ∧ ∀ k, k < i → ¬ IsRow key w (g k) }) (fun x => st_sFind n g key w x.1) (fun x => n - x.1) ⟨0, Nat.zero_le _, fun k h => absurd h (Nat.not_lt_zero k)⟩ ?_ ?_
  · refine cov_of ?_ ?_ ?_
    · cbv; try (subst hA; repeat' first | apply And.intro | exact True.intro | rfl)
    · cbv; try (subst hA; repeat' first | apply And.intro | exact True.intro | rfl | (intro _ _; rfl) | (intro k hk; exact absurd hk (Nat.not_lt_zero k)))
    · cbv; try (subst hA; repeat' first | apply And.intro | exact True.intro | rfl | exact .inr trivial)
  rintro ⟨i, hi, hk⟩
  cbv
  repeat' first
    | apply And.intro
    | exact True.intro
    | with_reducible rfl
    | exact same_of hA rfl
    | refine br_of hA (fun _ => ?_) (fun _ => ?_)
    | exact imp_of hA id
    | (refine imp_of hA ?_; subst hA; simp only [real, Bool.true_and]; exact id)
    | (refine ind_of hA ?_; decide +kernel)
    | (refine inb_of hA fun _ => ?_; subst hA; simp only [real, Bool.and_eq_true, Bool.not_eq_true', Bool.not_eq_false', decide_eq_true_eq, Int.ofNat_eq_natCast, IntKind.wrap_i64] at *; omega)
  · rename_i hlt hc
    have hlt' := lt_of hA hlt
    have hq : IsRow key w (g i) := by
      subst hA
      have e1 : real.nat (Int.ofNat i) = i := rfl
      simp only [e1, real, bifA, bifB, bifC, bifD, beqB, decide_eq_true_eq, decide_eq_false_iff_not, beqI, bneI, beqIF, bneIF, ne_eq, Classical.not_not, Bool.and_eq_true, Bool.or_eq_true, Bool.not_eq_true', Bool.not_eq_false', Bool.and_eq_false_iff, Bool.or_eq_false_iff, Bool.false_eq_true, and_false, false_and, or_false, false_or, and_true, true_and, not_true_eq_false, not_false_eq_true, true_iff, false_iff, Int.ofNat_eq_natCast, Int.toNat_natCast] at hc
      exact ⟨hc.1, hc.2.1, hc.2.2⟩
    have e := tFind_first hl hlt' hq hk
    subst hA
    rw [e] at ha hb; subst ha; subst hb; rfl
  · rename_i hlt hc
    have hlt' := lt_of hA hlt
    have hq : ¬ IsRow key w (g i) := by
      subst hA
      have e1 : real.nat (Int.ofNat i) = i := rfl
      simp only [e1, real, bifA, bifB, bifC, bifD, beqB, decide_eq_true_eq, decide_eq_false_iff_not, beqI, bneI, beqIF, bneIF, ne_eq, Classical.not_not, Bool.and_eq_true, Bool.or_eq_true, Bool.not_eq_true', Bool.not_eq_false', Bool.and_eq_false_iff, Bool.or_eq_false_iff, Bool.false_eq_true, and_false, false_and, or_false, false_or, and_true, true_and, not_true_eq_false, not_false_eq_true, true_iff, false_iff, Int.ofNat_eq_natCast, Int.toNat_natCast] at hc
      intro hI
      rcases hc with h | h | h | h
      · exact h hI.1
      · exact h hI.2.1
      · exact h hI.2.2
      · cases h
    refine ⟨⟨i + 1, by omega, fun k hk' => ?_⟩, by simp only; omega, cov_of ?_ ?_ ?_⟩
    · by_cases e : k = i
      · rw [e]; exact hq
      · exact hk k (by omega)
    · cbv
      subst hA
      repeat' first | apply And.intro | exact True.intro | exact congrArg (fun x => DV.v (.int .i64 x)) (up64 hlt' hnL) | rfl
    · cbv; try (subst hA; repeat' first | apply And.intro | exact True.intro | rfl | (intro _ _; rfl))
    · cbv; try (subst hA; repeat' first | apply And.intro | exact True.intro | rfl | exact .inr trivial)
  · rename_i hge
    have hin : i = n := by have := ge_of hA hge; omega
    have e := tFind_none hl fun k hkn => hk k (by omega)
    rw [e] at ha hb; subst ha; subst hb; rfl
end Go.Rk
/- Tables of panes. -/
namespace Go.Rk
set_option linter.unusedSimpArgs false
set_option linter.unusedVariables false
theorem sub0r (f : Nat → List DV) : real.sub 0 f = f := sub0 rfl f
theorem args_sl {sz n : Nat} {f : Nat → List DV} {r r' : List XT} (h : r = r') : XT.c (.d (.sl sz n (real.sub 0 f))) :: r = XT.c (.d (.sl sz n f)) :: r' := by rw [sub0r, h]
theorem args_eq {x : XT} {r r' : List XT} (h : r = r') : x :: r = x :: r' := by rw [h]
def zPane : PaneT := ⟨0, ⟨0, 0⟩, 0, 0, ⟨0, 0, 0, 0⟩⟩
def ofAgg (piece : Bool) (T : List TabT) (p : PaneT) : AggT := if piece = true then aggB ((tFind p.key p.win T).getD zAgg) p.agg else p.agg
def ofStep (piece : Bool) (T : List TabT) (p : PaneT) : List TabT := if p.kind = 3 then tOut p.key p.win T else tPut ⟨p.key, p.win, ofAgg piece T p⟩ T
def ofL (piece : Bool) (l : List PaneT) : List TabT := l.foldl (ofStep piece) []
theorem ofL_snoc (piece : Bool) (l : List PaneT) (p : PaneT) : ofL piece (l ++ [p]) = ofStep piece (ofL piece l) p := by unfold ofL; rw [List.foldl_append]; rfl
theorem ofStep_len (piece : Bool) (T : List TabT) (p : PaneT) : (ofStep piece T p).length ≤ T.length + 1 := by
  unfold ofStep
  split
  · exact Nat.le_succ_of_le (tOut_len _ _ _)
  · exact tPut_len _ _
theorem ofFold_len (piece : Bool) : ∀ (l : List PaneT) (T : List TabT), (l.foldl (ofStep piece) T).length ≤ T.length + l.length
  | [], T => Nat.le_refl _
  | p :: l, T => by
    have h1 := ofFold_len piece l (ofStep piece T p)
    have h2 := ofStep_len piece T p
    rw [List.foldl_cons, List.length_cons]; omega
theorem ofL_len (piece : Bool) (l : List PaneT) : (ofL piece l).length ≤ l.length := by have := ofFold_len piece l []; simpa [ofL] using this
/-- A list, given its number and its members. -/
theorem lst_ex {α : Type} (z : α) (l : List α) : ∃ (n : Nat) (g : Nat → α), Lst z l n g := ⟨_, _, lst_self z l⟩
def mkPane (k : Int) : PaneT := ⟨k, ⟨k + 1, k + 2⟩, k + 3, k + 4, ⟨k + 5, k + 6, k + 7, k + 8⟩⟩
theorem lst_snoc {α : Type} {z : α} {l : List α} {n : Nat} {g : Nat → α} {x : α} (h : Lst z l n g) : Lst z (l ++ [x]) (n + 1) (fun q => if q < n then g q else x) := by
  obtain ⟨rfl, h2⟩ := h
  refine ⟨by simp, fun k hk => ?_⟩
  by_cases hl : k < l.length
  · simp only [if_pos hl]
    rw [h2 k hl, List.getD_eq_getElem?_getD, List.getD_eq_getElem?_getD, List.getElem?_append_left hl]
  · have : k = l.length := by omega
    subst this
    simp
/-- One row more at the end, told by its own shape. -/
theorem push_if {A : Ar} {α : Type} (e : α → List DV) (hA : real = A) (n : Nat) (G : Nat → α) (x : α) (z : Nat → List DV) (k : Nat) (hk : k < n + 1) : A.app n (fun i => e (G i)) (A.sub 0 (A.app 1 (A.rep (e x)) z)) k = e (if k < n then G k else x) := by
  subst hA
  show (if k < n then e (G k) else (if 0 + (k - n) < 1 then e x else z (0 + (k - n) - 1))) = _
  split
  · rfl
  · rw [if_pos (by omega)]
theorem flatI {A : Ar} (hA : real = A) (n : Nat) (G : Nat → ItmT) : A.flat n (fun i => eItm (G i)) := by
  subst hA
  intro i _ x hx
  simp only [eItm, List.mem_cons, List.not_mem_nil, or_false] at hx
  rcases hx with rfl | rfl | rfl | rfl | rfl <;> exact ⟨_, rfl⟩
theorem flatP {A : Ar} (hA : real = A) (n : Nat) (G : Nat → PaneT) : A.flat n (fun i => ePane (G i)) := by
  subst hA
  intro i _ x hx
  simp only [ePane, List.mem_cons, List.not_mem_nil, or_false] at hx
  rcases hx with rfl | rfl | rfl | rfl | rfl | rfl | rfl | rfl | rfl <;> exact ⟨_, rfl⟩
theorem lt2_of {A : Ar} (hA : real = A) {i n : Nat} (h : A.cmp .lss (Int.ofNat i) (Int.ofNat n) = true) : i < n := by
  subst hA
  have h : decide ((i : Int) < (n : Int)) = true := h
  rw [decide_eq_true_eq] at h
  omega
theorem ge2_of {A : Ar} (hA : real = A) {i n : Nat} (h : A.cmp .lss (Int.ofNat i) (Int.ofNat n) = false) : n ≤ i := by
  subst hA
  have h : decide ((i : Int) < (n : Int)) = false := h
  rw [decide_eq_false_iff_not] at h
  omega
theorem eq_of {A : Ar} (hA : real = A) {a b : Int} (h : A.cmp .eql a b = true) : a = b := by subst hA; exact of_decide_eq_true h
theorem ne_of {A : Ar} (hA : real = A) {a b : Int} (h : A.cmp .eql a b = false) : ¬ a = b := by subst hA; exact of_decide_eq_false h
end Go.Rk
/- Tables of panes. -/
namespace Go.Rk
set_option linter.unusedSimpArgs false
set_option linter.unusedVariables false
open Go.Proofs
set_option maxRecDepth 100000
set_option maxHeartbeats 1000000
def st_Of (n : Nat) (g : Nat → PaneT) (piece : Bool) (i c : Nat) (G : Nat → TabT) : St := ⟨[(13, .c (.d (eI i))), (12, .c (.d (eI n))), (11, .c (.d (.sl 9 n fun i => ePane (g i)))), (5, .c (.own 320 0 c 1)), (1, .c (.d (eB piece)))], [(320, 1, .arr 7 c fun k => eTab (G k))]⟩
theorem c_Of (l : List PaneT) (n : Nat) (g : Nat → PaneT) (hl : Lst zPane l n g) (hn : n ≤ 1080000) (piece : Bool) (n0 : Nat) (G0 : Nat → TabT) (h0 : Lst zTab (ofL piece l) n0 G0) : Meets Try.prog 50 [.c (.d (.sl 9 n fun i => ePane (g i))), .c (.d (eB piece))] ⟨.one (.c (.own 7 n0 fun i => eTab (G0 i))), [none, none]⟩ := by
  have hnL : n ≤ maxLen := Nat.le_trans hn (by decide)
  refine meets_of (H := [13]) (EX := EXA) ttok mixed Try.func50 rfl (by kernel_rfl) (by decide) ?_
  generalize hA : real = A
  generalize hM : Meets Try.prog = M
  cbv
  repeat' first
    | apply And.intro
    | exact True.intro
    | with_reducible rfl
    | exact same_of hA rfl
    | refine br_of hA (fun _ => ?_) (fun _ => ?_)
    | exact imp_of hA id
    | (refine imp_of hA ?_; subst hA; simp only [real, Bool.true_and]; exact id)
    | (refine ind_of hA ?_; decide +kernel)
  refine loop_of hA (α := { q : Nat × Nat × (Nat → TabT) // q.1 ≤ n ∧ Lst zTab (ofL piece (l.take q.1)) q.2.1 q.2.2 }) (fun y => st_Of n g piece y.1.1 y.1.2.1 y.1.2.2) (fun y => n - y.1.1) ⟨(0, 0, fun _ => zTab), Nat.zero_le _, rfl, fun k h => absurd h (Nat.not_lt_zero k)⟩ ?_ ?_
  · refine cov_prom 5 320 1 7 (fun _ => []) rfl rfl (cov_of ?_ ?_ ?_)
    · cbv; try (subst hA; repeat' first | apply And.intro | exact True.intro | rfl | fail)
    · cbv; try (subst hA; repeat' first | apply And.intro | exact True.intro | rfl | (intro _ _; rfl) | (intro k hk; exact absurd hk (Nat.not_lt_zero k)) | fail)
    · cbv; try (subst hA; repeat' first | apply And.intro | exact True.intro | rfl | exact .inr trivial | exact .inl trivial)
  rintro ⟨⟨i, c, G⟩, hi, hT⟩
  have hi : i ≤ n := hi
  obtain ⟨T, hTe⟩ : ∃ T, T = ofL piece (l.take i) := ⟨_, rfl⟩
  have hT : Lst zTab T c G := by rw [hTe]; exact hT
  have hci : c ≤ i := by
    rw [hT.1, hTe]
    have h1 := ofL_len piece (l.take i)
    rw [List.length_take] at h1
    omega
  obtain ⟨no, Go, hO⟩ := lst_ex zTab (tOut (g i).key (g i).win T)
  obtain ⟨np, Gp, hP⟩ := lst_ex zTab (tPut ⟨(g i).key, (g i).win, ofAgg piece T (g i)⟩ T)
  obtain ⟨a, ha⟩ : ∃ a, a = (tFind (g i).key (g i).win T).getD zAgg := ⟨_, rfl⟩
  obtain ⟨b, hb⟩ : ∃ b, b = (tFind (g i).key (g i).win T).isSome := ⟨_, rfl⟩
  obtain ⟨ag, hag⟩ : ∃ x, x = aggB a (g i).agg := ⟨_, rfl⟩
  have cO := c_Out T c G hT (by omega) (g i).key (g i).win no Go hO
  have cF := c_Find T c G hT (by omega) (g i).key (g i).win a ha b hb
  have cB := c_AggBoth a (g i).agg ag hag
  have cP := c_Put T c G hT (by omega) _ np Gp hP
  have hnext : i < n → ∀ m H, Lst zTab (ofStep piece T (g i)) m H → i + 1 ≤ n ∧ Lst zTab (ofL piece (l.take (i + 1))) m H := fun h m H hH => ⟨h, by rw [lst_take hl h, ofL_snoc, ← hTe]; exact hH⟩
  cbv
  repeat' first
    | apply And.intro
    | exact True.intro
    | with_reducible rfl
    | exact same_of hA rfl
    | refine br_of hA (fun _ => ?_) (fun _ => ?_)
    | exact imp_of hA id
    | (refine imp_of hA ?_; subst hA; simp only [real, Bool.true_and]; exact id)
    | (refine ind_of hA ?_; decide +kernel)
    | (refine inb_lt hA ?_; first | exact lt2_of hA (by assumption) | exact lt_of hA (by assumption))
    | exact flat_tab hA _ _
    | (refine call_of2 hA hM _ cO (by (subst hA; first | rfl | (simp only [sub0r]; try rfl))) ?_; cbv)
    | (refine call_of2 hA hM _ cF (by (subst hA; first | rfl | (simp only [sub0r]; try rfl))) ?_; cbv)
    | (refine call_of2 hA hM _ cB (by (subst hA; first | rfl | (simp only [sub0r]; try rfl))) ?_; cbv)
  · rename_i hlt hk
    have hlt' : i < n := by first | exact lt2_of hA hlt | exact lt_of hA hlt
    have hk : (g i).kind = 3 := by subst hA; exact of_decide_eq_true hk
    refine ⟨⟨(i + 1, no, Go), hnext hlt' _ _ ?_⟩, by simp only; omega, cov_rel 320 2 (k := 5) (l := 1600) (sz := 7) rfl rfl rfl rfl (cov_of ?_ ?_ ?_)⟩
    · unfold ofStep; rw [if_pos hk]; exact hO
    · cbv; subst hA; repeat' first | apply And.intro | exact True.intro | exact congrArg (fun x => DV.v (.int .i64 x)) (up64 hlt' hnL) | rfl
    · cbv; try (subst hA; repeat' first | apply And.intro | exact True.intro | rfl | (intro _ _; rfl))
    · cbv; try (subst hA; repeat' first | apply And.intro | exact True.intro | rfl | exact .inr trivial | exact .inl trivial)
  · rename_i hlt hk hp
    have hlt' : i < n := by first | exact lt2_of hA hlt | exact lt_of hA hlt
    have hk : ¬ (g i).kind = 3 := by subst hA; exact of_decide_eq_false hk
    have hx : ofAgg piece T (g i) = ag := by
      have hp2 : b = true ∧ piece = true := by subst hA; simpa [real] using hp
      unfold ofAgg; rw [if_pos hp2.2, hag, ha]
    rw [hx] at cP hP
    refine call_of2 hA hM _ cP (by (subst hA; first | rfl | (simp only [sub0r]; try rfl))) ?_
    cbv
    repeat' first
      | apply And.intro
      | exact True.intro
      | with_reducible rfl
      | exact same_of hA rfl
      | refine br_of hA (fun _ => ?_) (fun _ => ?_)
      | exact imp_of hA id
      | (refine imp_of hA ?_; subst hA; simp only [real, Bool.true_and]; exact id)
      | (refine ind_of hA ?_; decide +kernel)
      | exact flat_tab hA _ _
    refine ⟨⟨(i + 1, np, Gp), hnext hlt' _ _ ?_⟩, by simp only; omega, cov_rel 320 2 (k := 5) (l := 3264) (sz := 7) rfl rfl rfl rfl (cov_of ?_ ?_ ?_)⟩
    · unfold ofStep; rw [if_neg hk, hx]; exact hP
    · cbv; subst hA; repeat' first | apply And.intro | exact True.intro | exact congrArg (fun x => DV.v (.int .i64 x)) (up64 hlt' hnL) | rfl
    · cbv; try (subst hA; repeat' first | apply And.intro | exact True.intro | rfl | (intro _ _; rfl))
    · cbv; try (subst hA; repeat' first | apply And.intro | exact True.intro | rfl | exact .inr trivial | exact .inl trivial)
  · rename_i hlt hk hp
    have hlt' : i < n := by first | exact lt2_of hA hlt | exact lt_of hA hlt
    have hk : ¬ (g i).kind = 3 := by subst hA; exact of_decide_eq_false hk
    have hx : ofAgg piece T (g i) = (g i).agg := by
      have hp2 : b = true → piece = false := by subst hA; simpa [real] using hp
      unfold ofAgg
      by_cases hq : piece = true
      · have hb2 : b = false := by
          cases b with
          | false => rfl
          | true => rw [hp2 rfl] at hq; cases hq
        rw [if_pos hq]
        have hn : tFind (g i).key (g i).win T = none := by
          cases hf : tFind (g i).key (g i).win T with
          | none => rfl
          | some x => rw [hf] at hb; rw [hb2] at hb; cases hb
        rw [hn]; rfl
      · rw [if_neg hq]
    rw [hx] at cP hP
    refine call_of2 hA hM _ cP (by (subst hA; first | rfl | (simp only [sub0r]; try rfl))) ?_
    cbv
    repeat' first
      | apply And.intro
      | exact True.intro
      | with_reducible rfl
      | exact same_of hA rfl
      | refine br_of hA (fun _ => ?_) (fun _ => ?_)
      | exact imp_of hA id
      | (refine imp_of hA ?_; subst hA; simp only [real, Bool.true_and]; exact id)
      | (refine ind_of hA ?_; decide +kernel)
      | exact flat_tab hA _ _
    refine ⟨⟨(i + 1, np, Gp), hnext hlt' _ _ ?_⟩, by simp only; omega, cov_rel 320 2 (k := 5) (l := 3264) (sz := 7) rfl rfl rfl rfl (cov_of ?_ ?_ ?_)⟩
    · unfold ofStep; rw [if_neg hk, hx]; exact hP
    · cbv; subst hA; repeat' first | apply And.intro | exact True.intro | exact congrArg (fun x => DV.v (.int .i64 x)) (up64 hlt' hnL) | rfl
    · cbv; try (subst hA; repeat' first | apply And.intro | exact True.intro | rfl | (intro _ _; rfl))
    · cbv; try (subst hA; repeat' first | apply And.intro | exact True.intro | rfl | exact .inr trivial | exact .inl trivial)
  · rename_i hge
    have hin : i = n := by first | (have := ge2_of hA hge; omega) | (have := ge_of hA hge; omega)
    subst hin
    rw [lst_all hl] at hTe
    rw [hTe] at hT
    have hcc : c = n0 := hT.1.trans h0.1.symm
    subst hcc
    refine stop_of hA ⟨[(5, .c (.own 320 0 c 1))], [(320, 1, .arr 7 c fun i => eTab (G0 i))]⟩ (cov_of ?_ ?_ ?_) ?_
    · cbv
    · cbv
      exact ⟨fun q hq => congrArg eTab ((hT.2 q hq).trans (h0.2 q hq).symm), trivial⟩
    · cbv
    · cbv
      repeat' first
        | apply And.intro
        | exact True.intro
        | with_reducible rfl
        | exact same_of hA rfl
        | refine br_of hA (fun _ => ?_) (fun _ => ?_)
        | exact imp_of hA id
        | (refine imp_of hA ?_; subst hA; simp only [real, Bool.true_and]; exact id)
        | (refine ind_of hA ?_; decide +kernel)
def st_sOf (n : Nat) (g : Nat → PaneT) (piece : Bool) (i c : Nat) (G : Nat → TabT) : St := ⟨[(6, .c (.d (eI i))), (0, .c (.d (.sl 9 n fun i => ePane (g i)))), (5, .c (.own 320 0 c 1)), (1, .c (.d (eB piece)))], [(320, 1, .arr 7 c fun k => eTab (G k))]⟩
theorem c_sOf (l : List PaneT) (n : Nat) (g : Nat → PaneT) (hl : Lst zPane l n g) (hn : n ≤ 1080000) (piece : Bool) (n0 : Nat) (G0 : Nat → TabT) (h0 : Lst zTab (ofL piece l) n0 G0) : Meets Try.prog 51 [.c (.d (.sl 9 n fun i => ePane (g i))), .c (.d (eB piece))] ⟨.one (.c (.own 7 n0 fun i => eTab (G0 i))), [none, none]⟩ := by
  have hnL : n ≤ maxLen := Nat.le_trans hn (by decide)
  refine meets_of (H := [13]) (EX := EXA) ttok mixed Try.func51 rfl (by kernel_rfl) (by decide) ?_
  generalize hA : real = A
  generalize hM : Meets Try.prog = M
  cbv
  repeat' first
    | apply And.intro
    | exact True.intro
    | with_reducible rfl
    | exact same_of hA rfl
    | refine br_of hA (fun _ => ?_) (fun _ => ?_)
    | exact imp_of hA id
    | (refine imp_of hA ?_; subst hA; simp only [real, Bool.true_and]; exact id)
    | (refine ind_of hA ?_; decide +kernel)
  refine loop_of hA (α := { q : Nat × Nat × (Nat → TabT) // q.1 ≤ n ∧ Lst zTab (ofL piece (l.take q.1)) q.2.1 q.2.2 }) (fun y => st_sOf n g piece y.1.1 y.1.2.1 y.1.2.2) (fun y => n - y.1.1) ⟨(0, 0, fun _ => zTab), Nat.zero_le _, rfl, fun k h => absurd h (Nat.not_lt_zero k)⟩ ?_ ?_
  · refine cov_rel 320 1 (k := 5) (l := 704) (sz := 7) rfl rfl rfl rfl (cov_of ?_ ?_ ?_)
    · cbv; try (subst hA; repeat' first | apply And.intro | exact True.intro | rfl | fail)
    · cbv; try (subst hA; repeat' first | apply And.intro | exact True.intro | rfl | (intro _ _; rfl) | (intro k hk; exact absurd hk (Nat.not_lt_zero k)) | fail)
    · cbv; try (subst hA; repeat' first | apply And.intro | exact True.intro | rfl | exact .inr trivial | exact .inl trivial)
  rintro ⟨⟨i, c, G⟩, hi, hT⟩
  have hi : i ≤ n := hi
  obtain ⟨T, hTe⟩ : ∃ T, T = ofL piece (l.take i) := ⟨_, rfl⟩
  have hT : Lst zTab T c G := by rw [hTe]; exact hT
  have hci : c ≤ i := by
    rw [hT.1, hTe]
    have h1 := ofL_len piece (l.take i)
    rw [List.length_take] at h1
    omega
  obtain ⟨no, Go, hO⟩ := lst_ex zTab (tOut (g i).key (g i).win T)
  obtain ⟨np, Gp, hP⟩ := lst_ex zTab (tPut ⟨(g i).key, (g i).win, ofAgg piece T (g i)⟩ T)
  obtain ⟨a, ha⟩ : ∃ a, a = (tFind (g i).key (g i).win T).getD zAgg := ⟨_, rfl⟩
  obtain ⟨b, hb⟩ : ∃ b, b = (tFind (g i).key (g i).win T).isSome := ⟨_, rfl⟩
  obtain ⟨ag, hag⟩ : ∃ x, x = aggB a (g i).agg := ⟨_, rfl⟩
  have cO := c_sOut T c G hT (by omega) (g i).key (g i).win no Go hO
  have cF := c_sFind T c G hT (by omega) (g i).key (g i).win a ha b hb
  have cB := c_sAggBoth a (g i).agg ag hag
  have cP := c_sPut T c G hT (by omega) _ np Gp hP
  have hnext : i < n → ∀ m H, Lst zTab (ofStep piece T (g i)) m H → i + 1 ≤ n ∧ Lst zTab (ofL piece (l.take (i + 1))) m H := fun h m H hH => ⟨h, by rw [lst_take hl h, ofL_snoc, ← hTe]; exact hH⟩
  cbv
  repeat' first
    | apply And.intro
    | exact True.intro
    | with_reducible rfl
    | exact same_of hA rfl
    | refine br_of hA (fun _ => ?_) (fun _ => ?_)
    | exact imp_of hA id
    | (refine imp_of hA ?_; subst hA; simp only [real, Bool.true_and]; exact id)
    | (refine ind_of hA ?_; decide +kernel)
    | (refine inb_lt hA ?_; first | exact lt2_of hA (by assumption) | exact lt_of hA (by assumption))
    | exact flat_tab hA _ _
    | (refine call_of2 hA hM _ cO (by (subst hA; first | rfl | (simp only [sub0r]; try rfl))) ?_; cbv)
    | (refine call_of2 hA hM _ cF (by (subst hA; first | rfl | (simp only [sub0r]; try rfl))) ?_; cbv)
    | (refine call_of2 hA hM _ cB (by (subst hA; first | rfl | (simp only [sub0r]; try rfl))) ?_; cbv)
  · rename_i hlt hk
    have hlt' : i < n := by first | exact lt2_of hA hlt | exact lt_of hA hlt
    have hk : (g i).kind = 3 := by subst hA; exact of_decide_eq_true hk
    refine ⟨⟨(i + 1, no, Go), hnext hlt' _ _ ?_⟩, by simp only; omega, cov_rel 320 2 (k := 5) (l := 1920) (sz := 7) rfl rfl rfl rfl (cov_of ?_ ?_ ?_)⟩
    · unfold ofStep; rw [if_pos hk]; exact hO
    · cbv; subst hA; repeat' first | apply And.intro | exact True.intro | exact congrArg (fun x => DV.v (.int .i64 x)) (up64 hlt' hnL) | rfl
    · cbv; try (subst hA; repeat' first | apply And.intro | exact True.intro | rfl | (intro _ _; rfl))
    · cbv; try (subst hA; repeat' first | apply And.intro | exact True.intro | rfl | exact .inr trivial | exact .inl trivial)
  · rename_i hlt hk hp
    have hlt' : i < n := by first | exact lt2_of hA hlt | exact lt_of hA hlt
    have hk : ¬ (g i).kind = 3 := by subst hA; exact of_decide_eq_false hk
    have hx : ofAgg piece T (g i) = ag := by
      unfold ofAgg; rw [if_pos hp, hag, ha]
    rw [hx] at cP hP
    refine call_of2 hA hM _ cP (by (subst hA; first | rfl | (simp only [sub0r]; try rfl))) ?_
    cbv
    repeat' first
      | apply And.intro
      | exact True.intro
      | with_reducible rfl
      | exact same_of hA rfl
      | refine br_of hA (fun _ => ?_) (fun _ => ?_)
      | exact imp_of hA id
      | (refine imp_of hA ?_; subst hA; simp only [real, Bool.true_and]; exact id)
      | (refine ind_of hA ?_; decide +kernel)
      | exact flat_tab hA _ _
    refine ⟨⟨(i + 1, np, Gp), hnext hlt' _ _ ?_⟩, by simp only; omega, cov_rel 320 2 (k := 5) (l := 3392) (sz := 7) rfl rfl rfl rfl (cov_of ?_ ?_ ?_)⟩
    · unfold ofStep; rw [if_neg hk, hx]; exact hP
    · cbv; subst hA; repeat' first | apply And.intro | exact True.intro | exact congrArg (fun x => DV.v (.int .i64 x)) (up64 hlt' hnL) | rfl
    · cbv; try (subst hA; repeat' first | apply And.intro | exact True.intro | rfl | (intro _ _; rfl))
    · cbv; try (subst hA; repeat' first | apply And.intro | exact True.intro | rfl | exact .inr trivial | exact .inl trivial)
  · rename_i hlt hk hp
    have hlt' : i < n := by first | exact lt2_of hA hlt | exact lt_of hA hlt
    have hk : ¬ (g i).kind = 3 := by subst hA; exact of_decide_eq_false hk
    have hx : ofAgg piece T (g i) = (g i).agg := by
      unfold ofAgg; rw [if_neg (by rw [hp]; simp)]
    rw [hx] at cP hP
    refine call_of2 hA hM _ cP (by (subst hA; first | rfl | (simp only [sub0r]; try rfl))) ?_
    cbv
    repeat' first
      | apply And.intro
      | exact True.intro
      | with_reducible rfl
      | exact same_of hA rfl
      | refine br_of hA (fun _ => ?_) (fun _ => ?_)
      | exact imp_of hA id
      | (refine imp_of hA ?_; subst hA; simp only [real, Bool.true_and]; exact id)
      | (refine ind_of hA ?_; decide +kernel)
      | exact flat_tab hA _ _
    refine ⟨⟨(i + 1, np, Gp), hnext hlt' _ _ ?_⟩, by simp only; omega, cov_rel 320 2 (k := 5) (l := 3392) (sz := 7) rfl rfl rfl rfl (cov_of ?_ ?_ ?_)⟩
    · unfold ofStep; rw [if_neg hk, hx]; exact hP
    · cbv; subst hA; repeat' first | apply And.intro | exact True.intro | exact congrArg (fun x => DV.v (.int .i64 x)) (up64 hlt' hnL) | rfl
    · cbv; try (subst hA; repeat' first | apply And.intro | exact True.intro | rfl | (intro _ _; rfl))
    · cbv; try (subst hA; repeat' first | apply And.intro | exact True.intro | rfl | exact .inr trivial | exact .inl trivial)
  · rename_i hge
    have hin : i = n := by first | (have := ge2_of hA hge; omega) | (have := ge_of hA hge; omega)
    subst hin
    rw [lst_all hl] at hTe
    rw [hTe] at hT
    have hcc : c = n0 := hT.1.trans h0.1.symm
    subst hcc
    refine stop_of hA ⟨[(5, .c (.own 320 0 c 1))], [(320, 1, .arr 7 c fun i => eTab (G0 i))]⟩ (cov_of ?_ ?_ ?_) ?_
    · cbv
    · cbv
      exact ⟨fun q hq => congrArg eTab ((hT.2 q hq).trans (h0.2 q hq).symm), trivial⟩
    · cbv
    · cbv
      repeat' first
        | apply And.intro
        | exact True.intro
        | with_reducible rfl
        | exact same_of hA rfl
        | refine br_of hA (fun _ => ?_) (fun _ => ?_)
        | exact imp_of hA id
        | (refine imp_of hA ?_; subst hA; simp only [real, Bool.true_and]; exact id)
        | (refine ind_of hA ?_; decide +kernel)
end Go.Rk
/- Tables of records: what holds of them at every step. -/
namespace Go.Rk
set_option linter.unusedSimpArgs false
set_option linter.unusedVariables false
def spcT (kind : Int) (P : List LatT) : List TabT := P.foldl (stepS kind) []
theorem fine_left {P Q : List LatT} (h : Fine (P ++ Q)) : Fine P := ⟨by have := h.1; rw [List.length_append] at this; omega, fun x hx => h.2 x (List.mem_append_left _ hx)⟩
theorem foldS_inv : ∀ (P P0 : List LatT) (T : List TabT), InvS P0 T → Fine (P0 ++ P) → InvS (P0 ++ P) (P.foldl (stepS 3) T) ∧ tCnt (P.foldl (stepS 3) T) = tCnt T + P.length ∧ P.foldl (stepI 3) T = P.foldl (stepS 3) T
  | [], P0, T, h, _ => ⟨by simpa using h, by simp, rfl⟩
  | l :: P, P0, T, h, hf => by
    have e : P0 ++ l :: P = (P0 ++ [l]) ++ P := by simp
    rw [e] at hf ⊢
    obtain ⟨h1, h2, h3⟩ := invS_step h (fine_left hf)
    obtain ⟨g1, g2, g3⟩ := foldS_inv P (P0 ++ [l]) (sessS l.itm.key l.win l.itm.v T) h1 hf
    refine ⟨g1, ?_, ?_⟩
    · rw [List.length_cons, List.foldl_cons]
      show tCnt (P.foldl (stepS 3) (sessS l.itm.key l.win l.itm.v T)) = _
      omega
    · show P.foldl (stepI 3) (sessI l.itm.key l.win l.itm.v T) = P.foldl (stepS 3) (sessS l.itm.key l.win l.itm.v T)
      rw [h3]; exact g3
theorem foldW_inv {kind : Int} (hk : kind ≠ 3) : ∀ (P P0 : List LatT) (T : List TabT), InvW P0 T → Fine (P0 ++ P) → InvW (P0 ++ P) (P.foldl (stepS kind) T) ∧ tCnt (P.foldl (stepS kind) T) = tCnt T + P.length
  | [], P0, T, h, _ => ⟨by simpa using h, by simp⟩
  | l :: P, P0, T, h, hf => by
    have e : P0 ++ l :: P = (P0 ++ [l]) ++ P := by simp
    rw [e] at hf ⊢
    obtain ⟨h1, h2⟩ := invW_step h (fine_left hf)
    have es : stepS kind T l = stepW l.itm.key l.win l.itm.v T := if_neg hk
    rw [List.foldl_cons, es]
    obtain ⟨g1, g2⟩ := foldW_inv hk P (P0 ++ [l]) (stepW l.itm.key l.win l.itm.v T) h1 hf
    exact ⟨g1, by rw [List.length_cons]; omega⟩
theorem foldI_eq {kind : Int} {P : List LatT} (hf : Fine P) : P.foldl (stepI kind) [] = spcT kind P := by
  by_cases hk : kind = 3
  · subst hk
    exact (foldS_inv P [] [] ⟨List.Pairwise.nil, fun r h => (by simp at h), fun l h => (by simp at h)⟩ hf).2.2
  · have : stepI kind = stepS kind := by funext T l; unfold stepI stepS; rw [if_neg hk, if_neg hk]
    unfold spcT; rw [this]
theorem spcT_S {P : List LatT} (hf : Fine P) : InvS P (spcT 3 P) := (foldS_inv P [] [] ⟨List.Pairwise.nil, fun r h => (by simp at h), fun l h => (by simp at h)⟩ hf).1
theorem spcT_W {kind : Int} (hk : kind ≠ 3) {P : List LatT} (hf : Fine P) : InvW P (spcT kind P) := (foldW_inv hk P [] [] ⟨List.Pairwise.nil, fun r h => (by simp at h), fun l h => (by simp at h)⟩ hf).1
theorem spcT_rise {kind : Int} {P : List LatT} (hf : Fine P) : Rise (spcT kind P) := by
  by_cases hk : kind = 3
  · subst hk; exact (spcT_S hf).rise
  · exact (spcT_W hk hf).rise
theorem spcT_cnt {kind : Int} {P : List LatT} (hf : Fine P) : tCnt (spcT kind P) = P.length := by
  by_cases hk : kind = 3
  · subst hk
    have := (foldS_inv P [] [] ⟨List.Pairwise.nil, fun r h => (by simp at h), fun l h => (by simp at h)⟩ hf).2.1
    simpa [spcT, tCnt] using this
  · have := (foldW_inv hk P [] [] ⟨List.Pairwise.nil, fun r h => (by simp at h), fun l h => (by simp at h)⟩ hf).2
    simpa [spcT, tCnt] using this
theorem spcT_perm {kind : Int} {P P' : List LatT} (hf : Fine P) (hp : P.Perm P') : spcT kind P = spcT kind P' := by
  have hf' : Fine P' := ⟨by rw [← hp.length_eq]; exact hf.1, fun l hl => hf.2 l (hp.mem_iff.2 hl)⟩
  by_cases hk : kind = 3
  · subst hk; exact invS_uniq (fun l hl => (hf.2 l hl).1) (spcT_S hf) (spcT_S hf') hp
  · exact invW_uniq (spcT_W hk hf) (spcT_W hk hf') hp
theorem stepS_len (kind : Int) (T : List TabT) (l : LatT) : (stepS kind T l).length ≤ T.length + 1 := by
  unfold stepS
  split
  · exact Nat.le_trans (tPut_len _ _) (Nat.succ_le_succ (List.length_filter_le _ _))
  · exact tPut_len _ _
theorem stepI_len (kind : Int) (T : List TabT) (l : LatT) : (stepI kind T l).length ≤ T.length + 1 := by
  unfold stepI
  split
  · exact Nat.le_trans (tPut_len _ _) (Nat.succ_le_succ (List.length_filter_le _ _))
  · exact tPut_len _ _
theorem fold_len {f : List TabT → LatT → List TabT} (h : ∀ T l, (f T l).length ≤ T.length + 1) : ∀ (P : List LatT) (T : List TabT), (P.foldl f T).length ≤ T.length + P.length
  | [], T => Nat.le_refl _
  | l :: P, T => by
    have h1 := fold_len h P (f T l)
    have h2 := h T l
    rw [List.foldl_cons, List.length_cons]; omega
theorem fold_snoc (f : List TabT → LatT → List TabT) (P : List LatT) (l : LatT) (T : List TabT) : (P ++ [l]).foldl f T = f (P.foldl f T) l := by rw [List.foldl_append]; rfl
/-! ## Pairs -/
theorem mem_slideF {size step t : Int} {w : WinT} : ∀ (k : Nat) (f : Int), w ∈ slideF size step t k f → w.s ≤ t ∧ t < w.s + size ∧ w.e = w.s + size ∧ ∃ i : Nat, w.s = f + step * (i : Int)
  | 0, f, h => by simp [slideF] at h
  | k + 1, f, h => by
    unfold slideF at h
    split at h
    · rcases List.mem_append.1 h with h | h
      · split at h
        · simp at h; subst h; exact ⟨by assumption, by assumption, rfl, 0, by simp⟩
        · simp at h
      · obtain ⟨h1, h2, h3, i, h4⟩ := mem_slideF k (f + step) h
        exact ⟨h1, h2, h3, i + 1, by rw [h4]; push_cast; rw [Int.mul_add]; omega⟩
    · simp at h
theorem winsL_mem {j : JobT} {t : Int} {w : WinT} (h : w ∈ winsL j t) : w.s ≤ t ∧ t < w.s + j.size ∧ w.e = w.s + j.size ∧ ∃ i : Nat, w.s = winFrom j t + winStep j * (i : Int) := mem_slideF _ _ h
theorem mem_pairsL {j : JobT} {g : Nat → ItmT} {l : LatT} : ∀ {m : Nat}, l ∈ pairsL j g m ↔ ∃ i, i < m ∧ l.itm = g i ∧ l.win ∈ winsL j (g i).t
  | 0 => by simp [pairsL]
  | m + 1 => by
    unfold pairsL
    rw [List.mem_append, mem_pairsL (m := m), List.mem_map]
    constructor
    · rintro (⟨i, h1, h2⟩ | ⟨w, h1, rfl⟩)
      · exact ⟨i, by omega, h2⟩
      · exact ⟨m, by omega, rfl, h1⟩
    · rintro ⟨i, h1, h2, h3⟩
      rcases Nat.lt_succ_iff_lt_or_eq.1 h1 with h1 | rfl
      · exact .inl ⟨i, h1, h2, h3⟩
      · refine .inr ⟨l.win, h3, ?_⟩
        rw [← h2]
theorem recP_v {x : ItmT} (h : RecP x) : -9 ≤ x.v ∧ x.v ≤ 9 := by
  obtain ⟨h1, h2⟩ := h
  unfold ItmOkP at h2
  omega
theorem fine_pairs {j : JobT} {m : Nat} {g : Nat → ItmT} (h : SpcOkP j m g) : Fine (pairsL j g m) := by
  refine ⟨Nat.le_trans (pairsL_len j g m) (by have := h.2.1; omega), fun l hl => ?_⟩
  obtain ⟨i, hi, e, hw⟩ := mem_pairsL.1 hl
  have h1 := winsL_mem hw
  have h2 := h.1.2.2.2.1
  refine ⟨by omega, ?_⟩
  rw [e]
  exact recP_v (h.2.2 i hi)
theorem fine_spc (j : JobT) (m : Nat) (g : Nat → ItmT) : Fine (spcL j m g) := by
  unfold spcL
  split
  · exact fine_pairs (by assumption)
  · exact ⟨by simp, fun l hl => by simp at hl⟩
theorem spcL_len (j : JobT) (m : Nat) (g : Nat → ItmT) : (spcL j m g).length ≤ 12000 := by
  unfold spcL
  split
  · rename_i h
    exact Nat.le_trans (pairsL_len j g m) (by have := h.2.1; omega)
  · simp
/-! ## Rows taken out, one by one -/
theorem outs_step {T T2 : List TabT} {p : TabT → Bool} {s : TabT} (h : T2 = T.filter p) : tOut s.key s.win T2 = T.filter fun r => p r && !decide (IsRow s.key s.win r) := by
  rw [tOut_filter, h, List.filter_filter]
  refine congrArg (fun f => T.filter f) (funext fun r => ?_)
  rw [Bool.and_comm]
theorem outs_all {k : Int} {w : WinT} {T : List TabT} : (T.filter fun r => !(T.any fun s => tchD k w s && decide (IsRow s.key s.win r))) = T.filter fun r => !tchD k w r := by
  refine List.filter_congr fun r hr => ?_
  refine congrArg (!·) (Bool.eq_iff_iff.2 ?_)
  rw [List.any_eq_true]
  constructor
  · rintro ⟨s, _, h⟩
    rw [Bool.and_eq_true, decide_eq_true_eq] at h
    obtain ⟨h1, h2⟩ := h
    unfold tchD at *
    rw [decide_eq_true_eq] at *
    unfold IsRow at h2
    omega
  · intro h
    exact ⟨r, hr, by rw [h]; simp [IsRow]⟩
end Go.Rk
/- Sessions, and tables of records: sess. -/
namespace Go.Rk
set_option linter.unusedSimpArgs false
set_option linter.unusedVariables false
open Go.Proofs
set_option maxRecDepth 100000
set_option maxHeartbeats 1000000
def st_l6s (n : Nat) (g : Nat → TabT) (x : ItmT) (w : WinT) (i c : Nat) (row : Nat → TabT) (a : AggT) (sp : WinT) : St := ⟨[(10, .c (.d (eI i))), (0, .c (.d (.sl 7 n fun i => eTab (g i)))), (8, .c (.own 960 0 c 1)), (4, .c (.bp 256 1 0)), (5, .c (.bp 320 1 0)), (7, .c (.bp 448 1 0)), (9, .c (.bp 576 1 0))], [(256, 1, .box ((eItm x).map .d)), (320, 1, .box ((eWin w).map .d)), (448, 1, .box ((eAgg a).map .d)), (576, 1, .box ((eWin sp).map .d)), (960, 1, .arr 7 c fun k => eTab (row k))]⟩
theorem c_l6Sess (T : List TabT) (n : Nat) (g : Nat → TabT) (hT : Lst zTab T n g) (hn : n ≤ 1080000) (x : ItmT) (w : WinT) (n0 : Nat) (G0 : Nat → TabT) (h0 : Lst zTab (sessS x.key w x.v T) n0 G0) : Meets Try.prog 104 [.c (.d (.sl 7 n fun i => eTab (g i))), xd (eItm x), xd (eWin w)] ⟨.one (.c (.own 7 n0 fun i => eTab (G0 i))), [none, none, none]⟩ := by
  have hnL : n ≤ maxLen := Nat.le_trans hn (by decide)
  obtain ⟨a1, ha1⟩ : ∃ a, a = aggAdd zAgg x.v := ⟨_, rfl⟩
  have cA := c_sAggAdd zAgg x.v a1 ha1
  refine meets_of (H := [11]) (EX := EXA) ttok mixed Try.func104 rfl (by kernel_rfl) (by decide) ?_
  generalize hA : real = A
  generalize hM : Meets Try.prog = M
  cbv
  repeat' first
    | apply And.intro
    | exact True.intro
    | with_reducible rfl
    | exact same_of hA rfl
    | refine br_of hA (fun _ => ?_) (fun _ => ?_)
    | exact imp_of hA id
    | (refine imp_of hA ?_; subst hA; simp only [real, Bool.true_and]; exact id)
    | (refine ind_of hA ?_; decide +kernel)
    | (refine call_of hA hM _ cA ?_; cbv)
  refine loop_of hA (α := { q : Nat × Nat × (Nat → TabT) × AggT × WinT // q.1 ≤ n ∧ Lst zTab ((T.take q.1).filter fun r => !tchD x.key w r) q.2.1 q.2.2.1 ∧ q.2.2.2.1 = (((T.take q.1).filter (tchD x.key w)).map (·.agg)).foldl aggB (agg1 x.v) ∧ q.2.2.2.2 = (((T.take q.1).filter (tchD x.key w)).map (·.win)).foldl winSpan w }) (fun y => st_l6s n g x w y.1.1 y.1.2.1 y.1.2.2.1 y.1.2.2.2.1 y.1.2.2.2.2) (fun y => n - y.1.1) ⟨(0, 0, (fun _ => zTab), a1, w), Nat.zero_le _, ⟨rfl, fun k h => absurd h (Nat.not_lt_zero k)⟩, by rw [ha1]; rfl, rfl⟩ ?_ ?_
  · refine cov_of ?_ ?_ ?_
    · cbv; try (subst hA; repeat' first | apply And.intro | exact True.intro | rfl | fail)
    · cbv; try (subst hA; repeat' first | apply And.intro | exact True.intro | rfl | (intro _ _; rfl) | (intro k hk; exact absurd hk (Nat.not_lt_zero k)) | fail)
    · cbv; try (subst hA; repeat' first | apply And.intro | exact True.intro | rfl | exact .inr trivial | exact .inl trivial)
  rintro ⟨⟨i, c, G, a, sp⟩, hi, hG, ha, hsp⟩
  have hi : i ≤ n := hi
  have hG : Lst zTab ((T.take i).filter fun r => !tchD x.key w r) c G := hG
  have ha : a = (((T.take i).filter (tchD x.key w)).map (·.agg)).foldl aggB (agg1 x.v) := ha
  have hsp : sp = (((T.take i).filter (tchD x.key w)).map (·.win)).foldl winSpan w := hsp
  have hci : c ≤ i := by
    rw [hG.1]
    exact Nat.le_trans (List.length_filter_le _ _) (by rw [List.length_take]; omega)
  obtain ⟨a', ha'⟩ : ∃ z, z = aggB a (g i).agg := ⟨_, rfl⟩
  obtain ⟨sp', hsp'⟩ : ∃ z, z = winSpan sp (g i).win := ⟨_, rfl⟩
  have cB := c_sAggBoth a (g i).agg a' ha'
  have cS := c_sWinSpan sp (g i).win sp' hsp'
  cbv
  repeat' first
    | apply And.intro
    | exact True.intro
    | with_reducible rfl
    | exact same_of hA rfl
    | refine br_of hA (fun _ => ?_) (fun _ => ?_)
    | exact imp_of hA id
    | (refine imp_of hA ?_; subst hA; simp only [real, Bool.true_and]; exact id)
    | (refine ind_of hA ?_; decide +kernel)
    | (refine call_ex hA hM (c_sWinTouch _ _ _ _) (fun _ _ => ?_); cbv)
    | (refine inb_lt hA ?_; first | exact lt2_of hA (by assumption) | exact lt_of hA (by assumption))
    | exact flat_tab hA _ _
    | (refine call_of2 hA hM _ cB (by (subst hA; first | rfl | (simp only [sub0r]; try rfl))) ?_; cbv)
    | (refine call_of2 hA hM _ cS (by (subst hA; first | rfl | (simp only [sub0r]; try rfl))) ?_; cbv)
    | exact room_add2 hA (by omega) (by decide)
  · rename_i hlt b hb hc
    have hlt' : i < n := by first | exact lt2_of hA hlt | exact lt_of hA hlt
    have hb : b = decide ((g i).win.s < w.e ∧ w.s < (g i).win.e) := by subst hA; exact hb
    have ht : tchD x.key w (g i) = true := by
      subst hA
      have hc : (bif (g i).key == x.key then b else false) = true := hc
      rw [bifA, Bool.and_eq_true, hb, decide_eq_true_eq] at hc
      exact decide_eq_true ⟨eq_of_beq hc.1, hc.2⟩
    refine ⟨⟨(i + 1, c, G, a', sp'), hlt', ?_, ?_, ?_⟩, by simp only; omega, cov_of ?_ ?_ ?_⟩
    · simp only
      rw [lst_take hT hlt', List.filter_append]
      have e : ([g i].filter fun r => !tchD x.key w r) = [] := by simp [ht]
      rw [e, List.append_nil]; exact hG
    · simp only
      rw [lst_take hT hlt', List.filter_append]
      have e : [g i].filter (tchD x.key w) = [g i] := by simp [ht]
      rw [e, List.map_append, List.foldl_append, ← ha, ha']; rfl
    · simp only
      rw [lst_take hT hlt', List.filter_append]
      have e : [g i].filter (tchD x.key w) = [g i] := by simp [ht]
      rw [e, List.map_append, List.foldl_append, ← hsp, hsp']; rfl
    · cbv; subst hA; repeat' first | apply And.intro | exact True.intro | exact congrArg (fun x => DV.v (.int .i64 x)) (up64 hlt' hnL) | rfl
    · cbv; try (subst hA; repeat' first | apply And.intro | exact True.intro | rfl | (intro _ _; rfl))
    · cbv; try (subst hA; repeat' first | apply And.intro | exact True.intro | rfl | exact .inr trivial | exact .inl trivial)
  · rename_i hlt b hb hc
    have hlt' : i < n := by first | exact lt2_of hA hlt | exact lt_of hA hlt
    have hb : b = decide ((g i).win.s < w.e ∧ w.s < (g i).win.e) := by subst hA; exact hb
    have ht : tchD x.key w (g i) = false := by
      subst hA
      have hc : (bif (g i).key == x.key then b else false) = false := hc
      rw [bifA] at hc
      refine decide_eq_false fun e => ?_
      have h1 : ((g i).key == x.key) = true := beq_iff_eq.2 e.1
      have h2 : b = true := by rw [hb]; exact decide_eq_true e.2
      rw [h1, h2] at hc; cases hc
    refine ⟨⟨(i + 1, c + 1, (fun q => if q < c then G q else g i), a, sp), hlt', ?_, ?_, ?_⟩, by simp only; omega, cov_of ?_ ?_ ?_⟩
    · simp only
      rw [lst_take hT hlt', List.filter_append]
      have e : ([g i].filter fun r => !tchD x.key w r) = [g i] := by simp [ht]
      rw [e]; exact lst_snoc hG
    · simp only
      rw [lst_take hT hlt', List.filter_append]
      have e : [g i].filter (tchD x.key w) = [] := by simp [ht]
      rw [e, List.append_nil]; exact ha
    · simp only
      rw [lst_take hT hlt', List.filter_append]
      have e : [g i].filter (tchD x.key w) = [] := by simp [ht]
      rw [e, List.append_nil]; exact hsp
    · cbv; subst hA; repeat' first | apply And.intro | exact True.intro | exact congrArg (fun x => DV.v (.int .i64 x)) (up64 hlt' hnL) | rfl
    · cbv
      subst hA
      repeat' first | apply And.intro | exact True.intro | rfl | (intro _ _; rfl) | (intro q hq; exact push_if eTab rfl c G _ _ q hq)
    · cbv; try (subst hA; repeat' first | apply And.intro | exact True.intro | rfl | exact .inr trivial | exact .inl trivial)
  · rename_i hge
    have hin : i = n := by first | (have := ge2_of hA hge; omega) | (have := ge_of hA hge; omega)
    subst hin
    rw [lst_all hT] at hG ha hsp
    have cP := c_sPut _ c G hG (by omega) ⟨x.key, sp, a⟩ n0 G0 (by rw [hsp, ha]; exact h0)
    refine stop_of hA ⟨[(8, .c (.own 960 0 c 1)), (4, .c (.bp 256 1 0)), (7, .c (.bp 448 1 0)), (9, .c (.bp 576 1 0))], [(256, 1, .box ((eItm x).map .d)), (448, 1, .box ((eAgg a).map .d)), (576, 1, .box ((eWin sp).map .d)), (960, 1, .arr 7 c fun k => eTab (G k))]⟩ (cov_of ?_ ?_ ?_) ?_
    · cbv; try (subst hA; repeat' first | apply And.intro | exact True.intro | rfl | (intro _ _; rfl))
    · cbv; try (subst hA; repeat' first | apply And.intro | exact True.intro | rfl | (intro _ _; rfl) | (intro k hk; exact absurd hk (Nat.not_lt_zero k)) | (intro _ _; rfl))
    · cbv; try (subst hA; repeat' first | apply And.intro | exact True.intro | rfl | exact .inr trivial | exact .inl trivial)
    cbv
    repeat' first
      | apply And.intro
      | exact True.intro
      | with_reducible rfl
      | exact same_of hA rfl
      | refine br_of hA (fun _ => ?_) (fun _ => ?_)
      | exact imp_of hA id
      | (refine imp_of hA ?_; subst hA; simp only [real, Bool.true_and]; exact id)
      | (refine ind_of hA ?_; decide +kernel)
      | (refine call_of2 hA hM _ cP (by (subst hA; first | rfl | (simp only [sub0r]; try rfl))) ?_; cbv)
      | exact flat_tab hA _ _
theorem flat_lat {A : Ar} (hA : real = A) (n : Nat) (G : Nat → LatT) : A.flat n (fun i => eLat (G i)) := by
  subst hA
  intro i _ x hx
  simp only [eLat, List.mem_cons, List.not_mem_nil, or_false] at hx
  rcases hx with rfl | rfl | rfl | rfl | rfl | rfl | rfl <;> exact ⟨_, rfl⟩
end Go.Rk
/- Sessions, and tables of records: spec. -/
namespace Go.Rk
set_option linter.unusedSimpArgs false
set_option linter.unusedVariables false
open Go.Proofs
set_option maxRecDepth 100000
set_option maxHeartbeats 1000000
def st_sSpcT (j : JobT) (n : Nat) (gp : Nat → LatT) (i c : Nat) (G : Nat → TabT) : St := ⟨[(7, .c (.d (eI i))), (6, .c (.d (.sl 7 n fun i => eLat (gp i)))), (5, .c (.own 320 0 c 1)), (2, .c (.bp 128 1 0))], [(128, 1, .box ((eJob j).map .d)), (320, 1, .arr 7 c fun k => eTab (G k))]⟩
theorem c_sSpcT (j : JobT) (m : Nat) (hm : m ≤ maxLen) (g : Nat → ItmT) (n0 : Nat) (G0 : Nat → TabT) (h0 : Lst zTab (spcT j.kind (spcL j m g)) n0 G0) : Meets Try.prog 59 [xd (eJob j), .c (.d (.sl 5 m fun i => eItm (g i)))] ⟨.one (.c (.own 7 n0 fun i => eTab (G0 i))), [none, none]⟩ := by
  obtain ⟨P, hP⟩ : ∃ P, P = spcL j m g := ⟨_, rfl⟩
  have hfi : Fine P := by rw [hP]; exact fine_spc j m g
  have hPl : P.length ≤ 12000 := by rw [hP]; exact spcL_len j m g
  rw [← hP] at h0
  obtain ⟨n, gp, hl⟩ := lst_ex zLat P
  have hn : n ≤ 12000 := by rw [hl.1]; exact hPl
  have hnL : n ≤ maxLen := Nat.le_trans hn (by decide)
  have cPair := meets_frz (c_sSpc j m hm g n gp (by rw [← hP]; exact lst_tells eLat hl)) rfl
  refine meets_of (H := [11]) (EX := EXA) ttok mixed Try.func59 rfl (by kernel_rfl) (by decide) ?_
  generalize hA : real = A
  generalize hM : Meets Try.prog = M
  cbv
  repeat' first
    | apply And.intro
    | exact True.intro
    | with_reducible rfl
    | exact same_of hA rfl
    | refine br_of hA (fun _ => ?_) (fun _ => ?_)
    | exact imp_of hA id
    | (refine imp_of hA ?_; subst hA; simp only [real, Bool.true_and]; exact id)
    | (refine ind_of hA ?_; decide +kernel)
    | (refine call_of hA hM _ cPair ?_; cbv)
    | exact flat_lat hA _ _
  refine loop_of hA (α := { q : Nat × Nat × (Nat → TabT) // q.1 ≤ n ∧ Lst zTab ((P.take q.1).foldl (stepS j.kind) []) q.2.1 q.2.2 }) (fun y => st_sSpcT j n gp y.1.1 y.1.2.1 y.1.2.2) (fun y => n - y.1.1) ⟨(0, 0, fun _ => zTab), Nat.zero_le _, rfl, fun k h => absurd h (Nat.not_lt_zero k)⟩ ?_ ?_
  · refine cov_rel 320 1 (k := 5) (l := 704) (sz := 7) rfl rfl rfl rfl (cov_of ?_ ?_ ?_)
    · cbv; try (subst hA; repeat' first | apply And.intro | exact True.intro | rfl | fail)
    · cbv; try (subst hA; repeat' first | apply And.intro | exact True.intro | rfl | (intro _ _; rfl) | (intro k hk; exact absurd hk (Nat.not_lt_zero k)) | fail)
    · cbv; try (subst hA; repeat' first | apply And.intro | exact True.intro | rfl | exact .inr trivial | exact .inl trivial)
  rintro ⟨⟨i, c, G⟩, hi, hT⟩
  have hi : i ≤ n := hi
  obtain ⟨T, hTe⟩ : ∃ T, T = (P.take i).foldl (stepS j.kind) [] := ⟨_, rfl⟩
  have hT : Lst zTab T c G := by rw [hTe]; exact hT
  have hci : c ≤ i := by
    rw [hT.1, hTe]
    have h1 := fold_len (stepS_len j.kind) (P.take i) []
    rw [List.length_take] at h1
    simp only [List.length_nil] at h1
    omega
  have hnext : i < n → ∀ m H, Lst zTab (stepS j.kind T (gp i)) m H → i + 1 ≤ n ∧ Lst zTab ((P.take (i + 1)).foldl (stepS j.kind) []) m H := fun h m H hH => ⟨h, by rw [lst_take hl h, fold_snoc, ← hTe]; exact hH⟩
  obtain ⟨a, ha⟩ : ∃ a, a = (tFind (gp i).itm.key (gp i).win T).getD zAgg := ⟨_, rfl⟩
  obtain ⟨b, hb⟩ : ∃ b, b = (tFind (gp i).itm.key (gp i).win T).isSome := ⟨_, rfl⟩
  obtain ⟨ag, hag⟩ : ∃ x, x = aggAdd a (gp i).itm.v := ⟨_, rfl⟩
  obtain ⟨np, Gp, hPu⟩ := lst_ex zTab (tPut ⟨(gp i).itm.key, (gp i).win, ag⟩ T)
  obtain ⟨ns, Gs, hS⟩ := lst_ex zTab (sessS (gp i).itm.key (gp i).win (gp i).itm.v T)
  have cF := c_sFind T c G hT (by omega) (gp i).itm.key (gp i).win a ha b hb
  have cA := c_sAggAdd a (gp i).itm.v ag hag
  have cP := c_sPut T c G hT (by omega) _ np Gp hPu
  have cS := c_l6Sess T c G hT (by omega) (gp i).itm (gp i).win ns Gs hS
  cbv
  repeat' first
    | apply And.intro
    | exact True.intro
    | with_reducible rfl
    | exact same_of hA rfl
    | refine br_of hA (fun _ => ?_) (fun _ => ?_)
    | exact imp_of hA id
    | (refine imp_of hA ?_; subst hA; simp only [real, Bool.true_and]; exact id)
    | (refine ind_of hA ?_; decide +kernel)
    | (refine inb_lt hA ?_; first | exact lt2_of hA (by assumption) | exact lt_of hA (by assumption))
    | exact flat_tab hA _ _
    | (refine call_of2 hA hM _ cF (by (subst hA; first | rfl | (simp only [sub0r]; try rfl))) ?_; cbv)
    | (refine call_of2 hA hM _ cA (by (subst hA; first | rfl | (simp only [sub0r]; try rfl))) ?_; cbv)
    | (refine call_of2 hA hM _ cP (by (subst hA; first | rfl | (simp only [sub0r]; try rfl))) ?_; cbv)
    | (refine call_of2 hA hM _ cS (by (subst hA; first | rfl | (simp only [sub0r]; try rfl))) ?_; cbv)
  · rename_i hlt hk
    have hlt' : i < n := by first | exact lt2_of hA hlt | exact lt_of hA hlt
    have hk : j.kind = 3 := by subst hA; exact of_decide_eq_true hk
    refine ⟨⟨(i + 1, ns, Gs), hnext hlt' _ _ ?_⟩, by simp only; omega, cov_rel 320 2 (k := 5) (l := 2304) (sz := 7) rfl rfl rfl rfl (cov_of ?_ ?_ ?_)⟩
    · unfold stepS; rw [if_pos hk]; exact hS
    · cbv; subst hA; repeat' first | apply And.intro | exact True.intro | exact congrArg (fun x => DV.v (.int .i64 x)) (up64 hlt' hnL) | rfl
    · cbv; try (subst hA; repeat' first | apply And.intro | exact True.intro | rfl | (intro _ _; rfl))
    · cbv; try (subst hA; repeat' first | apply And.intro | exact True.intro | rfl | exact .inr trivial | exact .inl trivial)
  · rename_i hlt hk
    have hlt' : i < n := by first | exact lt2_of hA hlt | exact lt_of hA hlt
    have hk : ¬ j.kind = 3 := by subst hA; exact of_decide_eq_false hk
    refine ⟨⟨(i + 1, np, Gp), hnext hlt' _ _ ?_⟩, by simp only; omega, cov_rel 320 2 (k := 5) (l := 3968) (sz := 7) rfl rfl rfl rfl (cov_of ?_ ?_ ?_)⟩
    · unfold stepS stepW; rw [if_neg hk, ← ha, ← hag]; exact hPu
    · cbv; subst hA; repeat' first | apply And.intro | exact True.intro | exact congrArg (fun x => DV.v (.int .i64 x)) (up64 hlt' hnL) | rfl
    · cbv; try (subst hA; repeat' first | apply And.intro | exact True.intro | rfl | (intro _ _; rfl))
    · cbv; try (subst hA; repeat' first | apply And.intro | exact True.intro | rfl | exact .inr trivial | exact .inl trivial)
  · rename_i hge
    have hin : i = n := by first | (have := ge2_of hA hge; omega) | (have := ge_of hA hge; omega)
    subst hin
    rw [lst_all hl] at hTe
    rw [hTe] at hT
    have hcc : c = n0 := hT.1.trans h0.1.symm
    subst hcc
    refine stop_of hA ⟨[(5, .c (.own 320 0 c 1))], [(320, 1, .arr 7 c fun i => eTab (G0 i))]⟩ (cov_of ?_ ?_ ?_) ?_
    · cbv
    · cbv
      exact ⟨fun q hq => congrArg eTab ((hT.2 q hq).trans (h0.2 q hq).symm), trivial⟩
    · cbv
    · cbv
      repeat' first
        | apply And.intro
        | exact True.intro
        | with_reducible rfl
        | exact same_of hA rfl
        | refine br_of hA (fun _ => ?_) (fun _ => ?_)
        | exact imp_of hA id
        | (refine imp_of hA ?_; subst hA; simp only [real, Bool.true_and]; exact id)
        | (refine ind_of hA ?_; decide +kernel)
end Go.Rk
/- Draws. -/
namespace Go.Rk
set_option linter.unusedSimpArgs false
set_option linter.unusedVariables false
open Go.Proofs
set_option maxRecDepth 100000 in
theorem m_pick (m : Nat) (hm : m ≤ 2000) (b : Nat → Int) (hb : ∀ i, 0 ≤ b i ∧ b i ≤ 255) (p : Int) (hp : 0 ≤ p ∧ p ≤ 1000000) (n : Int) (hn : 1 ≤ n ∧ n ≤ 1000000) (x : Int) (hx : x = pickV m b p n) (q : Int) (hq : q = p + 1) : Meets Try.prog 94 [.c (.box [.d (.sl 1 m fun i => [eU (b i)]), .d (eI p)]), .c (.d (eI n))] ⟨.one (.c (.d (eI x))), [some (.box [.d (.sl 1 m fun i => [eU (b i)]), .d (eI q)]), none]⟩ := by
  have w1 : IntKind.i64.wrap (p + 1) = q := by rw [IntWalk.i64_in _ (by omega)]; omega
  have w2 : IntKind.i64.wrap (q - 1) = p := by rw [IntWalk.i64_in _ (by omega)]; omega
  have w7 : IntKind.i64.wrap (p * 7) = p * 7 := IntWalk.i64_in _ (by omega)
  have w73 : IntKind.i64.wrap (p * 7 + 3) = p * 7 + 3 := IntWalk.i64_in _ (by omega)
  have mpos : real.bite (real.cmp .lss n 1) true (real.cmp .eql (real.int m) 0) = false → 1 ≤ m := fun h => by
    have h : (bif decide (n < 1) then true else ((m : Int) == 0)) = false := h
    rw [decide_eq_false (by omega)] at h
    have h : ((m : Int) == 0) = false := h
    have h : ¬ (m : Int) = 0 := by simpa using h
    omega
  refine meets_of (H := []) (EX := EXA) ttok mixed Try.func94 rfl (by kernel_rfl) (by decide) ?_
  generalize hA : real = A
  generalize hM : Meets Try.prog = M
  cbv
  repeat' first
    | apply And.intro
    | exact True.intro
    | with_reducible rfl
    | exact same_of hA rfl
    | refine br_of hA (fun _ => ?_) (fun _ => ?_)
    | exact imp_of hA id
    | (refine imp_of hA ?_; subst hA; simp only [real, Bool.true_and]; exact id)
    | (refine ind_of hA ?_; decide +kernel)
    | (refine nz_of hA ?_; first | (show n ≠ 0; omega) | (show (64 : Int) ≠ 0; decide) | (rename_i h1 h2; subst hA; have h3 := mpos h1; show (m : Int) ≠ 0; omega))
  · rename_i hbad
    subst hA
    have h : (bif decide (n < 1) then true else ((m : Int) == 0)) = true := hbad
    rw [decide_eq_false (by omega)] at h
    have h : ((m : Int) == 0) = true := h
    have h : (m : Int) = 0 := by simpa using h
    refine congrArg (fun z => XA.one (.c (.d (eI z)))) ?_
    rw [hx]; unfold pickV; rw [if_pos (by omega)]
  · rename_i hbad
    subst hA
    exact congrArg (fun z => [some (XV.box [XC.d (DV.sl 1 m fun i => [eU (b i)]), XC.d (eI z)]), none]) w1
  · rename_i hg hlt
    refine inb_of hA fun _ => ?_
    subst hA
    have hlt : decide (IntKind.i64.wrap (IntKind.i64.wrap (p + 1) - 1) < (m : Int)) = true := hlt
    have hlt := of_decide_eq_true hlt
    show 0 ≤ IntKind.i64.wrap (IntKind.i64.wrap (p + 1) - 1) ∧ IntKind.i64.wrap (IntKind.i64.wrap (p + 1) - 1) < (m : Int)
    rw [w1, w2] at hlt ⊢
    exact ⟨hp.1, hlt⟩
  · rename_i hg hlt
    subst hA
    have hlt : decide (IntKind.i64.wrap (IntKind.i64.wrap (p + 1) - 1) < (m : Int)) = true := hlt
    have hlt := of_decide_eq_true hlt
    rw [w1, w2] at hlt
    refine congrArg (fun z => XA.one (.c (.d (eI z)))) ?_
    have h1 := mpos hg
    show (IntKind.i64.wrap (b (IntKind.i64.wrap (IntKind.i64.wrap (p + 1) - 1)).toNat)).tmod n = x
    have hbb := hb p.toNat
    rw [w1, w2, IntWalk.i64_in _ (by omega), hx]
    unfold pickV
    rw [if_neg (by omega), if_pos hlt]
  · rename_i hg hlt
    subst hA
    exact congrArg (fun z => [some (XV.box [XC.d (DV.sl 1 m fun i => [eU (b i)]), XC.d (eI z)]), none]) w1
  · rename_i hg hlt
    refine inb_of hA fun _ => ?_
    subst hA
    have h1 := mpos hg
    show 0 ≤ (IntKind.i64.wrap (IntKind.i64.wrap (p + 1) - 1)).tmod (m : Int) ∧ (IntKind.i64.wrap (IntKind.i64.wrap (p + 1) - 1)).tmod (m : Int) < (m : Int)
    rw [w1, w2]
    exact tmod_in hp.1 (Int.ofNat_le.2 h1)
  · rename_i hg hlt
    refine inb_of hA fun _ => ?_
    subst hA
    have h1 := mpos hg
    show 0 ≤ (IntKind.i64.wrap (IntKind.i64.wrap (IntKind.i64.wrap (IntKind.i64.wrap (p + 1) - 1) * 7) + 3)).tmod (m : Int) ∧ (IntKind.i64.wrap (IntKind.i64.wrap (IntKind.i64.wrap (IntKind.i64.wrap (p + 1) - 1) * 7) + 3)).tmod (m : Int) < (m : Int)
    rw [w1, w2, w7, w73]
    exact tmod_in (by omega) (Int.ofNat_le.2 h1)
  · rename_i hg hlt
    subst hA
    have hlt : decide (IntKind.i64.wrap (IntKind.i64.wrap (p + 1) - 1) < (m : Int)) = false := hlt
    have hlt := of_decide_eq_false hlt
    rw [w1, w2] at hlt
    have h1 := mpos hg
    refine congrArg (fun z => XA.one (.c (.d (eI z)))) ?_
    rw [hx]; unfold pickV
    rw [if_neg (by omega), if_neg hlt]
    have hy := pickY_in (m := m) (p := p) (b := b) h1 hb hp
    obtain ⟨W, hW⟩ : ∃ W, W = IntKind.i64.wrap (IntKind.i64.wrap (p + 1) - 1) := ⟨_, rfl⟩
    have hWp : W = p := by rw [hW, w1, w2]
    obtain ⟨Y, hY⟩ : ∃ Y, Y = IntKind.i64.wrap (IntKind.i64.wrap (IntKind.i64.wrap (IntKind.i64.wrap (IntKind.i64.wrap (b (W.tmod (m : Int)).toNat) * 131) + IntKind.i64.wrap (IntKind.i64.wrap (b ((IntKind.i64.wrap (IntKind.i64.wrap (W * 7) + 3)).tmod (m : Int)).toNat) * 1117)) + IntKind.i64.wrap (W * 29)) + IntKind.i64.wrap (IntKind.i64.wrap (W.tdiv (m : Int)) * 53)) := ⟨_, rfl⟩
    have hYp : Y = pickY m b p := by
      rw [hY, hWp, w7, w73]
      unfold pickY
      have b1 := hb (p.tmod (m : Int)).toNat
      have b2 := hb ((p * 7 + 3).tmod (m : Int)).toNat
      have d1 : 0 ≤ p.tdiv (m : Int) := Int.tdiv_nonneg hp.1 (Int.natCast_nonneg m)
      have d2 : p.tdiv (m : Int) ≤ p := Int.tdiv_le_self (m : Int) hp.1
      generalize b (p.tmod (m : Int)).toNat = c1 at b1 ⊢
      generalize b ((p * 7 + 3).tmod (m : Int)).toNat = c2 at b2 ⊢
      generalize p.tdiv (m : Int) = d at d1 d2 ⊢
      rw [IntWalk.i64_in c1 (by omega), IntWalk.i64_in c2 (by omega), IntWalk.i64_in d (by omega), IntWalk.i64_in (c1 * 131) (by omega), IntWalk.i64_in (c2 * 1117) (by omega), IntWalk.i64_in (p * 29) (by omega), IntWalk.i64_in (d * 53) (by omega), IntWalk.i64_in (c1 * 131 + c2 * 1117) (by omega), IntWalk.i64_in (c1 * 131 + c2 * 1117 + p * 29) (by omega), IntWalk.i64_in _ (by omega)]
    have q1 : 0 ≤ (pickY m b p).tdiv 64 := Int.tdiv_nonneg hy.1 (by decide)
    have q2 : (pickY m b p).tdiv 64 ≤ pickY m b p := Int.tdiv_le_self 64 hy.1
    have key : (IntKind.i64.wrap (BitVec.ofInt 64 Y ^^^ BitVec.ofInt 64 (IntKind.i64.wrap (Y.tdiv 64))).toNat).tmod n = (pickX (pickY m b p)).tmod n := by
      rw [hYp, IntWalk.i64_in ((pickY m b p).tdiv 64) (by omega)]; rfl
    rw [← key, hY, hW]
    rfl
  · rename_i hg hlt
    subst hA
    exact congrArg (fun z => [some (XV.box [XC.d (DV.sl 1 m fun i => [eU (b i)]), XC.d (eI z)]), none]) w1
end Go.Rk
/- Draws, of records and jobs. -/
namespace Go.Rk
set_option linter.unusedSimpArgs false
set_option linter.unusedVariables false
open Go.Proofs
set_option maxRecDepth 100000 in
theorem m_open (M0 : Nat) (b : Nat → Int) (m : Nat) (hm : m = if 2000 < M0 then 2000 else M0) : Meets Try.prog 71 [.c (.d (.sl 1 M0 fun i => [eU (b i)]))] ⟨.one (.c (.box [.d (.sl 1 m fun i => [eU (b i)]), .d (eI 0)])), [none]⟩ := by
  refine meets_of (H := []) (EX := EXA) ttok mixed Try.func71 rfl (by kernel_rfl) (by decide) ?_
  generalize hA : real = A
  generalize hM : Meets Try.prog = M
  cbv
  repeat' first
    | apply And.intro
    | exact True.intro
    | with_reducible rfl
    | exact same_of hA rfl
    | refine br_of hA (fun _ => ?_) (fun _ => ?_)
    | exact imp_of hA id
    | (refine imp_of hA ?_; subst hA; simp only [real, Bool.true_and]; exact id)
    | (refine ind_of hA ?_; decide +kernel)
    | (refine cut_of hA ?_; rename_i h; subst hA; have h9 : decide ((M0 : Int) > 2000) = true := h; have := of_decide_eq_true h9; exact ⟨Int.le_refl _, (by decide), (show (2000 : Int) ≤ (M0 : Int) by omega)⟩)
  · rename_i h
    subst hA
    have h9 : decide ((M0 : Int) > 2000) = true := h
    have h8 := of_decide_eq_true h9
    have e : m = 2000 := by rw [hm]; exact if_pos (by omega)
    subst e
    have e2 : (fun i => (fun i => [eU (b i)]) (0 + i)) = fun i => [eU (b i)] := by funext i; rw [Nat.zero_add]
    exact congrArg (fun f => XA.one (XT.c (.box [.d (.sl 1 2000 f), .d (eI 0)]))) e2
  · rename_i h
    subst hA
    have h9 : decide ((M0 : Int) > 2000) = false := h
    have h8 := of_decide_eq_false h9
    have e : m = M0 := by rw [hm]; exact if_neg (by omega)
    subst e
    rfl
set_option maxRecDepth 100000 in
theorem c_rec (m : Nat) (hm : m ≤ 2000) (b : Nat → Int) (hb : ∀ i, 0 ≤ b i ∧ b i ≤ 255) (p : Int) (hp : 0 ≤ p ∧ p ≤ 100000) (q : Int) (hq : q = p + 4) : ∃ it : ItmT, Meets Try.prog 110 [.c (.box [.d (.sl 1 m fun i => [eU (b i)]), .d (eI p)])] ⟨.one (xd (eItm it)), [some (.box [.d (.sl 1 m fun i => [eU (b i)]), .d (eI q)])]⟩ := by
  obtain ⟨x0, hx0⟩ : ∃ x : Int, x = pickV m b p 61 := ⟨_, rfl⟩
  obtain ⟨p1, hp1⟩ : ∃ z : Int, z = p + 1 := ⟨_, rfl⟩
  have c0 := m_pick m hm b hb p (by omega) 61 (by omega) x0 hx0 p1 hp1
  have i0 := pickV_in (m := m) (b := b) (p := p) (n := 61) hb (by omega) (by omega)
  rw [← hx0] at i0
  obtain ⟨x1, hx1⟩ : ∃ x : Int, x = pickV m b p1 6 := ⟨_, rfl⟩
  obtain ⟨p2, hp2⟩ : ∃ z : Int, z = p1 + 1 := ⟨_, rfl⟩
  have c1 := m_pick m hm b hb p1 (by omega) 6 (by omega) x1 hx1 p2 hp2
  have i1 := pickV_in (m := m) (b := b) (p := p1) (n := 6) hb (by omega) (by omega)
  rw [← hx1] at i1
  obtain ⟨x2, hx2⟩ : ∃ x : Int, x = pickV m b p2 4 := ⟨_, rfl⟩
  obtain ⟨p3, hp3⟩ : ∃ z : Int, z = p2 + 1 := ⟨_, rfl⟩
  have c2 := m_pick m hm b hb p2 (by omega) 4 (by omega) x2 hx2 p3 hp3
  have i2 := pickV_in (m := m) (b := b) (p := p2) (n := 4) hb (by omega) (by omega)
  rw [← hx2] at i2
  obtain ⟨x3, hx3⟩ : ∃ x : Int, x = pickV m b p3 19 := ⟨_, rfl⟩
  obtain ⟨p4, hp4⟩ : ∃ z : Int, z = p3 + 1 := ⟨_, rfl⟩
  have c3 := m_pick m hm b hb p3 (by omega) 19 (by omega) x3 hx3 p4 hp4
  have i3 := pickV_in (m := m) (b := b) (p := p3) (n := 19) hb (by omega) (by omega)
  rw [← hx3] at i3
  obtain ⟨it, hit⟩ : ∃ it : ItmT, it = ⟨1, real.sel [0, 1, 5, 20, 60, x0] (real.add 0 (real.nat x1)), x2, real.ar .sub .i64 x3 9, 0⟩ := ⟨_, rfl⟩
  refine ⟨it, ?_⟩
  have hqq : p4 = q := by omega
  refine meets_of (H := []) (EX := EXA) ttok mixed Try.func110 rfl (by kernel_rfl) (by decide) ?_
  generalize hA : real = A
  generalize hM : Meets Try.prog = M
  cbv
  repeat' first
    | apply And.intro
    | exact True.intro
    | with_reducible rfl
    | exact same_of hA rfl
    | refine br_of hA (fun _ => ?_) (fun _ => ?_)
    | exact imp_of hA id
    | (refine imp_of hA ?_; subst hA; simp only [real, Bool.true_and]; exact id)
    | (refine ind_of hA ?_; decide +kernel)
    | (refine call_of hA hM _ c0 ?_; cbv)
    | (refine call_of hA hM _ c1 ?_; cbv)
    | (refine call_of hA hM _ c2 ?_; cbv)
    | (refine call_of hA hM _ c3 ?_; cbv)
    | (refine inb_of hA fun _ => ?_; exact ⟨i1.1, i1.2⟩)
    | (subst hA; subst hit; rfl)
    | (rw [hqq])
end Go.Rk
/- Draws, of items. -/
namespace Go.Rk
set_option linter.unusedSimpArgs false
set_option linter.unusedVariables false
open Go.Proofs
set_option maxRecDepth 100000
set_option maxHeartbeats 1000000
theorem c_item (m : Nat) (hm : m ≤ 2000) (b : Nat → Int) (hb : ∀ i, 0 ≤ b i ∧ b i ≤ 255) (p : Int) (hp : 0 ≤ p ∧ p ≤ 50000) (n : Int) (hn : 1 ≤ n ∧ n ≤ 100) : ∃ (it : ItmT) (q : Int), (p ≤ q ∧ q ≤ p + 20) ∧ Meets Try.prog 111 [.c (.box [.d (.sl 1 m fun i => [eU (b i)]), .d (eI p)]), .c (.d (eI n))] ⟨.one (xd (eItm it)), [some (.box [.d (.sl 1 m fun i => [eU (b i)]), .d (eI q)]), none]⟩ := by
  obtain ⟨q0, hq0⟩ : ∃ q : Int, q = p + 4 := ⟨_, rfl⟩
  obtain ⟨r, hr⟩ := c_rec m hm b hb p (by omega) q0 hq0
  obtain ⟨x4, hx4⟩ : ∃ x : Int, x = pickV m b q0 4 := ⟨_, rfl⟩
  obtain ⟨p5, hp5⟩ : ∃ z : Int, z = q0 + 1 := ⟨_, rfl⟩
  have c4 := m_pick m hm b hb q0 (by omega) 4 (by omega) x4 hx4 p5 hp5
  have i4 := pickV_in (m := m) (b := b) (p := q0) (n := 4) hb (by omega) (by omega)
  rw [← hx4] at i4
  by_cases h0 : x4 = 0
  · skip
    obtain ⟨x5, hx5⟩ : ∃ x : Int, x = pickV m b p5 4 := ⟨_, rfl⟩
    obtain ⟨p6, hp6⟩ : ∃ z : Int, z = p5 + 1 := ⟨_, rfl⟩
    have c5 := m_pick m hm b hb p5 (by omega) 4 (by omega) x5 hx5 p6 hp6
    have i5 := pickV_in (m := m) (b := b) (p := p5) (n := 4) hb (by omega) (by omega)
    rw [← hx5] at i5
    obtain ⟨x6, hx6⟩ : ∃ x : Int, x = pickV m b p6 n := ⟨_, rfl⟩
    obtain ⟨p7, hp7⟩ : ∃ z : Int, z = p6 + 1 := ⟨_, rfl⟩
    have c6 := m_pick m hm b hb p6 (by omega) n (by omega) x6 hx6 p7 hp7
    have i6 := pickV_in (m := m) (b := b) (p := p6) (n := n) hb (by omega) (by omega)
    rw [← hx6] at i6
    obtain ⟨x7, hx7⟩ : ∃ x : Int, x = pickV m b p7 7 := ⟨_, rfl⟩
    obtain ⟨p8, hp8⟩ : ∃ z : Int, z = p7 + 1 := ⟨_, rfl⟩
    have c7 := m_pick m hm b hb p7 (by omega) 7 (by omega) x7 hx7 p8 hp8
    have i7 := pickV_in (m := m) (b := b) (p := p7) (n := 7) hb (by omega) (by omega)
    rw [← hx7] at i7
    obtain ⟨x8, hx8⟩ : ∃ x : Int, x = pickV m b p8 5 := ⟨_, rfl⟩
    obtain ⟨p9, hp9⟩ : ∃ z : Int, z = p8 + 1 := ⟨_, rfl⟩
    have c8 := m_pick m hm b hb p8 (by omega) 5 (by omega) x8 hx8 p9 hp9
    have i8 := pickV_in (m := m) (b := b) (p := p8) (n := 5) hb (by omega) (by omega)
    rw [← hx8] at i8
    obtain ⟨i0, hi0⟩ : ∃ it : ItmT, it = ⟨2, real.sel [1, 10, 60, 1000] (real.add 0 (real.nat x5)), 0, 0, 0⟩ := ⟨_, rfl⟩
    obtain ⟨kv, hkv⟩ : ∃ z : Int, z = real.sel [-1, 0, 61, 4, 10, 1000, 901] (real.add 0 (real.nat x7)) := ⟨_, rfl⟩
    obtain ⟨it, hit⟩ : ∃ it : ItmT, it = bif decide (x6 > 0) then i0 else bif (x8 == 0) then { i0 with kind := kv } else bif (x8 == 1) then { i0 with t := kv } else bif (x8 == 2) then { i0 with key := kv } else bif (x8 == 3) then { i0 with v := kv } else { i0 with n := kv } := ⟨_, rfl⟩
    obtain ⟨q, hq⟩ : ∃ z : Int, z = bif decide (x6 > 0) then p7 else p9 := ⟨_, rfl⟩
    refine ⟨it, q, by rw [hq]; cases decide (x6 > 0) <;> simp only [cond_true, cond_false] <;> omega, ?_⟩
    refine meets_of (H := []) (EX := EXA) ttok mixed Try.func111 rfl (by kernel_rfl) (by decide) ?_
    generalize hA : real = A
    generalize hM : Meets Try.prog = M
    cbv
    repeat' first
      | (refine br_t hA (by subst hA; exact (show (x4 == 0) = true by rw [h0]; rfl)) ?_)
      | apply And.intro
      | exact True.intro
      | with_reducible rfl
      | exact same_of hA rfl
      | refine br_of hA (fun _ => ?_) (fun _ => ?_)
      | exact imp_of hA id
      | (refine imp_of hA ?_; subst hA; simp only [real, Bool.true_and]; exact id)
      | (refine ind_of hA ?_; decide +kernel)
      | (refine call_of hA hM _ hr ?_; cbv)
      | (refine call_of hA hM _ c4 ?_; cbv)
      | (refine call_of hA hM _ c5 ?_; cbv)
      | (refine call_of hA hM _ c6 ?_; cbv)
      | (refine call_of hA hM _ c7 ?_; cbv)
      | (refine call_of hA hM _ c8 ?_; cbv)
      | (refine inb_of hA fun _ => ?_; exact ⟨i5.1, i5.2⟩)
      | (refine inb_of hA fun _ => ?_; exact ⟨i7.1, i7.2⟩)
    · rename_i hg; subst hA; have e0 : decide (x6 > 0) = true := hg; rw [hit, e0]; subst hkv; subst hi0; rfl
    · rename_i hg; subst hA; have e0 : decide (x6 > 0) = true := hg; rw [hq, e0]; rfl
    · rename_i hg s0; subst hA; have e0 : decide (x6 > 0) = false := hg; have e1 : (x8 == 0) = true := s0; rw [hit, e0, e1]; subst hkv; subst hi0; rfl
    · rename_i hg s0; subst hA; have e0 : decide (x6 > 0) = false := hg; have e1 : (x8 == 0) = true := s0; rw [hq, e0]; rfl
    · rename_i hg s0 s1; subst hA; have e0 : decide (x6 > 0) = false := hg; have e1 : (x8 == 0) = false := s0; have e2 : (x8 == 1) = true := s1; rw [hit, e0, e1, e2]; subst hkv; subst hi0; rfl
    · rename_i hg s0 s1; subst hA; have e0 : decide (x6 > 0) = false := hg; have e1 : (x8 == 0) = false := s0; have e2 : (x8 == 1) = true := s1; rw [hq, e0]; rfl
    · rename_i hg s0 s1 s2; subst hA; have e0 : decide (x6 > 0) = false := hg; have e1 : (x8 == 0) = false := s0; have e2 : (x8 == 1) = false := s1; have e3 : (x8 == 2) = true := s2; rw [hit, e0, e1, e2, e3]; subst hkv; subst hi0; rfl
    · rename_i hg s0 s1 s2; subst hA; have e0 : decide (x6 > 0) = false := hg; have e1 : (x8 == 0) = false := s0; have e2 : (x8 == 1) = false := s1; have e3 : (x8 == 2) = true := s2; rw [hq, e0]; rfl
    · rename_i hg s0 s1 s2 s3; subst hA; have e0 : decide (x6 > 0) = false := hg; have e1 : (x8 == 0) = false := s0; have e2 : (x8 == 1) = false := s1; have e3 : (x8 == 2) = false := s2; have e4 : (x8 == 3) = true := s3; rw [hit, e0, e1, e2, e3, e4]; subst hkv; subst hi0; rfl
    · rename_i hg s0 s1 s2 s3; subst hA; have e0 : decide (x6 > 0) = false := hg; have e1 : (x8 == 0) = false := s0; have e2 : (x8 == 1) = false := s1; have e3 : (x8 == 2) = false := s2; have e4 : (x8 == 3) = true := s3; rw [hq, e0]; rfl
    · rename_i hg s0 s1 s2 s3; subst hA; have e0 : decide (x6 > 0) = false := hg; have e1 : (x8 == 0) = false := s0; have e2 : (x8 == 1) = false := s1; have e3 : (x8 == 2) = false := s2; have e4 : (x8 == 3) = false := s3; rw [hit, e0, e1, e2, e3, e4]; subst hkv; subst hi0; rfl
    · rename_i hg s0 s1 s2 s3; subst hA; have e0 : decide (x6 > 0) = false := hg; have e1 : (x8 == 0) = false := s0; have e2 : (x8 == 1) = false := s1; have e3 : (x8 == 2) = false := s2; have e4 : (x8 == 3) = false := s3; rw [hq, e0]; rfl
  by_cases h1 : x4 = 1
  · skip
    obtain ⟨x5, hx5⟩ : ∃ x : Int, x = pickV m b p5 3 := ⟨_, rfl⟩
    obtain ⟨p6, hp6⟩ : ∃ z : Int, z = p5 + 1 := ⟨_, rfl⟩
    have c5 := m_pick m hm b hb p5 (by omega) 3 (by omega) x5 hx5 p6 hp6
    have i5 := pickV_in (m := m) (b := b) (p := p5) (n := 3) hb (by omega) (by omega)
    rw [← hx5] at i5
    obtain ⟨x6, hx6⟩ : ∃ x : Int, x = pickV m b p6 n := ⟨_, rfl⟩
    obtain ⟨p7, hp7⟩ : ∃ z : Int, z = p6 + 1 := ⟨_, rfl⟩
    have c6 := m_pick m hm b hb p6 (by omega) n (by omega) x6 hx6 p7 hp7
    have i6 := pickV_in (m := m) (b := b) (p := p6) (n := n) hb (by omega) (by omega)
    rw [← hx6] at i6
    obtain ⟨x7, hx7⟩ : ∃ x : Int, x = pickV m b p7 7 := ⟨_, rfl⟩
    obtain ⟨p8, hp8⟩ : ∃ z : Int, z = p7 + 1 := ⟨_, rfl⟩
    have c7 := m_pick m hm b hb p7 (by omega) 7 (by omega) x7 hx7 p8 hp8
    have i7 := pickV_in (m := m) (b := b) (p := p7) (n := 7) hb (by omega) (by omega)
    rw [← hx7] at i7
    obtain ⟨x8, hx8⟩ : ∃ x : Int, x = pickV m b p8 5 := ⟨_, rfl⟩
    obtain ⟨p9, hp9⟩ : ∃ z : Int, z = p8 + 1 := ⟨_, rfl⟩
    have c8 := m_pick m hm b hb p8 (by omega) 5 (by omega) x8 hx8 p9 hp9
    have i8 := pickV_in (m := m) (b := b) (p := p8) (n := 5) hb (by omega) (by omega)
    rw [← hx8] at i8
    obtain ⟨i0, hi0⟩ : ∃ it : ItmT, it = ⟨3, 0, 0, 0, real.sel [1, 2, 900] (real.add 0 (real.nat x5))⟩ := ⟨_, rfl⟩
    obtain ⟨kv, hkv⟩ : ∃ z : Int, z = real.sel [-1, 0, 61, 4, 10, 1000, 901] (real.add 0 (real.nat x7)) := ⟨_, rfl⟩
    obtain ⟨it, hit⟩ : ∃ it : ItmT, it = bif decide (x6 > 0) then i0 else bif (x8 == 0) then { i0 with kind := kv } else bif (x8 == 1) then { i0 with t := kv } else bif (x8 == 2) then { i0 with key := kv } else bif (x8 == 3) then { i0 with v := kv } else { i0 with n := kv } := ⟨_, rfl⟩
    obtain ⟨q, hq⟩ : ∃ z : Int, z = bif decide (x6 > 0) then p7 else p9 := ⟨_, rfl⟩
    refine ⟨it, q, by rw [hq]; cases decide (x6 > 0) <;> simp only [cond_true, cond_false] <;> omega, ?_⟩
    refine meets_of (H := []) (EX := EXA) ttok mixed Try.func111 rfl (by kernel_rfl) (by decide) ?_
    generalize hA : real = A
    generalize hM : Meets Try.prog = M
    cbv
    repeat' first
      | (refine br_f hA (by subst hA; exact (show (x4 == 0) = false by exact beq_false_of_ne h0)) ?_)
      | (refine br_t hA (by subst hA; exact (show (x4 == 1) = true by rw [h1]; rfl)) ?_)
      | apply And.intro
      | exact True.intro
      | with_reducible rfl
      | exact same_of hA rfl
      | refine br_of hA (fun _ => ?_) (fun _ => ?_)
      | exact imp_of hA id
      | (refine imp_of hA ?_; subst hA; simp only [real, Bool.true_and]; exact id)
      | (refine ind_of hA ?_; decide +kernel)
      | (refine call_of hA hM _ hr ?_; cbv)
      | (refine call_of hA hM _ c4 ?_; cbv)
      | (refine call_of hA hM _ c5 ?_; cbv)
      | (refine call_of hA hM _ c6 ?_; cbv)
      | (refine call_of hA hM _ c7 ?_; cbv)
      | (refine call_of hA hM _ c8 ?_; cbv)
      | (refine inb_of hA fun _ => ?_; exact ⟨i5.1, i5.2⟩)
      | (refine inb_of hA fun _ => ?_; exact ⟨i7.1, i7.2⟩)
    · rename_i hg; subst hA; have e0 : decide (x6 > 0) = true := hg; rw [hit, e0]; subst hkv; subst hi0; rfl
    · rename_i hg; subst hA; have e0 : decide (x6 > 0) = true := hg; rw [hq, e0]; rfl
    · rename_i hg s0; subst hA; have e0 : decide (x6 > 0) = false := hg; have e1 : (x8 == 0) = true := s0; rw [hit, e0, e1]; subst hkv; subst hi0; rfl
    · rename_i hg s0; subst hA; have e0 : decide (x6 > 0) = false := hg; have e1 : (x8 == 0) = true := s0; rw [hq, e0]; rfl
    · rename_i hg s0 s1; subst hA; have e0 : decide (x6 > 0) = false := hg; have e1 : (x8 == 0) = false := s0; have e2 : (x8 == 1) = true := s1; rw [hit, e0, e1, e2]; subst hkv; subst hi0; rfl
    · rename_i hg s0 s1; subst hA; have e0 : decide (x6 > 0) = false := hg; have e1 : (x8 == 0) = false := s0; have e2 : (x8 == 1) = true := s1; rw [hq, e0]; rfl
    · rename_i hg s0 s1 s2; subst hA; have e0 : decide (x6 > 0) = false := hg; have e1 : (x8 == 0) = false := s0; have e2 : (x8 == 1) = false := s1; have e3 : (x8 == 2) = true := s2; rw [hit, e0, e1, e2, e3]; subst hkv; subst hi0; rfl
    · rename_i hg s0 s1 s2; subst hA; have e0 : decide (x6 > 0) = false := hg; have e1 : (x8 == 0) = false := s0; have e2 : (x8 == 1) = false := s1; have e3 : (x8 == 2) = true := s2; rw [hq, e0]; rfl
    · rename_i hg s0 s1 s2 s3; subst hA; have e0 : decide (x6 > 0) = false := hg; have e1 : (x8 == 0) = false := s0; have e2 : (x8 == 1) = false := s1; have e3 : (x8 == 2) = false := s2; have e4 : (x8 == 3) = true := s3; rw [hit, e0, e1, e2, e3, e4]; subst hkv; subst hi0; rfl
    · rename_i hg s0 s1 s2 s3; subst hA; have e0 : decide (x6 > 0) = false := hg; have e1 : (x8 == 0) = false := s0; have e2 : (x8 == 1) = false := s1; have e3 : (x8 == 2) = false := s2; have e4 : (x8 == 3) = true := s3; rw [hq, e0]; rfl
    · rename_i hg s0 s1 s2 s3; subst hA; have e0 : decide (x6 > 0) = false := hg; have e1 : (x8 == 0) = false := s0; have e2 : (x8 == 1) = false := s1; have e3 : (x8 == 2) = false := s2; have e4 : (x8 == 3) = false := s3; rw [hit, e0, e1, e2, e3, e4]; subst hkv; subst hi0; rfl
    · rename_i hg s0 s1 s2 s3; subst hA; have e0 : decide (x6 > 0) = false := hg; have e1 : (x8 == 0) = false := s0; have e2 : (x8 == 1) = false := s1; have e3 : (x8 == 2) = false := s2; have e4 : (x8 == 3) = false := s3; rw [hq, e0]; rfl
  · skip
    obtain ⟨x5, hx5⟩ : ∃ x : Int, x = pickV m b p5 n := ⟨_, rfl⟩
    obtain ⟨p6, hp6⟩ : ∃ z : Int, z = p5 + 1 := ⟨_, rfl⟩
    have c5 := m_pick m hm b hb p5 (by omega) n (by omega) x5 hx5 p6 hp6
    have i5 := pickV_in (m := m) (b := b) (p := p5) (n := n) hb (by omega) (by omega)
    rw [← hx5] at i5
    obtain ⟨x6, hx6⟩ : ∃ x : Int, x = pickV m b p6 7 := ⟨_, rfl⟩
    obtain ⟨p7, hp7⟩ : ∃ z : Int, z = p6 + 1 := ⟨_, rfl⟩
    have c6 := m_pick m hm b hb p6 (by omega) 7 (by omega) x6 hx6 p7 hp7
    have i6 := pickV_in (m := m) (b := b) (p := p6) (n := 7) hb (by omega) (by omega)
    rw [← hx6] at i6
    obtain ⟨x7, hx7⟩ : ∃ x : Int, x = pickV m b p7 5 := ⟨_, rfl⟩
    obtain ⟨p8, hp8⟩ : ∃ z : Int, z = p7 + 1 := ⟨_, rfl⟩
    have c7 := m_pick m hm b hb p7 (by omega) 5 (by omega) x7 hx7 p8 hp8
    have i7 := pickV_in (m := m) (b := b) (p := p7) (n := 5) hb (by omega) (by omega)
    rw [← hx7] at i7
    obtain ⟨i0, hi0⟩ : ∃ it : ItmT, it = r := ⟨_, rfl⟩
    obtain ⟨kv, hkv⟩ : ∃ z : Int, z = real.sel [-1, 0, 61, 4, 10, 1000, 901] (real.add 0 (real.nat x6)) := ⟨_, rfl⟩
    obtain ⟨it, hit⟩ : ∃ it : ItmT, it = bif decide (x5 > 0) then i0 else bif (x7 == 0) then { i0 with kind := kv } else bif (x7 == 1) then { i0 with t := kv } else bif (x7 == 2) then { i0 with key := kv } else bif (x7 == 3) then { i0 with v := kv } else { i0 with n := kv } := ⟨_, rfl⟩
    obtain ⟨q, hq⟩ : ∃ z : Int, z = bif decide (x5 > 0) then p6 else p8 := ⟨_, rfl⟩
    refine ⟨it, q, by rw [hq]; cases decide (x5 > 0) <;> simp only [cond_true, cond_false] <;> omega, ?_⟩
    refine meets_of (H := []) (EX := EXA) ttok mixed Try.func111 rfl (by kernel_rfl) (by decide) ?_
    generalize hA : real = A
    generalize hM : Meets Try.prog = M
    cbv
    repeat' first
      | (refine br_f hA (by subst hA; exact (show (x4 == 0) = false by exact beq_false_of_ne h0)) ?_)
      | (refine br_f hA (by subst hA; exact (show (x4 == 1) = false by exact beq_false_of_ne h1)) ?_)
      | apply And.intro
      | exact True.intro
      | with_reducible rfl
      | exact same_of hA rfl
      | refine br_of hA (fun _ => ?_) (fun _ => ?_)
      | exact imp_of hA id
      | (refine imp_of hA ?_; subst hA; simp only [real, Bool.true_and]; exact id)
      | (refine ind_of hA ?_; decide +kernel)
      | (refine call_of hA hM _ hr ?_; cbv)
      | (refine call_of hA hM _ c4 ?_; cbv)
      | (refine call_of hA hM _ c5 ?_; cbv)
      | (refine call_of hA hM _ c6 ?_; cbv)
      | (refine call_of hA hM _ c7 ?_; cbv)
      | (refine inb_of hA fun _ => ?_; exact ⟨i6.1, i6.2⟩)
    · rename_i hg; subst hA; have e0 : decide (x5 > 0) = true := hg; rw [hit, e0]; subst hkv; subst hi0; rfl
    · rename_i hg; subst hA; have e0 : decide (x5 > 0) = true := hg; rw [hq, e0]; rfl
    · rename_i hg s0; subst hA; have e0 : decide (x5 > 0) = false := hg; have e1 : (x7 == 0) = true := s0; rw [hit, e0, e1]; subst hkv; subst hi0; rfl
    · rename_i hg s0; subst hA; have e0 : decide (x5 > 0) = false := hg; have e1 : (x7 == 0) = true := s0; rw [hq, e0]; rfl
    · rename_i hg s0 s1; subst hA; have e0 : decide (x5 > 0) = false := hg; have e1 : (x7 == 0) = false := s0; have e2 : (x7 == 1) = true := s1; rw [hit, e0, e1, e2]; subst hkv; subst hi0; rfl
    · rename_i hg s0 s1; subst hA; have e0 : decide (x5 > 0) = false := hg; have e1 : (x7 == 0) = false := s0; have e2 : (x7 == 1) = true := s1; rw [hq, e0]; rfl
    · rename_i hg s0 s1 s2; subst hA; have e0 : decide (x5 > 0) = false := hg; have e1 : (x7 == 0) = false := s0; have e2 : (x7 == 1) = false := s1; have e3 : (x7 == 2) = true := s2; rw [hit, e0, e1, e2, e3]; subst hkv; subst hi0; rfl
    · rename_i hg s0 s1 s2; subst hA; have e0 : decide (x5 > 0) = false := hg; have e1 : (x7 == 0) = false := s0; have e2 : (x7 == 1) = false := s1; have e3 : (x7 == 2) = true := s2; rw [hq, e0]; rfl
    · rename_i hg s0 s1 s2 s3; subst hA; have e0 : decide (x5 > 0) = false := hg; have e1 : (x7 == 0) = false := s0; have e2 : (x7 == 1) = false := s1; have e3 : (x7 == 2) = false := s2; have e4 : (x7 == 3) = true := s3; rw [hit, e0, e1, e2, e3, e4]; subst hkv; subst hi0; rfl
    · rename_i hg s0 s1 s2 s3; subst hA; have e0 : decide (x5 > 0) = false := hg; have e1 : (x7 == 0) = false := s0; have e2 : (x7 == 1) = false := s1; have e3 : (x7 == 2) = false := s2; have e4 : (x7 == 3) = true := s3; rw [hq, e0]; rfl
    · rename_i hg s0 s1 s2 s3; subst hA; have e0 : decide (x5 > 0) = false := hg; have e1 : (x7 == 0) = false := s0; have e2 : (x7 == 1) = false := s1; have e3 : (x7 == 2) = false := s2; have e4 : (x7 == 3) = false := s3; rw [hit, e0, e1, e2, e3, e4]; subst hkv; subst hi0; rfl
    · rename_i hg s0 s1 s2 s3; subst hA; have e0 : decide (x5 > 0) = false := hg; have e1 : (x7 == 0) = false := s0; have e2 : (x7 == 1) = false := s1; have e3 : (x7 == 2) = false := s2; have e4 : (x7 == 3) = false := s3; rw [hq, e0]; rfl
end Go.Rk
/- Draws: jobs. -/
namespace Go.Rk
set_option linter.unusedSimpArgs false
set_option linter.unusedVariables false
open Go.Proofs
set_option maxRecDepth 100000
set_option maxHeartbeats 1000000
theorem c_job (m : Nat) (hm : m ≤ 2000) (b : Nat → Int) (hb : ∀ i, 0 ≤ b i ∧ b i ≤ 255) (p : Int) (hp : 0 ≤ p ∧ p ≤ 50000) : ∃ (j : JobT) (q : Int), (p ≤ q ∧ q ≤ p + 20) ∧ Meets Try.prog 109 [.c (.box [.d (.sl 1 m fun i => [eU (b i)]), .d (eI p)])] ⟨.one (xd (eJob j)), [some (.box [.d (.sl 1 m fun i => [eU (b i)]), .d (eI q)])]⟩ := by
  obtain ⟨x0, hx0⟩ : ∃ x : Int, x = pickV m b p 3 := ⟨_, rfl⟩
  obtain ⟨p1, hp1⟩ : ∃ z : Int, z = p + 1 := ⟨_, rfl⟩
  have c0 := m_pick m hm b hb p (by omega) 3 (by omega) x0 hx0 p1 hp1
  have i0 := pickV_in (m := m) (b := b) (p := p) (n := 3) hb (by omega) (by omega)
  rw [← hx0] at i0
  obtain ⟨x1, hx1⟩ : ∃ x : Int, x = pickV m b p1 2 := ⟨_, rfl⟩
  obtain ⟨p2, hp2⟩ : ∃ z : Int, z = p1 + 1 := ⟨_, rfl⟩
  have c1 := m_pick m hm b hb p1 (by omega) 2 (by omega) x1 hx1 p2 hp2
  have i1 := pickV_in (m := m) (b := b) (p := p1) (n := 2) hb (by omega) (by omega)
  rw [← hx1] at i1
  obtain ⟨x2, hx2⟩ : ∃ x : Int, x = pickV m b p2 3 := ⟨_, rfl⟩
  obtain ⟨p3, hp3⟩ : ∃ z : Int, z = p2 + 1 := ⟨_, rfl⟩
  have c2 := m_pick m hm b hb p2 (by omega) 3 (by omega) x2 hx2 p3 hp3
  have i2 := pickV_in (m := m) (b := b) (p := p2) (n := 3) hb (by omega) (by omega)
  rw [← hx2] at i2
  obtain ⟨x3, hx3⟩ : ∃ x : Int, x = pickV m b p3 6 := ⟨_, rfl⟩
  obtain ⟨p4, hp4⟩ : ∃ z : Int, z = p3 + 1 := ⟨_, rfl⟩
  have c3 := m_pick m hm b hb p3 (by omega) 6 (by omega) x3 hx3 p4 hp4
  have i3 := pickV_in (m := m) (b := b) (p := p3) (n := 6) hb (by omega) (by omega)
  rw [← hx3] at i3
  obtain ⟨x4, hx4⟩ : ∃ x : Int, x = pickV m b p4 5 := ⟨_, rfl⟩
  obtain ⟨p5, hp5⟩ : ∃ z : Int, z = p4 + 1 := ⟨_, rfl⟩
  have c4 := m_pick m hm b hb p4 (by omega) 5 (by omega) x4 hx4 p5 hp5
  have i4 := pickV_in (m := m) (b := b) (p := p4) (n := 5) hb (by omega) (by omega)
  rw [← hx4] at i4
  obtain ⟨x5, hx5⟩ : ∃ x : Int, x = pickV m b p5 4 := ⟨_, rfl⟩
  obtain ⟨p6, hp6⟩ : ∃ z : Int, z = p5 + 1 := ⟨_, rfl⟩
  have c5 := m_pick m hm b hb p5 (by omega) 4 (by omega) x5 hx5 p6 hp6
  have i5 := pickV_in (m := m) (b := b) (p := p5) (n := 4) hb (by omega) (by omega)
  rw [← hx5] at i5
  obtain ⟨x6, hx6⟩ : ∃ x : Int, x = pickV m b p6 2 := ⟨_, rfl⟩
  obtain ⟨p7, hp7⟩ : ∃ z : Int, z = p6 + 1 := ⟨_, rfl⟩
  have c6 := m_pick m hm b hb p6 (by omega) 2 (by omega) x6 hx6 p7 hp7
  have i6 := pickV_in (m := m) (b := b) (p := p6) (n := 2) hb (by omega) (by omega)
  rw [← hx6] at i6
  obtain ⟨x7, hx7⟩ : ∃ x : Int, x = pickV m b p7 5 := ⟨_, rfl⟩
  obtain ⟨p8, hp8⟩ : ∃ z : Int, z = p7 + 1 := ⟨_, rfl⟩
  have c7 := m_pick m hm b hb p7 (by omega) 5 (by omega) x7 hx7 p8 hp8
  have i7 := pickV_in (m := m) (b := b) (p := p7) (n := 5) hb (by omega) (by omega)
  rw [← hx7] at i7
  obtain ⟨x8, hx8⟩ : ∃ x : Int, x = pickV m b p8 4 := ⟨_, rfl⟩
  obtain ⟨p9, hp9⟩ : ∃ z : Int, z = p8 + 1 := ⟨_, rfl⟩
  have c8 := m_pick m hm b hb p8 (by omega) 4 (by omega) x8 hx8 p9 hp9
  have i8 := pickV_in (m := m) (b := b) (p := p8) (n := 4) hb (by omega) (by omega)
  rw [← hx8] at i8
  obtain ⟨x9, hx9⟩ : ∃ x : Int, x = pickV m b p9 4 := ⟨_, rfl⟩
  obtain ⟨p10, hp10⟩ : ∃ z : Int, z = p9 + 1 := ⟨_, rfl⟩
  have c9 := m_pick m hm b hb p9 (by omega) 4 (by omega) x9 hx9 p10 hp10
  have i9 := pickV_in (m := m) (b := b) (p := p9) (n := 4) hb (by omega) (by omega)
  rw [← hx9] at i9
  obtain ⟨x10, hx10⟩ : ∃ x : Int, x = pickV m b p10 4 := ⟨_, rfl⟩
  obtain ⟨p11, hp11⟩ : ∃ z : Int, z = p10 + 1 := ⟨_, rfl⟩
  have c10 := m_pick m hm b hb p10 (by omega) 4 (by omega) x10 hx10 p11 hp11
  have i10 := pickV_in (m := m) (b := b) (p := p10) (n := 4) hb (by omega) (by omega)
  rw [← hx10] at i10
  obtain ⟨sz, hsz⟩ : ∃ z : Int, z = real.sel [1, 3, 5, 8, 10, 20] (real.add 0 (real.nat x3)) := ⟨_, rfl⟩
  obtain ⟨kd, hkd⟩ : ∃ z : Int, z = real.ar .add .i64 1 x2 := ⟨_, rfl⟩
  obtain ⟨j0, hj0⟩ : ∃ j : JobT, j = ⟨real.ar .add .i64 1 x0, real.ar .add .i64 1 x1, kd, sz, 0, real.sel [0, 2, 5, 12, 20] (real.add 0 (real.nat x4)), real.ar .add .i64 1 x5, real.cmp .eql x6 0, real.sel [-9, -9, -9, 0, 5] (real.add 0 (real.nat x7)), real.ar .add .i64 1 x8⟩ := ⟨_, rfl⟩
  obtain ⟨st, hst⟩ : ∃ z : Int, z = real.ar .quo .i64 (real.ar .add .i64 sz x9) (real.ar .add .i64 1 x10) := ⟨_, rfl⟩
  obtain ⟨big, hbig⟩ : ∃ z : Bool, z = real.bite (real.bite (real.cmp .lss st 1) true (real.cmp .lss (real.ar .mul .i64 4 st) sz)) true (real.cmp .gtr st sz) := ⟨_, rfl⟩
  obtain ⟨j, hj⟩ : ∃ j : JobT, j = bif (kd == 2) then (bif big then { j0 with step := real.ar .quo .i64 (real.ar .add .i64 sz 1) 2 } else { j0 with step := st }) else j0 := ⟨_, rfl⟩
  obtain ⟨q, hq⟩ : ∃ z : Int, z = bif (kd == 2) then p11 else p9 := ⟨_, rfl⟩
  refine ⟨j, q, by rw [hq]; cases (kd == 2) <;> simp only [cond_true, cond_false] <;> omega, ?_⟩
  have w10 : real.ar .add .i64 1 x10 ≠ 0 := by
    show IntKind.i64.wrap (1 + x10) ≠ 0
    rw [IntWalk.i64_in _ (by omega)]; omega
  refine meets_of (H := []) (EX := EXA) ttok mixed Try.func109 rfl (by kernel_rfl) (by decide) ?_
  generalize hA : real = A
  generalize hM : Meets Try.prog = M
  cbv
  repeat' first
    | apply And.intro
    | exact True.intro
    | with_reducible rfl
    | exact same_of hA rfl
    | refine br_of hA (fun _ => ?_) (fun _ => ?_)
    | exact imp_of hA id
    | (refine imp_of hA ?_; subst hA; simp only [real, Bool.true_and]; exact id)
    | (refine ind_of hA ?_; decide +kernel)
    | (refine call_of hA hM _ c0 ?_; cbv)
    | (refine call_of hA hM _ c1 ?_; cbv)
    | (refine call_of hA hM _ c2 ?_; cbv)
    | (refine call_of hA hM _ c3 ?_; cbv)
    | (refine call_of hA hM _ c4 ?_; cbv)
    | (refine call_of hA hM _ c5 ?_; cbv)
    | (refine call_of hA hM _ c6 ?_; cbv)
    | (refine call_of hA hM _ c7 ?_; cbv)
    | (refine call_of hA hM _ c8 ?_; cbv)
    | (refine call_of hA hM _ c9 ?_; cbv)
    | (refine call_of hA hM _ c10 ?_; cbv)
    | (refine inb_of hA fun _ => ?_; exact ⟨i3.1, i3.2⟩)
    | (refine inb_of hA fun _ => ?_; exact ⟨i4.1, i4.2⟩)
    | (refine inb_of hA fun _ => ?_; exact ⟨i7.1, i7.2⟩)
    | (subst hA; exact nz_of rfl w10)
    | exact nz_of hA (show (2 : Int) ≠ 0 by decide)
  · rename_i hk hb
    subst hA
    have e0 : (kd == 2) = true := by rw [hkd]; exact hk
    have e1 : big = true := by rw [hbig, hst, hsz]; exact hb
    rw [hj, e0, e1]; subst hj0; subst hst; subst hkd; subst hsz; rfl
  · rename_i hk hb
    subst hA
    have e0 : (kd == 2) = true := by rw [hkd]; exact hk
    have e1 : big = true := by rw [hbig, hst, hsz]; exact hb
    rw [hq, e0]; rfl
  · rename_i hk hb
    subst hA
    have e0 : (kd == 2) = true := by rw [hkd]; exact hk
    have e1 : big = false := by rw [hbig, hst, hsz]; exact hb
    rw [hj, e0, e1]; subst hj0; subst hst; subst hkd; subst hsz; rfl
  · rename_i hk hb
    subst hA
    have e0 : (kd == 2) = true := by rw [hkd]; exact hk
    have e1 : big = false := by rw [hbig, hst, hsz]; exact hb
    rw [hq, e0]; rfl
  · rename_i hk
    subst hA
    have e0 : (kd == 2) = false := by rw [hkd]; exact hk
    rw [hj, e0]; subst hj0; subst hst; subst hkd; subst hsz; rfl
  · rename_i hk
    subst hA
    have e0 : (kd == 2) = false := by rw [hkd]; exact hk
    rw [hq, e0]; rfl
theorem c_anyJob (m : Nat) (hm : m ≤ 2000) (b : Nat → Int) (hb : ∀ i, 0 ≤ b i ∧ b i ≤ 255) (p : Int) (hp : 0 ≤ p ∧ p ≤ 40000) (n : Int) (hn : 1 ≤ n ∧ n ≤ 100) : ∃ (j : JobT) (q : Int), (p ≤ q ∧ q ≤ p + 40) ∧ Meets Try.prog 72 [.c (.box [.d (.sl 1 m fun i => [eU (b i)]), .d (eI p)]), .c (.d (eI n))] ⟨.one (xd (eJob j)), [some (.box [.d (.sl 1 m fun i => [eU (b i)]), .d (eI q)]), none]⟩ := by
  obtain ⟨j0, q0, hq0, hj0⟩ := c_job m hm b hb p (by omega)
  obtain ⟨x0, hx0⟩ : ∃ x : Int, x = pickV m b q0 n := ⟨_, rfl⟩
  obtain ⟨p1, hp1⟩ : ∃ z : Int, z = q0 + 1 := ⟨_, rfl⟩
  have c0 := m_pick m hm b hb q0 (by omega) n (by omega) x0 hx0 p1 hp1
  have i0 := pickV_in (m := m) (b := b) (p := q0) (n := n) hb (by omega) (by omega)
  rw [← hx0] at i0
  obtain ⟨x1, hx1⟩ : ∃ x : Int, x = pickV m b p1 8 := ⟨_, rfl⟩
  obtain ⟨p2, hp2⟩ : ∃ z : Int, z = p1 + 1 := ⟨_, rfl⟩
  have c1 := m_pick m hm b hb p1 (by omega) 8 (by omega) x1 hx1 p2 hp2
  have i1 := pickV_in (m := m) (b := b) (p := p1) (n := 8) hb (by omega) (by omega)
  rw [← hx1] at i1
  obtain ⟨x2, hx2⟩ : ∃ x : Int, x = pickV m b p2 9 := ⟨_, rfl⟩
  obtain ⟨p3, hp3⟩ : ∃ z : Int, z = p2 + 1 := ⟨_, rfl⟩
  have c2 := m_pick m hm b hb p2 (by omega) 9 (by omega) x2 hx2 p3 hp3
  have i2 := pickV_in (m := m) (b := b) (p := p2) (n := 9) hb (by omega) (by omega)
  rw [← hx2] at i2
  obtain ⟨kv, hkv⟩ : ∃ z : Int, z = real.sel [-1, 0, 3, 4, 5, 21, 10, 1] (real.add 0 (real.nat x1)) := ⟨_, rfl⟩
  obtain ⟨j, hj⟩ : ∃ j : JobT, j = bif decide (x0 > 0) then j0 else bif (x2 == 0) then { j0 with srcs := kv } else bif (x2 == 1) then { j0 with tsks := kv } else bif (x2 == 2) then { j0 with kind := kv } else bif (x2 == 3) then { j0 with size := kv } else bif (x2 == 4) then { j0 with step := kv } else bif (x2 == 5) then { j0 with late := kv } else bif (x2 == 6) then { j0 with tell := kv } else bif (x2 == 7) then { j0 with least := real.ar .mul .i64 kv 2 } else { j0 with room := kv } := ⟨_, rfl⟩
  obtain ⟨q, hq⟩ : ∃ z : Int, z = bif decide (x0 > 0) then p1 else p3 := ⟨_, rfl⟩
  refine ⟨j, q, by rw [hq]; cases decide (x0 > 0) <;> simp only [cond_true, cond_false] <;> omega, ?_⟩
  refine meets_of (H := []) (EX := EXA) ttok mixed Try.func72 rfl (by kernel_rfl) (by decide) ?_
  generalize hA : real = A
  generalize hM : Meets Try.prog = M
  cbv
  repeat' first
    | apply And.intro
    | exact True.intro
    | with_reducible rfl
    | exact same_of hA rfl
    | refine br_of hA (fun _ => ?_) (fun _ => ?_)
    | exact imp_of hA id
    | (refine imp_of hA ?_; subst hA; simp only [real, Bool.true_and]; exact id)
    | (refine ind_of hA ?_; decide +kernel)
    | (refine call_of hA hM _ hj0 ?_; cbv)
    | (refine call_of hA hM _ c0 ?_; cbv)
    | (refine call_of hA hM _ c1 ?_; cbv)
    | (refine call_of hA hM _ c2 ?_; cbv)
    | (refine inb_of hA fun _ => ?_; exact ⟨i1.1, i1.2⟩)
  · rename_i hg; subst hA; have e0 : decide (x0 > 0) = true := hg; rw [hj, e0]; subst hkv; rfl
  · rename_i hg; subst hA; have e0 : decide (x0 > 0) = true := hg; rw [hq, e0]; rfl
  · rename_i hg s0; subst hA; have e0 : decide (x0 > 0) = false := hg; have e1 : (x2 == 0) = true := s0; rw [hj, e0, e1]; subst hkv; rfl
  · rename_i hg s0; subst hA; have e0 : decide (x0 > 0) = false := hg; have e1 : (x2 == 0) = true := s0; rw [hq, e0]; rfl
  · rename_i hg s0 s1; subst hA; have e0 : decide (x0 > 0) = false := hg; have e1 : (x2 == 0) = false := s0; have e2 : (x2 == 1) = true := s1; rw [hj, e0, e1, e2]; subst hkv; rfl
  · rename_i hg s0 s1; subst hA; have e0 : decide (x0 > 0) = false := hg; have e1 : (x2 == 0) = false := s0; have e2 : (x2 == 1) = true := s1; rw [hq, e0]; rfl
  · rename_i hg s0 s1 s2; subst hA; have e0 : decide (x0 > 0) = false := hg; have e1 : (x2 == 0) = false := s0; have e2 : (x2 == 1) = false := s1; have e3 : (x2 == 2) = true := s2; rw [hj, e0, e1, e2, e3]; subst hkv; rfl
  · rename_i hg s0 s1 s2; subst hA; have e0 : decide (x0 > 0) = false := hg; have e1 : (x2 == 0) = false := s0; have e2 : (x2 == 1) = false := s1; have e3 : (x2 == 2) = true := s2; rw [hq, e0]; rfl
  · rename_i hg s0 s1 s2 s3; subst hA; have e0 : decide (x0 > 0) = false := hg; have e1 : (x2 == 0) = false := s0; have e2 : (x2 == 1) = false := s1; have e3 : (x2 == 2) = false := s2; have e4 : (x2 == 3) = true := s3; rw [hj, e0, e1, e2, e3, e4]; subst hkv; rfl
  · rename_i hg s0 s1 s2 s3; subst hA; have e0 : decide (x0 > 0) = false := hg; have e1 : (x2 == 0) = false := s0; have e2 : (x2 == 1) = false := s1; have e3 : (x2 == 2) = false := s2; have e4 : (x2 == 3) = true := s3; rw [hq, e0]; rfl
  · rename_i hg s0 s1 s2 s3 s4; subst hA; have e0 : decide (x0 > 0) = false := hg; have e1 : (x2 == 0) = false := s0; have e2 : (x2 == 1) = false := s1; have e3 : (x2 == 2) = false := s2; have e4 : (x2 == 3) = false := s3; have e5 : (x2 == 4) = true := s4; rw [hj, e0, e1, e2, e3, e4, e5]; subst hkv; rfl
  · rename_i hg s0 s1 s2 s3 s4; subst hA; have e0 : decide (x0 > 0) = false := hg; have e1 : (x2 == 0) = false := s0; have e2 : (x2 == 1) = false := s1; have e3 : (x2 == 2) = false := s2; have e4 : (x2 == 3) = false := s3; have e5 : (x2 == 4) = true := s4; rw [hq, e0]; rfl
  · rename_i hg s0 s1 s2 s3 s4 s5; subst hA; have e0 : decide (x0 > 0) = false := hg; have e1 : (x2 == 0) = false := s0; have e2 : (x2 == 1) = false := s1; have e3 : (x2 == 2) = false := s2; have e4 : (x2 == 3) = false := s3; have e5 : (x2 == 4) = false := s4; have e6 : (x2 == 5) = true := s5; rw [hj, e0, e1, e2, e3, e4, e5, e6]; subst hkv; rfl
  · rename_i hg s0 s1 s2 s3 s4 s5; subst hA; have e0 : decide (x0 > 0) = false := hg; have e1 : (x2 == 0) = false := s0; have e2 : (x2 == 1) = false := s1; have e3 : (x2 == 2) = false := s2; have e4 : (x2 == 3) = false := s3; have e5 : (x2 == 4) = false := s4; have e6 : (x2 == 5) = true := s5; rw [hq, e0]; rfl
  · rename_i hg s0 s1 s2 s3 s4 s5 s6; subst hA; have e0 : decide (x0 > 0) = false := hg; have e1 : (x2 == 0) = false := s0; have e2 : (x2 == 1) = false := s1; have e3 : (x2 == 2) = false := s2; have e4 : (x2 == 3) = false := s3; have e5 : (x2 == 4) = false := s4; have e6 : (x2 == 5) = false := s5; have e7 : (x2 == 6) = true := s6; rw [hj, e0, e1, e2, e3, e4, e5, e6, e7]; subst hkv; rfl
  · rename_i hg s0 s1 s2 s3 s4 s5 s6; subst hA; have e0 : decide (x0 > 0) = false := hg; have e1 : (x2 == 0) = false := s0; have e2 : (x2 == 1) = false := s1; have e3 : (x2 == 2) = false := s2; have e4 : (x2 == 3) = false := s3; have e5 : (x2 == 4) = false := s4; have e6 : (x2 == 5) = false := s5; have e7 : (x2 == 6) = true := s6; rw [hq, e0]; rfl
  · rename_i hg s0 s1 s2 s3 s4 s5 s6 s7; subst hA; have e0 : decide (x0 > 0) = false := hg; have e1 : (x2 == 0) = false := s0; have e2 : (x2 == 1) = false := s1; have e3 : (x2 == 2) = false := s2; have e4 : (x2 == 3) = false := s3; have e5 : (x2 == 4) = false := s4; have e6 : (x2 == 5) = false := s5; have e7 : (x2 == 6) = false := s6; have e8 : (x2 == 7) = true := s7; rw [hj, e0, e1, e2, e3, e4, e5, e6, e7, e8]; subst hkv; rfl
  · rename_i hg s0 s1 s2 s3 s4 s5 s6 s7; subst hA; have e0 : decide (x0 > 0) = false := hg; have e1 : (x2 == 0) = false := s0; have e2 : (x2 == 1) = false := s1; have e3 : (x2 == 2) = false := s2; have e4 : (x2 == 3) = false := s3; have e5 : (x2 == 4) = false := s4; have e6 : (x2 == 5) = false := s5; have e7 : (x2 == 6) = false := s6; have e8 : (x2 == 7) = true := s7; rw [hq, e0]; rfl
  · rename_i hg s0 s1 s2 s3 s4 s5 s6 s7; subst hA; have e0 : decide (x0 > 0) = false := hg; have e1 : (x2 == 0) = false := s0; have e2 : (x2 == 1) = false := s1; have e3 : (x2 == 2) = false := s2; have e4 : (x2 == 3) = false := s3; have e5 : (x2 == 4) = false := s4; have e6 : (x2 == 5) = false := s5; have e7 : (x2 == 6) = false := s6; have e8 : (x2 == 7) = false := s7; rw [hj, e0, e1, e2, e3, e4, e5, e6, e7, e8]; subst hkv; rfl
  · rename_i hg s0 s1 s2 s3 s4 s5 s6 s7; subst hA; have e0 : decide (x0 > 0) = false := hg; have e1 : (x2 == 0) = false := s0; have e2 : (x2 == 1) = false := s1; have e3 : (x2 == 2) = false := s2; have e4 : (x2 == 3) = false := s3; have e5 : (x2 == 4) = false := s4; have e6 : (x2 == 5) = false := s5; have e7 : (x2 == 6) = false := s6; have e8 : (x2 == 7) = false := s7; rw [hq, e0]; rfl
end Go.Rk
/- Draws: lists. -/
namespace Go.Rk
set_option linter.unusedSimpArgs false
set_option linter.unusedVariables false
open Go.Proofs
set_option maxRecDepth 100000
set_option maxHeartbeats 1000000
def st_recs (m : Nat) (b : Nat → Int) (n kk pz : Int) (i : Nat) (row : Nat → List DV) : St := ⟨[(6, .c (.d (eI kk))), (0, .c (.bp 0 1 0)), (1, .c (.d (eI n))), (5, .c (.own 512 0 i 1))], [(0, 1, .box [.d (.sl 1 m fun i => [eU (b i)]), .d (eI pz)]), (512, 1, .arr 5 i row)]⟩
theorem c_recs (m : Nat) (hm : m ≤ 2000) (b : Nat → Int) (hb : ∀ i, 0 ≤ b i ∧ b i ≤ 255) (p : Int) (hp : 0 ≤ p ∧ p ≤ 30000) (n : Int) (hn : 1 ≤ n ∧ n ≤ 100) : ∃ (cnt : Nat) (G : Nat → ItmT) (q : Int), cnt ≤ 15 ∧ Meets Try.prog 73 [.c (.box [.d (.sl 1 m fun i => [eU (b i)]), .d (eI p)]), .c (.d (eI n))] ⟨.one (.c (.own 5 cnt fun i => eItm (G i))), [some (.box [.d (.sl 1 m fun i => [eU (b i)]), .d (eI q)]), none]⟩ := by
  have hRe : ∀ z : Int, ∃ it : ItmT, (0 ≤ z ∧ z ≤ 100000) → ∀ q : Int, q = z + 4 → Meets Try.prog 110 [.c (.box [.d (.sl 1 m fun i => [eU (b i)]), .d (eI z)])] ⟨.one (xd (eItm it)), [some (.box [.d (.sl 1 m fun i => [eU (b i)]), .d (eI q)])]⟩ := fun z => by
    by_cases hz : 0 ≤ z ∧ z ≤ 100000
    · obtain ⟨it, hit⟩ := c_rec m hm b hb z hz (z + 4) rfl
      exact ⟨it, fun _ q hq => by rw [hq]; exact hit⟩
    · exact ⟨⟨0, 0, 0, 0, 0⟩, fun h => absurd h hz⟩
  obtain ⟨R, hR⟩ : ∃ R : Int → ItmT, ∀ z : Int, (0 ≤ z ∧ z ≤ 100000) → ∀ q : Int, q = z + 4 → Meets Try.prog 110 [.c (.box [.d (.sl 1 m fun i => [eU (b i)]), .d (eI z)])] ⟨.one (xd (eItm (R z))), [some (.box [.d (.sl 1 m fun i => [eU (b i)]), .d (eI q)])]⟩ := ⟨fun z => (hRe z).choose, fun z => (hRe z).choose_spec⟩
  obtain ⟨x0, hx0⟩ : ∃ x : Int, x = pickV m b p 14 := ⟨_, rfl⟩
  obtain ⟨p1, hp1⟩ : ∃ z : Int, z = p + 1 := ⟨_, rfl⟩
  have c0 := m_pick m hm b hb p (by omega) 14 (by omega) x0 hx0 p1 hp1
  have i0 := pickV_in (m := m) (b := b) (p := p) (n := 14) hb (by omega) (by omega)
  rw [← hx0] at i0
  obtain ⟨N, hN⟩ : ∃ N : Nat, (N : Int) = x0 := ⟨x0.toNat, Int.toNat_of_nonneg i0.1⟩
  have hN13 : N ≤ 13 := by omega
  obtain ⟨pe, hpe⟩ : ∃ z : Int, z = p1 + 5 * (N : Int) := ⟨_, rfl⟩
  obtain ⟨x1, hx1⟩ : ∃ x : Int, x = pickV m b pe n := ⟨_, rfl⟩
  obtain ⟨p2, hp2⟩ : ∃ z : Int, z = pe + 1 := ⟨_, rfl⟩
  have c1 := m_pick m hm b hb pe (by omega) n (by omega) x1 hx1 p2 hp2
  have i1 := pickV_in (m := m) (b := b) (p := pe) (n := n) hb (by omega) (by omega)
  rw [← hx1] at i1
  obtain ⟨itl, ql, hql, hitl⟩ := c_item m hm b hb p2 (by omega) 2 (by omega)
  obtain ⟨G, hG⟩ : ∃ G : Nat → ItmT, G = fun i => if i = N then itl else { R (p1 + 5 * (i : Int)) with key := pickV m b (p1 + 5 * (i : Int) + 4) 2 } := ⟨_, rfl⟩
  obtain ⟨cnt, hcnt⟩ : ∃ c : Nat, c = bif (x1 == 0) then N + 1 else N := ⟨_, rfl⟩
  obtain ⟨q, hq⟩ : ∃ z : Int, z = bif (x1 == 0) then ql else p2 := ⟨_, rfl⟩
  refine ⟨cnt, G, q, by rw [hcnt]; cases (x1 == 0) <;> simp only [cond_true, cond_false] <;> omega, ?_⟩
  refine meets_of (H := [10]) (EX := EXA) ttok mixed Try.func73 rfl (by kernel_rfl) (by decide) ?_
  generalize hA : real = A
  generalize hM : Meets Try.prog = M
  cbv
  repeat' first
    | apply And.intro
    | exact True.intro
    | with_reducible rfl
    | exact same_of hA rfl
    | refine br_of hA (fun _ => ?_) (fun _ => ?_)
    | exact imp_of hA id
    | (refine imp_of hA ?_; subst hA; simp only [real, Bool.true_and]; exact id)
    | (refine ind_of hA ?_; decide +kernel)
    | (refine call_of hA hM _ c0 ?_; cbv)
  refine loop_of hA (α := { y : Nat × Int × Int × (Nat → List DV) // y.1 ≤ N ∧ y.2.1 = x0 - (y.1 : Int) ∧ y.2.2.1 = p1 + 5 * (y.1 : Int) ∧ ∀ j, j < y.1 → y.2.2.2 j = eItm (G j) }) (fun y => st_recs m b n y.1.2.1 y.1.2.2.1 y.1.1 y.1.2.2.2) (fun y => N - y.1.1) ⟨(0, x0, p1, fun _ => []), Nat.zero_le _, by simp, by simp, fun j h => absurd h (Nat.not_lt_zero j)⟩ ?_ ?_
  · refine cov_of ?_ ?_ ?_
    · cbv; try (subst hA; repeat' first | apply And.intro | exact True.intro | rfl)
    · cbv; try (subst hA; repeat' first | apply And.intro | exact True.intro | rfl | (intro k hk; exact absurd hk (Nat.not_lt_zero k)))
    · cbv; try (subst hA; repeat' first | apply And.intro | exact True.intro | rfl | exact .inr trivial | exact .inr (Nat.le_refl _))
  rintro ⟨⟨i, kk, pz, row⟩, hi, hkk, hpz, hr⟩
  have hi : i ≤ N := hi
  have hkk : kk = x0 - (i : Int) := hkk
  have hpz : pz = p1 + 5 * (i : Int) := hpz
  have hr : ∀ j, j < i → row j = eItm (G j) := hr
  have hpzr : 0 ≤ pz ∧ pz ≤ 90000 := by omega
  obtain ⟨r1, hr1⟩ : ∃ z : Int, z = pz + 4 := ⟨_, rfl⟩
  have cR := hR pz (by omega) r1 hr1
  obtain ⟨xk, hxk⟩ : ∃ x : Int, x = pickV m b r1 2 := ⟨_, rfl⟩
  obtain ⟨r2, hr2⟩ : ∃ z : Int, z = r1 + 1 := ⟨_, rfl⟩
  have cK := m_pick m hm b hb r1 (by omega) 2 (by omega) xk hxk r2 hr2
  have wk : IntKind.i64.wrap (kk - 1) = kk - 1 := IntWalk.i64_in _ (by omega)
  cbv
  repeat' first
    | apply And.intro
    | exact True.intro
    | with_reducible rfl
    | exact same_of hA rfl
    | refine br_of hA (fun _ => ?_) (fun _ => ?_)
    | exact imp_of hA id
    | (refine imp_of hA ?_; subst hA; simp only [real, Bool.true_and]; exact id)
    | (refine ind_of hA ?_; decide +kernel)
    | (refine call_of hA hM _ cR ?_; cbv)
    | (refine call_of hA hM _ cK ?_; cbv)
    | exact room_add hA (by omega) (by decide)
  · rename_i hgt
    have hgt' : kk > 0 := by subst hA; exact of_decide_eq_true (show decide (kk > 0) = true from hgt)
    have hN : (N : Int) = x0 := hN
    have hkk : kk = x0 - (i : Int) := hkk
    have hpz : pz = p1 + 5 * (i : Int) := hpz
    have hpe : pe = p1 + 5 * (N : Int) := hpe
    have hiN : i < N := by omega
    obtain ⟨kk2, hkk2⟩ : ∃ z : Int, z = x0 - ((i + 1 : Nat) : Int) := ⟨_, rfl⟩
    have wk2 : IntKind.i64.wrap (kk - 1) = kk2 := by rw [wk]; omega
    refine ⟨⟨(i + 1, kk2, r2, fun k => if k < i then row k else eItm { R pz with key := xk }), by simp only; omega, hkk2, (show r2 = p1 + 5 * ((i + 1 : Nat) : Int) by omega), fun k hk => ?_⟩, by simp only; omega, cov_of ?_ ?_ ?_⟩
    · have hk : k < i + 1 := hk
      show (if k < i then row k else eItm { R pz with key := xk }) = eItm (G k)
      by_cases hki : k < i
      · rw [if_pos hki]; exact hr k hki
      · have e : k = i := by omega
        rw [if_neg hki, e, hG]
        show eItm { R pz with key := xk } = eItm (if i = N then itl else { R (p1 + 5 * (i : Int)) with key := pickV m b (p1 + 5 * (i : Int) + 4) 2 })
        rw [if_neg (by omega), hxk, hr1, hpz]
    · cbv
      subst hA
      repeat' first | apply And.intro | exact True.intro | exact congrArg (fun x => DV.v (.int .i64 x)) wk2 | rfl
    · cbv
      subst hA
      repeat' first | apply And.intro | exact True.intro | rfl | (intro k hk; exact push_at rfl _ _ _ _ k hk)
    · cbv; try (subst hA; repeat' first | apply And.intro | exact True.intro | rfl | exact .inr trivial | exact .inr (Nat.le_refl _))
  · rename_i hle
    have hle' : ¬ kk > 0 := by subst hA; exact of_decide_eq_false (show decide (kk > 0) = false from hle)
    have hN : (N : Int) = x0 := hN
    have hkk : kk = x0 - (i : Int) := hkk
    have hpz : pz = p1 + 5 * (i : Int) := hpz
    have hpe : pe = p1 + 5 * (N : Int) := hpe
    have hiN : i = N := by omega
    subst hiN
    have hpe' : pz = pe := by omega
    subst hpe'
    cbv
    repeat' first
      | apply And.intro
      | exact True.intro
      | with_reducible rfl
      | exact same_of hA rfl
      | refine br_of hA (fun _ => ?_) (fun _ => ?_)
      | exact imp_of hA id
      | (refine imp_of hA ?_; subst hA; simp only [real, Bool.true_and]; exact id)
      | (refine ind_of hA ?_; decide +kernel)
      | (refine call_of hA hM _ c1 ?_; cbv)
      | (refine call_of hA hM _ hitl ?_; cbv)
      | exact room_add hA (by omega) (by decide)
    · rename_i hx
      have hx : (x1 == 0) = true := by subst hA; exact hx
      have hc : i + 1 = cnt := by rw [hcnt, hx]; rfl
      have hq2 : ql = q := by rw [hq, hx]; rfl
      clear hcnt hq
      subst hc
      subst hq2
      refine stop_of hA ⟨[(5, .c (.own 512 0 (i + 1) 1)), (0, .c (.bp 0 1 0))], [(0, 1, .box [.d (.sl 1 m fun i => [eU (b i)]), .d (eI ql)]), (512, 1, .arr 5 (i + 1) fun k => eItm (G k))]⟩ (cov_of ?_ ?_ ?_) ?_
      · cbv; try (subst hA; repeat' first | apply And.intro | exact True.intro | rfl)
      · cbv
        subst hA
        repeat' first | apply And.intro | exact True.intro | rfl
        intro k hk
        refine (push_at rfl _ _ _ _ k hk).trans ?_
        show (if k < i then row k else eItm itl) = eItm (G k)
        by_cases hki : k < i
        · rw [if_pos hki]; exact hr k hki
        · have hk2 : k < i + 1 := hk
          have e : k = i := by omega
          rw [if_neg hki, e, hG]
          show eItm itl = eItm (if i = i then itl else _)
          rw [if_pos rfl]
      · cbv; try (subst hA; repeat' first | apply And.intro | exact True.intro | rfl | exact .inr trivial | exact .inr (Nat.le_refl _))
      · cbv
        repeat' first
          | apply And.intro
          | exact True.intro
          | with_reducible rfl
          | exact same_of hA rfl
          | refine br_of hA (fun _ => ?_) (fun _ => ?_)
          | exact imp_of hA id
          | (refine imp_of hA ?_; subst hA; simp only [real, Bool.true_and]; exact id)
          | (refine ind_of hA ?_; decide +kernel)
    · rename_i hx
      have hx : (x1 == 0) = false := by subst hA; exact hx
      have hc : i = cnt := by rw [hcnt, hx]; rfl
      have hq2 : p2 = q := by rw [hq, hx]; rfl
      clear hcnt hq
      subst hc
      subst hq2
      refine stop_of hA ⟨[(5, .c (.own 512 0 (i) 1)), (0, .c (.bp 0 1 0))], [(0, 1, .box [.d (.sl 1 m fun i => [eU (b i)]), .d (eI p2)]), (512, 1, .arr 5 (i) fun k => eItm (G k))]⟩ (cov_of ?_ ?_ ?_) ?_
      · cbv; try (subst hA; repeat' first | apply And.intro | exact True.intro | rfl)
      · cbv
        subst hA
        repeat' first | apply And.intro | exact True.intro | rfl
        all_goals exact hr
      · cbv; try (subst hA; repeat' first | apply And.intro | exact True.intro | rfl | exact .inr trivial | exact .inr (Nat.le_refl _))
      · cbv
        repeat' first
          | apply And.intro
          | exact True.intro
          | with_reducible rfl
          | exact same_of hA rfl
          | refine br_of hA (fun _ => ?_) (fun _ => ?_)
          | exact imp_of hA id
          | (refine imp_of hA ?_; subst hA; simp only [real, Bool.true_and]; exact id)
          | (refine ind_of hA ?_; decide +kernel)
end Go.Rk
/- Pairs: comparisons and the draw. -/
namespace Go.Rk
set_option linter.unusedSimpArgs false
set_option linter.unusedVariables false
open Go.Proofs
set_option maxRecDepth 100000
set_option maxHeartbeats 1000000
def st_frLates (n : Nat) (g : Nat → LatT) (i : Nat) : St := ⟨[(5, .c (.d (eI i))), (0, .c (.d (.sl 7 n fun i => eLat (g i)))), (1, .c (.d (.sl 7 n fun i => eLat (g i))))], []⟩
theorem c_frLates (n : Nat) (hn : n ≤ maxLen) (g : Nat → LatT) : Meets Try.prog 24 [.c (.d (.sl 7 n fun i => eLat (g i))), .c (.d (.sl 7 n fun i => eLat (g i)))] ⟨.one (.c (.d (eB true))), [none, none]⟩ := by
  refine meets_of (H := []) (EX := EXA) ttok mixed Try.func24 rfl (by kernel_rfl) (by decide) ?_
  generalize hA : real = A
  generalize hM : Meets Try.prog = M
  cbv
  repeat' first
    | (refine br_f hA ?_ ?_; focus (subst hA; simp [real]; done))
    | apply And.intro
    | exact True.intro
    | with_reducible rfl
    | exact same_of hA rfl
    | refine br_of hA (fun _ => ?_) (fun _ => ?_)
    | exact imp_of hA id
    | (refine imp_of hA ?_; subst hA; simp only [real, Bool.true_and]; exact id)
    | (refine ind_of hA ?_; decide +kernel)
  refine loop_of hA (α := { i : Nat // i ≤ n }) (fun x => st_frLates n g x.1) (fun x => n - x.1) ⟨0, Nat.zero_le _⟩ ?_ ?_
  · refine cov_of ?_ ?_ ?_
    · cbv; try (subst hA; repeat' first | apply And.intro | exact True.intro | rfl)
    · cbv; try (subst hA; repeat' first | apply And.intro | exact True.intro | rfl)
    · cbv
  rintro ⟨i, hi⟩
  cbv
  repeat' first
    | (refine br_f hA ?_ ?_; focus (subst hA; simp [real]; done))
    | apply And.intro
    | exact True.intro
    | with_reducible rfl
    | exact same_of hA rfl
    | refine br_of hA (fun _ => ?_) (fun _ => ?_)
    | exact imp_of hA id
    | (refine imp_of hA ?_; subst hA; simp only [real, Bool.true_and]; exact id)
    | (refine ind_of hA ?_; decide +kernel)
    | (refine inb_of hA fun _ => ?_; subst hA; simp only [real, Bool.and_eq_true, Bool.not_eq_true', Bool.not_eq_false', decide_eq_true_eq, Int.ofNat_eq_natCast, IntKind.wrap_i64] at *; omega)
  rename_i hlt
  have hlt' : i < n := by subst hA; simp only [real, decide_eq_true_eq, Int.ofNat_eq_natCast] at hlt; omega
  refine ⟨⟨i + 1, by omega⟩, by simp only; omega, cov_of ?_ ?_ ?_⟩
  · cbv
    subst hA
    repeat' first | apply And.intro | exact True.intro | exact congrArg (fun x => DV.v (.int .i64 x)) (up64 hlt' hn) | rfl | (intro k hk; exact push_at rfl _ _ _ _ k hk)
  · cbv; try (subst hA; repeat' first | apply And.intro | exact True.intro | rfl)
  · cbv
theorem c_frOk : Meets Try.prog 28 [] ⟨.one (.c (.d (eB true))), []⟩ := by
  have h : Meets Try.prog 63 [.agg [.d (eI 0), .d (eI 1)]] ⟨.one (.c (.d (eB true))), [none]⟩ := by
    obtain ⟨b, hb, h⟩ := c_WinOk 0 1
    have e : b = true := by rw [hb]; decide
    rw [e] at h; exact h
  refine meets_of (H := []) (EX := EXA) ttok mixed Try.func28 rfl (by kernel_rfl) (by decide) ?_
  generalize hA : real = A
  generalize hM : Meets Try.prog = M
  cbv
  repeat' first
    | apply And.intro
    | exact True.intro
    | with_reducible rfl
    | exact same_of hA rfl
    | refine br_of hA (fun _ => ?_) (fun _ => ?_)
    | exact imp_of hA id
    | (refine imp_of hA ?_; subst hA; simp only [real, Bool.true_and]; exact id)
    | (refine ind_of hA ?_; decide +kernel)
    | (refine call_of hA hM _ h ?_; cbv)
open Classical in
set_option maxRecDepth 100000 in
theorem c_LatOk (l : LatT) : ∃ b, (b = true ↔ LatOkP l) ∧ Meets Try.prog 27 [xd (eLat l)] ⟨.one (.c (.d (eB b))), [none]⟩ := by
  obtain ⟨b, hb⟩ : ∃ b, b = decide (LatOkP l) := ⟨_, rfl⟩
  refine ⟨b, by rw [hb, decide_eq_true_eq], ?_⟩
  refine meets_of (H := []) (EX := EXA) ttok mixed Try.func27 rfl (by kernel_rfl) (by decide) ?_
  generalize hA : real = A
  generalize hM : Meets Try.prog = M
  cbv
  repeat' first
    | apply And.intro
    | exact True.intro
    | with_reducible rfl
    | exact same_of hA rfl
    | refine br_of hA (fun _ => ?_) (fun _ => ?_)
    | exact imp_of hA id
    | (refine imp_of hA ?_; subst hA; simp only [real, Bool.true_and]; exact id)
    | (refine ind_of hA ?_; decide +kernel)
    | (refine call_ex hA hM (c_isRec _ _ _ _ _) (fun _ _ => ?_); cbv)
    | (refine call_ex hA hM (c_WinOk _ _) (fun _ _ => ?_); cbv)
    | (refine call_ex hA hM (c_in _ _ _) (fun _ _ => ?_); cbv)
  all_goals obtain ⟨⟨kind, t, key, v, n⟩, ⟨s, e⟩⟩ := l
  all_goals subst hA
  all_goals refine congrArg (fun b => XA.one (.c (.d (eB b)))) (Bool.eq_iff_iff.2 ?_)
  all_goals subst_vars
  all_goals simp only [real, bifA, bifB, bifC, bifD, beqB, decide_eq_true_eq, decide_eq_false_iff_not, beqI, bneI, beqIF, bneIF, ne_eq, Bool.and_eq_true, Bool.or_eq_true, Bool.not_eq_true', Bool.not_eq_false', Bool.and_eq_false_iff, Bool.or_eq_false_iff, Bool.false_eq_true, and_false, false_and, or_false, false_or, and_true, true_and, not_true_eq_false, not_false_eq_true, true_iff, false_iff, IntKind.wrap_i64, LatOkP, ItmOkP, WinOkP, AggOkP] at *
  all_goals omega
theorem c_draw (M0 : Nat) (b : Nat → Int) (hb : ∀ i, 0 ≤ b i ∧ b i ≤ 255) : ∃ (j : JobT) (cnt : Nat) (G : Nat → ItmT), cnt ≤ 15 ∧ Meets Try.prog 22 [.c (.d (.sl 1 M0 fun i => [eU (b i)]))] ⟨.tup [xd (eJob j), .c (.own 5 cnt fun i => eItm (G i))], [none]⟩ := by
  obtain ⟨m, hm⟩ : ∃ m : Nat, m = if 2000 < M0 then 2000 else M0 := ⟨_, rfl⟩
  have hm2 : m ≤ 2000 := by rw [hm]; split <;> omega
  have ho := m_open M0 b m hm
  obtain ⟨j, q, hq, hj⟩ := c_anyJob m hm2 b hb 0 (by omega) 16 (by omega)
  obtain ⟨cnt, G, q2, hc, hr⟩ := c_recs m hm2 b hb q (by omega) 16 (by omega)
  refine ⟨j, cnt, G, hc, ?_⟩
  refine meets_of (H := []) (EX := EXA) ttok mixed Try.func22 rfl (by kernel_rfl) (by decide) ?_
  generalize hA : real = A
  generalize hM : Meets Try.prog = M
  cbv
  repeat' first
    | apply And.intro
    | exact True.intro
    | with_reducible rfl
    | exact same_of hA rfl
    | refine br_of hA (fun _ => ?_) (fun _ => ?_)
    | exact imp_of hA id
    | (refine imp_of hA ?_; subst hA; simp only [real, Bool.true_and]; exact id)
    | (refine ind_of hA ?_; decide +kernel)
    | (refine call_of hA hM _ ho ?_; cbv)
    | (refine call_of hA hM _ hj ?_; cbv)
    | (refine call_of hA hM _ hr ?_; cbv)
end Go.Rk
/- What the laws of tables need. -/
namespace Go.Rk
set_option linter.unusedSimpArgs false
set_option linter.unusedVariables false
open Go.Proofs
set_option maxRecDepth 100000
set_option maxHeartbeats 1000000
def st_frTab (n : Nat) (g : Nat → TabT) (i : Nat) : St := ⟨[(5, .c (.d (eI i))), (0, .c (.d (.sl 7 n fun i => eTab (g i)))), (1, .c (.d (.sl 7 n fun i => eTab (g i))))], []⟩
theorem c_frTab (n : Nat) (hn : n ≤ maxLen) (g : Nat → TabT) : Meets Try.prog 46 [.c (.d (.sl 7 n fun i => eTab (g i))), .c (.d (.sl 7 n fun i => eTab (g i)))] ⟨.one (.c (.d (eB true))), [none, none]⟩ := by
  refine meets_of (H := []) (EX := EXA) ttok mixed Try.func46 rfl (by kernel_rfl) (by decide) ?_
  generalize hA : real = A
  generalize hM : Meets Try.prog = M
  cbv
  repeat' first
    | (refine br_f hA ?_ ?_; focus (subst hA; simp [real]; done))
    | apply And.intro
    | exact True.intro
    | with_reducible rfl
    | exact same_of hA rfl
    | refine br_of hA (fun _ => ?_) (fun _ => ?_)
    | exact imp_of hA id
    | (refine imp_of hA ?_; subst hA; simp only [real, Bool.true_and]; exact id)
    | (refine ind_of hA ?_; decide +kernel)
  refine loop_of hA (α := { i : Nat // i ≤ n }) (fun x => st_frTab n g x.1) (fun x => n - x.1) ⟨0, Nat.zero_le _⟩ ?_ ?_
  · refine cov_of ?_ ?_ ?_
    · cbv; try (subst hA; repeat' first | apply And.intro | exact True.intro | rfl)
    · cbv; try (subst hA; repeat' first | apply And.intro | exact True.intro | rfl)
    · cbv
  rintro ⟨i, hi⟩
  cbv
  repeat' first
    | (refine br_f hA ?_ ?_; focus (subst hA; simp [real]; done))
    | apply And.intro
    | exact True.intro
    | with_reducible rfl
    | exact same_of hA rfl
    | refine br_of hA (fun _ => ?_) (fun _ => ?_)
    | exact imp_of hA id
    | (refine imp_of hA ?_; subst hA; simp only [real, Bool.true_and]; exact id)
    | (refine ind_of hA ?_; decide +kernel)
    | (refine inb_of hA fun _ => ?_; subst hA; simp only [real, Bool.and_eq_true, Bool.not_eq_true', Bool.not_eq_false', decide_eq_true_eq, Int.ofNat_eq_natCast, IntKind.wrap_i64] at *; omega)
  rename_i hlt
  have hlt' : i < n := by subst hA; simp only [real, decide_eq_true_eq, Int.ofNat_eq_natCast] at hlt; omega
  refine ⟨⟨i + 1, by omega⟩, by simp only; omega, cov_of ?_ ?_ ?_⟩
  · cbv
    subst hA
    repeat' first | apply And.intro | exact True.intro | exact congrArg (fun x => DV.v (.int .i64 x)) (up64 hlt' hn) | rfl | (intro k hk; exact push_at rfl _ _ _ _ k hk)
  · cbv; try (subst hA; repeat' first | apply And.intro | exact True.intro | rfl)
  · cbv
def st_tc (n : Nat) (g : Nat → TabT) (i : Nat) (s : Int) : St := ⟨[(8, .c (.d (eI i))), (7, .c (.d (eI n))), (6, .c (.d (.sl 7 n fun i => eTab (g i)))), (3, .c (.d (eI s)))], []⟩
theorem c_TabCount (T : List TabT) (n : Nat) (g : Nat → TabT) (hT : Lst zTab T n g) (hn : n ≤ 1080000) (hs : ∀ i, i ≤ n → -1000000000 ≤ tCnt (T.take i) ∧ tCnt (T.take i) ≤ 1000000000) (c : Int) (hc : c = tCnt T) : Meets Try.prog 60 [.c (.d (.sl 7 n fun i => eTab (g i)))] ⟨.one (.c (.d (eI c))), [none]⟩ := by
  have hnL : n ≤ maxLen := Nat.le_trans hn (by decide)
  refine meets_of (H := []) (EX := EXA) ttok mixed Try.func60 rfl (by kernel_rfl) (by decide) ?_
  generalize hA : real = A
  generalize hM : Meets Try.prog = M
  cbv
  repeat' first
    | apply And.intro
    | exact True.intro
    | with_reducible rfl
    | exact same_of hA rfl
    | refine br_of hA (fun _ => ?_) (fun _ => ?_)
    | exact imp_of hA id
    | (refine imp_of hA ?_; subst hA; simp only [real, Bool.true_and]; exact id)
    | (refine ind_of hA ?_; decide +kernel)
  refine loop_of hA (α := { q : Nat × Int // q.1 ≤ n ∧ q.2 = tCnt (T.take q.1) }) (fun y => st_tc n g y.1.1 y.1.2) (fun y => n - y.1.1) ⟨(0, 0), Nat.zero_le _, rfl⟩ ?_ ?_
  · refine cov_of ?_ ?_ ?_
    · cbv; try (subst hA; repeat' first | apply And.intro | exact True.intro | rfl | fail)
    · cbv; try (subst hA; repeat' first | apply And.intro | exact True.intro | rfl | (intro _ _; rfl) | (intro k hk; exact absurd hk (Nat.not_lt_zero k)) | fail)
    · cbv; try (subst hA; repeat' first | apply And.intro | exact True.intro | rfl | exact .inr trivial | exact .inl trivial)
  rintro ⟨⟨i, s⟩, hi, hsm⟩
  have hi : i ≤ n := hi
  have hsm : s = tCnt (T.take i) := hsm
  obtain ⟨s', hs'⟩ : ∃ z : Int, z = s + (g i).agg.n := ⟨_, rfl⟩
  have hstep : i < n → s' = tCnt (T.take (i + 1)) := fun h => by
    rw [lst_take hT h, tCnt_app, ← hsm, hs']
    simp [tCnt]
  cbv
  repeat' first
    | apply And.intro
    | exact True.intro
    | with_reducible rfl
    | exact same_of hA rfl
    | refine br_of hA (fun _ => ?_) (fun _ => ?_)
    | exact imp_of hA id
    | (refine imp_of hA ?_; subst hA; simp only [real, Bool.true_and]; exact id)
    | (refine ind_of hA ?_; decide +kernel)
    | (refine inb_lt hA ?_; first | exact lt2_of hA (by assumption) | exact lt_of hA (by assumption))
  · rename_i hlt
    have hlt' : i < n := by first | exact lt2_of hA hlt | exact lt_of hA hlt
    refine ⟨⟨(i + 1, s'), hlt', hstep hlt'⟩, by simp only; omega, cov_of ?_ ?_ ?_⟩
    · cbv; subst hA
      have hw : IntKind.i64.wrap (s + (g i).agg.n) = s' := by
        rw [← hs', IntWalk.i64_in]
        have := hs (i + 1) hlt'
        rw [← hstep hlt'] at this
        omega
      repeat' first | apply And.intro | exact True.intro | exact congrArg (fun x => DV.v (.int .i64 x)) hw | exact congrArg (fun x => DV.v (.int .i64 x)) (up64 hlt' hnL) | rfl
    · cbv; try (subst hA; repeat' first | apply And.intro | exact True.intro | rfl)
    · cbv; try (subst hA; repeat' first | apply And.intro | exact True.intro | rfl | exact .inr trivial)
  · rename_i hge
    have hin : i = n := by first | (have := ge2_of hA hge; omega) | (have := ge_of hA hge; omega)
    subst hin
    rw [lst_all hT, ← hc] at hsm
    subst hsm
    rfl
def st_ft (n : Nat) (g : Nat → ItmT) (v : Int) (c : Nat) (R : Nat → ItmT) : St := ⟨[(4, .c (.d (eI v))), (0, .c (.d (.sl 5 n fun i => eItm (g i)))), (3, .c (.own 320 0 c 1))], [(320, 1, .arr 5 c fun k => eItm (R k))]⟩
theorem c_frTurned (n : Nat) (g : Nat → ItmT) (hn : n ≤ 1000000) : Meets Try.prog 61 [.c (.d (.sl 5 n fun i => eItm (g i)))] ⟨.one (.c (.own 5 n fun i => eItm (g (n - 1 - i)))), [none]⟩ := by
  obtain ⟨v0, hv0⟩ : ∃ v : Int, v = (n : Int) - 1 := ⟨_, rfl⟩
  refine meets_of (H := [6]) (EX := EXA) ttok mixed Try.func61 rfl (by kernel_rfl) (by decide) ?_
  generalize hA : real = A
  generalize hM : Meets Try.prog = M
  cbv
  repeat' first
    | apply And.intro
    | exact True.intro
    | with_reducible rfl
    | exact same_of hA rfl
    | refine br_of hA (fun _ => ?_) (fun _ => ?_)
    | exact imp_of hA id
    | (refine imp_of hA ?_; subst hA; simp only [real, Bool.true_and]; exact id)
    | (refine ind_of hA ?_; decide +kernel)
  refine loop_of hA (α := { q : Int × Nat × (Nat → ItmT) // q.1 = (n : Int) - 1 - (q.2.1 : Int) ∧ q.2.1 ≤ n ∧ ∀ k, k < q.2.1 → q.2.2 k = g (n - 1 - k) }) (fun y => st_ft n g y.1.1 y.1.2.1 y.1.2.2) (fun y => n - y.1.2.1) ⟨(v0, 0, fun _ => g 0), by simp [hv0], Nat.zero_le _, fun k h => absurd h (Nat.not_lt_zero k)⟩ ?_ ?_
  · refine cov_of ?_ ?_ ?_
    · cbv; subst hA
      have hw : IntKind.i64.wrap ((n : Int) - 1) = v0 := by rw [IntWalk.i64_in _ (by omega), hv0]
      repeat' first | apply And.intro | exact True.intro | exact congrArg (fun x => DV.v (.int .i64 x)) hw | rfl
    · cbv; try (subst hA; repeat' first | apply And.intro | exact True.intro | rfl | (intro k hk; exact absurd hk (Nat.not_lt_zero k)))
    · cbv; try (subst hA; repeat' first | apply And.intro | exact True.intro | rfl | exact .inr trivial)
  rintro ⟨⟨v, c, R⟩, hv, hc, hR⟩
  have hv : v = (n : Int) - 1 - (c : Int) := hv
  have hc : c ≤ n := hc
  have hR : ∀ k, k < c → R k = g (n - 1 - k) := hR
  obtain ⟨v', hv'⟩ : ∃ z : Int, z = v - 1 := ⟨_, rfl⟩
  cbv
  repeat' first
    | apply And.intro
    | exact True.intro
    | with_reducible rfl
    | exact same_of hA rfl
    | refine br_of hA (fun _ => ?_) (fun _ => ?_)
    | exact imp_of hA id
    | (refine imp_of hA ?_; subst hA; simp only [real, Bool.true_and]; exact id)
    | (refine ind_of hA ?_; decide +kernel)
    | (rename_i hx; refine inb_of hA (fun h0 => ?_); subst hA; have hx : v ≥ 0 := of_decide_eq_true hx; have hv : v = (n : Int) - 1 - (c : Int) := hv; omega)
    | exact room_add2 hA (by omega) (by decide)
  · rename_i hlt
    have hlt : v ≥ 0 := by subst hA; exact of_decide_eq_true hlt
    have hv : v = (n : Int) - 1 - (c : Int) := hv
    have hc : c ≤ n := hc
    refine ⟨⟨(v', c + 1, fun q => if q < c then R q else g v.toNat), show v' = (n : Int) - 1 - ((c + 1 : Nat) : Int) by omega, show c + 1 ≤ n by omega, fun k hk => ?_⟩, by simp only; omega, cov_of ?_ ?_ ?_⟩
    · simp only
      split
      · exact hR k (by assumption)
      · have : v.toNat = n - 1 - k := by have hk : k < c + 1 := hk; omega
        rw [this]
    · cbv; subst hA
      have hw : IntKind.i64.wrap (v - 1) = v' := by rw [IntWalk.i64_in _ (by have hv : v = (n : Int) - 1 - (c : Int) := hv; omega), hv']
      repeat' first | apply And.intro | exact True.intro | exact congrArg (fun x => DV.v (.int .i64 x)) hw | rfl
    · cbv
      subst hA
      repeat' first | apply And.intro | exact True.intro | rfl | (intro q hq; exact push_if eItm rfl c R _ _ q hq)
    · cbv; try (subst hA; repeat' first | apply And.intro | exact True.intro | rfl | exact .inr trivial)
  · rename_i hge
    have hge : ¬ v ≥ 0 := by subst hA; exact of_decide_eq_false hge
    have hv : v = (n : Int) - 1 - (c : Int) := hv
    have hcn : c = n := by omega
    subst hcn
    refine stop_of hA ⟨[(3, .c (.own 320 0 c 1))], [(320, 1, .arr 5 c fun i => eItm (g (c - 1 - i)))]⟩ (cov_of ?_ ?_ ?_) ?_
    · cbv
    · cbv
      exact ⟨fun q hq => congrArg eItm (hR q hq), trivial⟩
    · cbv
    · cbv
      repeat' first
        | apply And.intro
        | exact True.intro
        | with_reducible rfl
        | exact same_of hA rfl
        | refine br_of hA (fun _ => ?_) (fun _ => ?_)
        | exact imp_of hA id
        | (refine imp_of hA ?_; subst hA; simp only [real, Bool.true_and]; exact id)
        | (refine ind_of hA ?_; decide +kernel)
theorem c_drawT (M0 : Nat) (b : Nat → Int) (hb : ∀ i, 0 ≤ b i ∧ b i ≤ 255) : ∃ (j : JobT) (cnt : Nat) (G : Nat → ItmT), cnt ≤ 15 ∧ Meets Try.prog 57 [.c (.d (.sl 1 M0 fun i => [eU (b i)]))] ⟨.tup [xd (eJob j), .c (.d (.sl 5 cnt fun i => eItm (G i)))], [none]⟩ := by
  obtain ⟨j, cnt, G, hc, hD⟩ := c_draw M0 b hb
  refine ⟨j, cnt, G, hc, ?_⟩
  have hD := meets_frz hD rfl
  refine meets_of (H := []) (EX := EXA) ttok mixed Try.func57 rfl (by kernel_rfl) (by decide) ?_
  generalize hA : real = A
  generalize hM : Meets Try.prog = M
  cbv
  repeat' first
    | apply And.intro
    | exact True.intro
    | with_reducible rfl
    | exact same_of hA rfl
    | refine br_of hA (fun _ => ?_) (fun _ => ?_)
    | exact imp_of hA id
    | (refine imp_of hA ?_; subst hA; simp only [real, Bool.true_and]; exact id)
    | (refine ind_of hA ?_; decide +kernel)
    | (refine call_of hA hM _ hD ?_; cbv)
end Go.Rk
/- Sessions, and tables of records: impl. -/
namespace Go.Rk
set_option linter.unusedSimpArgs false
set_option linter.unusedVariables false
open Go.Proofs
set_option maxRecDepth 100000
set_option maxHeartbeats 1000000
def st_SpcT (j : JobT) (n : Nat) (gp : Nat → LatT) (i c : Nat) (G : Nat → TabT) : St := ⟨[(15, .c (.d (eI i))), (14, .c (.d (eI n))), (13, .c (.d (.sl 7 n fun i => eLat (gp i)))), (5, .c (.own 320 0 c 1)), (2, .c (.bp 128 1 0))], [(128, 1, .box ((eJob j).map .d)), (320, 1, .arr 7 c fun k => eTab (G k))]⟩
def st_SpcTi (j : JobT) (n : Nat) (gp : Nat → LatT) (i c : Nat) (G : Nat → TabT) (i2 c2 : Nat) (G2 : Nat → TabT) (sp : WinT) (a : AggT) : St := ⟨[(42, .c (.d (eI i2))), (41, .c (.d (eI c))), (40, .c (.d (.sl 7 c fun k => eTab (G k)))), (5, .c (.d (.sl 7 c2 fun k => eTab (G2 k)))), (8, .c (.bp 512 1 0)), (7, .c (.bp 448 1 0)), (15, .c (.d (eI i))), (14, .c (.d (eI n))), (13, .c (.d (.sl 7 n fun i => eLat (gp i)))), (2, .c (.bp 128 1 0))], [(512, 1, .box ((eTab ⟨(gp i).itm.key, sp, a⟩).map .d)), (448, 1, .box ((eLat (gp i)).map .d)), (128, 1, .box ((eJob j).map .d))]⟩
theorem c_SpcT (j : JobT) (m : Nat) (hm : m ≤ maxLen) (g : Nat → ItmT) (n0 : Nat) (G0 : Nat → TabT) (h0 : Lst zTab (spcT j.kind (spcL j m g)) n0 G0) : Meets Try.prog 58 [xd (eJob j), .c (.d (.sl 5 m fun i => eItm (g i)))] ⟨.one (.c (.own 7 n0 fun i => eTab (G0 i))), [none, none]⟩ := by
  obtain ⟨P, hP⟩ : ∃ P, P = spcL j m g := ⟨_, rfl⟩
  have hfi : Fine P := by rw [hP]; exact fine_spc j m g
  have hPl : P.length ≤ 12000 := by rw [hP]; exact spcL_len j m g
  rw [← hP] at h0
  obtain ⟨n, gp, hl⟩ := lst_ex zLat P
  have hn : n ≤ 12000 := by rw [hl.1]; exact hPl
  have hnL : n ≤ maxLen := Nat.le_trans hn (by decide)
  have cPair := meets_frz (c_Spc j m hm g n gp (by rw [← hP]; exact lst_tells eLat hl)) rfl
  refine meets_of (H := [19]) (EX := EXA) ttok mixed Try.func58 rfl (by kernel_rfl) (by decide) ?_
  generalize hA : real = A
  generalize hM : Meets Try.prog = M
  cbv
  repeat' first
    | apply And.intro
    | exact True.intro
    | with_reducible rfl
    | exact same_of hA rfl
    | refine br_of hA (fun _ => ?_) (fun _ => ?_)
    | exact imp_of hA id
    | (refine imp_of hA ?_; subst hA; simp only [real, Bool.true_and]; exact id)
    | (refine ind_of hA ?_; decide +kernel)
    | (refine call_of hA hM _ cPair ?_; cbv)
    | exact flat_lat hA _ _
  refine loop_of hA (α := { q : Nat × Nat × (Nat → TabT) // q.1 ≤ n ∧ Lst zTab ((P.take q.1).foldl (stepI j.kind) []) q.2.1 q.2.2 }) (fun y => st_SpcT j n gp y.1.1 y.1.2.1 y.1.2.2) (fun y => n - y.1.1) ⟨(0, 0, fun _ => zTab), Nat.zero_le _, rfl, fun k h => absurd h (Nat.not_lt_zero k)⟩ ?_ ?_
  · refine cov_prom 5 320 1 7 (fun _ => []) rfl rfl (cov_of ?_ ?_ ?_)
    · cbv; try (subst hA; repeat' first | apply And.intro | exact True.intro | rfl | fail)
    · cbv; try (subst hA; repeat' first | apply And.intro | exact True.intro | rfl | (intro _ _; rfl) | (intro k hk; exact absurd hk (Nat.not_lt_zero k)) | fail)
    · cbv; try (subst hA; repeat' first | apply And.intro | exact True.intro | rfl | exact .inr trivial | exact .inl trivial)
  rintro ⟨⟨i, c, G⟩, hi, hT⟩
  have hi : i ≤ n := hi
  obtain ⟨T, hTe⟩ : ∃ T, T = (P.take i).foldl (stepI j.kind) [] := ⟨_, rfl⟩
  have hT : Lst zTab T c G := by rw [hTe]; exact hT
  have hci : c ≤ i := by
    rw [hT.1, hTe]
    have h1 := fold_len (stepI_len j.kind) (P.take i) []
    rw [List.length_take] at h1
    simp only [List.length_nil] at h1
    omega
  have hnext : i < n → ∀ m H, Lst zTab (stepI j.kind T (gp i)) m H → i + 1 ≤ n ∧ Lst zTab ((P.take (i + 1)).foldl (stepI j.kind) []) m H := fun h m H hH => ⟨h, by rw [lst_take hl h, fold_snoc, ← hTe]; exact hH⟩
  obtain ⟨a, ha⟩ : ∃ a, a = (tFind (gp i).itm.key (gp i).win T).getD zAgg := ⟨_, rfl⟩
  obtain ⟨b, hb⟩ : ∃ b, b = (tFind (gp i).itm.key (gp i).win T).isSome := ⟨_, rfl⟩
  obtain ⟨ag, hag⟩ : ∃ x, x = aggAdd a (gp i).itm.v := ⟨_, rfl⟩
  obtain ⟨np, Gp, hPu⟩ := lst_ex zTab (tPut ⟨(gp i).itm.key, (gp i).win, ag⟩ T)
  have cF := c_Find T c G hT (by omega) (gp i).itm.key (gp i).win a ha b hb
  have cA := c_AggAdd a (gp i).itm.v ag hag
  have cP := c_Put T c G hT (by omega) _ np Gp hPu
  cbv
  repeat' first
    | apply And.intro
    | exact True.intro
    | with_reducible rfl
    | exact same_of hA rfl
    | refine br_of hA (fun _ => ?_) (fun _ => ?_)
    | exact imp_of hA id
    | (refine imp_of hA ?_; subst hA; simp only [real, Bool.true_and]; exact id)
    | (refine ind_of hA ?_; decide +kernel)
    | (refine inb_lt hA ?_; first | exact lt2_of hA (by assumption) | exact lt_of hA (by assumption))
    | exact flat_tab hA _ _
    | (refine call_of2 hA hM _ cF (by (subst hA; first | rfl | (simp only [sub0r]; try rfl))) ?_; cbv)
    | (refine call_of2 hA hM _ cA (by (subst hA; first | rfl | (simp only [sub0r]; try rfl))) ?_; cbv)
    | (refine call_of2 hA hM _ cP (by (subst hA; first | rfl | (simp only [sub0r]; try rfl))) ?_; cbv)
  · rename_i hlt hk
    have hlt' : i < n := by first | exact lt2_of hA hlt | exact lt_of hA hlt
    have hk : j.kind = 3 := by subst hA; exact of_decide_eq_true hk
    refine loop_of hA (α := { q : Nat × Nat × (Nat → TabT) × WinT × AggT // q.1 ≤ c ∧ Lst zTab (T.filter fun r => !((T.take q.1).any fun s => tchD (gp i).itm.key (gp i).win s && decide (IsRow s.key s.win r))) q.2.1 q.2.2.1 ∧ q.2.2.2.1 = (((T.take q.1).filter (tchD (gp i).itm.key (gp i).win)).map (·.win)).foldl winSpan (gp i).win ∧ q.2.2.2.2 = (((T.take q.1).filter (tchD (gp i).itm.key (gp i).win)).map (·.agg)).foldl aggB zAgg }) (fun y => st_SpcTi j n gp i c G y.1.1 y.1.2.1 y.1.2.2.1 y.1.2.2.2.1 y.1.2.2.2.2) (fun y => c - y.1.1) ⟨(0, c, G, (gp i).win, zAgg), Nat.zero_le _, ?_, rfl, rfl⟩ ?_ ?_
    · have e : (T.filter fun r => !((T.take 0).any fun s => tchD (gp i).itm.key (gp i).win s && decide (IsRow s.key s.win r))) = T := by rw [List.filter_eq_self]; intro r _; rfl
      simp only
      rw [e]; exact hT
    · refine cov_frz2 (k := 5) (k2 := 40) (l := 320) rfl rfl rfl (cov_of ?_ ?_ ?_)
      · cbv; try (subst hA; repeat' first | apply And.intro | exact True.intro | rfl | (intro _ _; rfl))
      · cbv; try (subst hA; repeat' first | apply And.intro | exact True.intro | rfl | (intro _ _; rfl) | (intro k hk; exact absurd hk (Nat.not_lt_zero k)) | (intro _ _; rfl))
      · cbv; try (subst hA; repeat' first | apply And.intro | exact True.intro | rfl | exact .inr trivial | exact .inl trivial)
    rintro ⟨⟨i2, c2, G2, sp, a2⟩, hi2, hG2, hsp, ha2⟩
    have hi2 : i2 ≤ c := hi2
    have hsp : sp = (((T.take i2).filter (tchD (gp i).itm.key (gp i).win)).map (·.win)).foldl winSpan (gp i).win := hsp
    have ha2 : a2 = (((T.take i2).filter (tchD (gp i).itm.key (gp i).win)).map (·.agg)).foldl aggB zAgg := ha2
    obtain ⟨T2, hT2⟩ : ∃ T2, T2 = T.filter fun r => !((T.take i2).any fun s => tchD (gp i).itm.key (gp i).win s && decide (IsRow s.key s.win r)) := ⟨_, rfl⟩
    have hG2 : Lst zTab T2 c2 G2 := by rw [hT2]; exact hG2
    have hc2 : c2 ≤ c := by rw [hG2.1, hT2, hT.1]; exact List.length_filter_le _ _
    obtain ⟨no, Go, hO⟩ := lst_ex zTab (tOut (G i2).key (G i2).win T2)
    obtain ⟨sp', hsp'⟩ : ∃ z, z = winSpan sp (G i2).win := ⟨_, rfl⟩
    obtain ⟨a2', ha2'⟩ : ∃ z, z = aggB a2 (G i2).agg := ⟨_, rfl⟩
    have cO := meets_frz (c_Out T2 c2 G2 hG2 (by omega) (G i2).key (G i2).win no Go hO) rfl
    have cS := c_WinSpan sp (G i2).win sp' hsp'
    have cB := c_AggBoth a2 (G i2).agg a2' ha2'
    cbv
    repeat' first
      | apply And.intro
      | exact True.intro
      | with_reducible rfl
      | exact same_of hA rfl
      | refine br_of hA (fun _ => ?_) (fun _ => ?_)
      | exact imp_of hA id
      | (refine imp_of hA ?_; subst hA; simp only [real, Bool.true_and]; exact id)
      | (refine ind_of hA ?_; decide +kernel)
      | (refine call_ex hA hM (c_WinTouch _ _ _ _) (fun _ _ => ?_); cbv)
      | (refine inb_lt hA ?_; first | exact lt2_of hA (by assumption) | exact lt_of hA (by assumption))
      | exact flat_tab hA _ _
      | (refine call_of2 hA hM _ cO (by (subst hA; first | rfl | (simp only [sub0r]; try rfl))) ?_; cbv)
      | (refine call_of2 hA hM _ cS (by (subst hA; first | rfl | (simp only [sub0r]; try rfl))) ?_; cbv)
      | (refine call_of2 hA hM _ cB (by (subst hA; first | rfl | (simp only [sub0r]; try rfl))) ?_; cbv)
    · rename_i hlt2 bb hbb hc
      have hl2 : i2 < c := by first | exact lt2_of hA hlt2 | exact lt_of hA hlt2
      have hbb : bb = decide ((G i2).win.s < (gp i).win.e ∧ (gp i).win.s < (G i2).win.e) := by subst hA; exact hbb
      have ht : tchD (gp i).itm.key (gp i).win (G i2) = true := by
        subst hA
        have hc : (bif (G i2).key == (gp i).itm.key then bb else false) = true := hc
        rw [bifA, Bool.and_eq_true, hbb, decide_eq_true_eq] at hc
        exact decide_eq_true ⟨eq_of_beq hc.1, hc.2⟩
      refine ⟨⟨(i2 + 1, no, Go, sp', a2'), hl2, ?_, ?_, ?_⟩, by simp only; omega, cov_of ?_ ?_ ?_⟩
      · simp only
        have e : (T.filter fun r => !((T.take (i2 + 1)).any fun s => tchD (gp i).itm.key (gp i).win s && decide (IsRow s.key s.win r))) = tOut (G i2).key (G i2).win T2 := by
          rw [outs_step hT2, lst_take hT hl2]
          refine congrArg (fun f => T.filter f) (funext fun r => ?_)
          rw [List.any_append, Bool.not_or]
          simp [ht]
        rw [e]; exact hO
      · simp only
        rw [lst_take hT hl2, List.filter_append]
        have e : [G i2].filter (tchD (gp i).itm.key (gp i).win) = [G i2] := by simp [ht]
        rw [e, List.map_append, List.foldl_append, ← hsp, hsp']; rfl
      · simp only
        rw [lst_take hT hl2, List.filter_append]
        have e : [G i2].filter (tchD (gp i).itm.key (gp i).win) = [G i2] := by simp [ht]
        rw [e, List.map_append, List.foldl_append, ← ha2, ha2']; rfl
      · cbv; subst hA; repeat' first | apply And.intro | exact True.intro | exact congrArg (fun x => DV.v (.int .i64 x)) (up64 hl2 (Nat.le_trans hci (Nat.le_trans hi hnL))) | rfl
      · cbv; try (subst hA; repeat' first | apply And.intro | exact True.intro | rfl | (intro _ _; rfl))
      · cbv; try (subst hA; repeat' first | apply And.intro | exact True.intro | rfl | exact .inr trivial | exact .inl trivial)
    · rename_i hlt2 bb hbb hc
      have hl2 : i2 < c := by first | exact lt2_of hA hlt2 | exact lt_of hA hlt2
      have hbb : bb = decide ((G i2).win.s < (gp i).win.e ∧ (gp i).win.s < (G i2).win.e) := by subst hA; exact hbb
      have ht : tchD (gp i).itm.key (gp i).win (G i2) = false := by
        subst hA
        have hc : (bif (G i2).key == (gp i).itm.key then bb else false) = false := hc
        rw [bifA] at hc
        refine decide_eq_false fun e => ?_
        have h1 : ((G i2).key == (gp i).itm.key) = true := beq_iff_eq.2 e.1
        have h2 : bb = true := by rw [hbb]; exact decide_eq_true e.2
        rw [h1, h2] at hc; cases hc
      refine ⟨⟨(i2 + 1, c2, G2, sp, a2), hl2, ?_, ?_, ?_⟩, by simp only; omega, cov_of ?_ ?_ ?_⟩
      · simp only
        have e : (T.filter fun r => !((T.take (i2 + 1)).any fun s => tchD (gp i).itm.key (gp i).win s && decide (IsRow s.key s.win r))) = T2 := by
          rw [hT2, lst_take hT hl2]
          refine congrArg (fun f => T.filter f) (funext fun r => ?_)
          rw [List.any_append]
          simp [ht]
        rw [e]; exact hG2
      · simp only
        rw [lst_take hT hl2, List.filter_append]
        have e : [G i2].filter (tchD (gp i).itm.key (gp i).win) = [] := by simp [ht]
        rw [e, List.append_nil]; exact hsp
      · simp only
        rw [lst_take hT hl2, List.filter_append]
        have e : [G i2].filter (tchD (gp i).itm.key (gp i).win) = [] := by simp [ht]
        rw [e, List.append_nil]; exact ha2
      · cbv; subst hA; repeat' first | apply And.intro | exact True.intro | exact congrArg (fun x => DV.v (.int .i64 x)) (up64 hl2 (Nat.le_trans hci (Nat.le_trans hi hnL))) | rfl
      · cbv; try (subst hA; repeat' first | apply And.intro | exact True.intro | rfl | (intro _ _; rfl))
      · cbv; try (subst hA; repeat' first | apply And.intro | exact True.intro | rfl | exact .inr trivial | exact .inl trivial)
    · rename_i hge2
      have hin2 : i2 = c := by first | (have := ge2_of hA hge2; omega) | (have := ge_of hA hge2; omega)
      subst hin2
      rw [lst_all hT] at hT2 hsp ha2
      rw [outs_all] at hT2
      obtain ⟨ag3, hag3⟩ : ∃ x, x = aggAdd a2 (gp i).itm.v := ⟨_, rfl⟩
      obtain ⟨np3, Gp3, hPu3⟩ := lst_ex zTab (tPut ⟨(gp i).itm.key, sp, ag3⟩ T2)
      have cA3 := c_AggAdd a2 (gp i).itm.v ag3 hag3
      have cP3 := c_Put T2 c2 G2 hG2 (by omega) _ np3 Gp3 hPu3
      repeat' first
        | apply And.intro
        | exact True.intro
        | with_reducible rfl
        | exact same_of hA rfl
        | refine br_of hA (fun _ => ?_) (fun _ => ?_)
        | exact imp_of hA id
        | (refine imp_of hA ?_; subst hA; simp only [real, Bool.true_and]; exact id)
        | (refine ind_of hA ?_; decide +kernel)
        | (refine call_of2 hA hM _ cA3 (by (subst hA; first | rfl | (simp only [sub0r]; try rfl))) ?_; cbv)
        | (refine call_of2 hA hM _ cP3 (by (subst hA; first | rfl | (simp only [sub0r]; try rfl))) ?_; cbv)
        | exact flat_tab hA _ _
      refine ⟨⟨(i + 1, np3, Gp3), hnext hlt' _ _ ?_⟩, by simp only; omega, cov_rel 320 2 (k := 5) (l := 5504) (sz := 7) rfl rfl rfl rfl (cov_of ?_ ?_ ?_)⟩
      · unfold stepI sessI; rw [if_pos hk, ← hsp, ← ha2, ← hT2, ← hag3]; exact hPu3
      · cbv; subst hA; repeat' first | apply And.intro | exact True.intro | exact congrArg (fun x => DV.v (.int .i64 x)) (up64 hlt' hnL) | rfl
      · cbv; try (subst hA; repeat' first | apply And.intro | exact True.intro | rfl | (intro _ _; rfl))
      · cbv; try (subst hA; repeat' first | apply And.intro | exact True.intro | rfl | exact .inr trivial | exact .inl trivial)
  · rename_i hlt hk
    have hlt' : i < n := by first | exact lt2_of hA hlt | exact lt_of hA hlt
    have hk : ¬ j.kind = 3 := by subst hA; exact of_decide_eq_false hk
    refine ⟨⟨(i + 1, np, Gp), hnext hlt' _ _ ?_⟩, by simp only; omega, cov_rel 320 2 (k := 5) (l := 5504) (sz := 7) rfl rfl rfl rfl (cov_of ?_ ?_ ?_)⟩
    · unfold stepI stepW; rw [if_neg hk, ← ha, ← hag]; exact hPu
    · cbv; subst hA; repeat' first | apply And.intro | exact True.intro | exact congrArg (fun x => DV.v (.int .i64 x)) (up64 hlt' hnL) | rfl
    · cbv; try (subst hA; repeat' first | apply And.intro | exact True.intro | rfl | (intro _ _; rfl))
    · cbv; try (subst hA; repeat' first | apply And.intro | exact True.intro | rfl | exact .inr trivial | exact .inl trivial)
  · rename_i hge
    have hin : i = n := by first | (have := ge2_of hA hge; omega) | (have := ge_of hA hge; omega)
    subst hin
    rw [lst_all hl, foldI_eq hfi] at hTe
    rw [hTe] at hT
    have hcc : c = n0 := hT.1.trans h0.1.symm
    subst hcc
    refine stop_of hA ⟨[(5, .c (.own 320 0 c 1))], [(320, 1, .arr 7 c fun i => eTab (G0 i))]⟩ (cov_of ?_ ?_ ?_) ?_
    · cbv
    · cbv
      exact ⟨fun q hq => congrArg eTab ((hT.2 q hq).trans (h0.2 q hq).symm), trivial⟩
    · cbv
    · cbv
      repeat' first
        | apply And.intro
        | exact True.intro
        | with_reducible rfl
        | exact same_of hA rfl
        | refine br_of hA (fun _ => ?_) (fun _ => ?_)
        | exact imp_of hA id
        | (refine imp_of hA ?_; subst hA; simp only [real, Bool.true_and]; exact id)
        | (refine ind_of hA ?_; decide +kernel)
end Go.Rk
/- Tables of records hang on no order. -/
namespace Go.Rk
set_option linter.unusedSimpArgs false
set_option linter.unusedVariables false
def gl (m : Nat) (g : Nat → ItmT) : List ItmT := (List.range m).map g
def pairsOf (j : JobT) (l : List ItmT) : List LatT := l.flatMap fun x => (winsL j x.t).map fun w => ⟨x, w⟩
theorem pairs_gl (j : JobT) (g : Nat → ItmT) : ∀ m, pairsL j g m = pairsOf j (gl m g)
  | 0 => rfl
  | m + 1 => by
    unfold pairsL gl pairsOf
    rw [List.range_succ, List.map_append, List.flatMap_append, pairs_gl j g m]
    simp [pairsOf, gl]
theorem mem_gl {m : Nat} {g : Nat → ItmT} {x : ItmT} : x ∈ gl m g ↔ ∃ i, i < m ∧ g i = x := by unfold gl; rw [List.mem_map]; simp only [List.mem_range]
theorem spcOk_gl {j : JobT} {m : Nat} {g : Nat → ItmT} : SpcOkP j m g ↔ JobOkP j ∧ m ≤ 120 ∧ ∀ x, x ∈ gl m g → RecP x :=
  ⟨fun h => ⟨h.1, h.2.1, fun x hx => by obtain ⟨i, hi, rfl⟩ := mem_gl.1 hx; exact h.2.2 i hi⟩, fun h => ⟨h.1, h.2.1, fun i hi => h.2.2 _ (mem_gl.2 ⟨i, hi, rfl⟩)⟩⟩
theorem spcL_perm {j : JobT} {m : Nat} {g g' : Nat → ItmT} (h : (gl m g).Perm (gl m g')) : (spcL j m g).Perm (spcL j m g') := by
  have e : SpcOkP j m g ↔ SpcOkP j m g' := by
    rw [spcOk_gl, spcOk_gl]
    exact ⟨fun h' => ⟨h'.1, h'.2.1, fun x hx => h'.2.2 x (h.mem_iff.2 hx)⟩, fun h' => ⟨h'.1, h'.2.1, fun x hx => h'.2.2 x (h.mem_iff.1 hx)⟩⟩
  unfold spcL
  by_cases hc : SpcOkP j m g
  · rw [if_pos hc, if_pos (e.1 hc), pairs_gl, pairs_gl]
    exact h.flatMap_right _
  · rw [if_neg hc, if_neg fun h => hc (e.2 h)]
theorem spcT_gl {k : Int} {j : JobT} {m : Nat} {g g' : Nat → ItmT} (h : (gl m g).Perm (gl m g')) : spcT k (spcL j m g') = spcT k (spcL j m g) := spcT_perm (fine_spc j m g') (spcL_perm h.symm)
theorem gl_turned (m : Nat) (g : Nat → ItmT) : (gl m g).Perm (gl m fun i => g (m - 1 - i)) := by
  have e : gl m (fun i => g (m - 1 - i)) = (gl m g).reverse := by
    refine List.ext_getElem (by simp [gl]) fun i h1 h2 => ?_
    simp [gl, List.getElem_reverse]
  rw [e]; exact (List.reverse_perm _).symm
def rotG (m k : Nat) (g : Nat → ItmT) (i : Nat) : ItmT := if i < m - k then g (k + i) else g (i - (m - k))
theorem gl_rot {m k : Nat} (g : Nat → ItmT) (hk : k ≤ m) : (gl m g).Perm (gl m (rotG m k g)) := by
  have e : gl m (rotG m k g) = (gl m g).drop k ++ (gl m g).take k := by
    refine List.ext_getElem (by simp [gl]; omega) fun i h1 h2 => ?_
    have hi : i < m := by simpa [gl] using h1
    rw [List.getElem_append]
    by_cases h : i < m - k
    · rw [dif_pos (by simp [gl]; exact h)]
      simp [gl, rotG, h]
    · rw [dif_neg (by simp [gl]; omega)]
      simp [gl, rotG, h]
  rw [e]
  have h := List.perm_append_comm (l₁ := (gl m g).drop k) (l₂ := (gl m g).take k)
  rw [List.take_append_drop] at h
  exact h.symm
end Go.Rk
/- What the rows of a table of records say. -/
namespace Go.Rk
set_option linter.unusedSimpArgs false
set_option linter.unusedVariables false
def inR (r : TabT) (x : ItmT) : Bool := decide (x.key = r.key ∧ r.win.s ≤ x.t ∧ x.t < r.win.e)
def valsR (r : TabT) (l : List ItmT) : List Int := (l.filter (inR r)).map (·.v)
theorem slideF_rise {size step t : Int} (hs : 1 ≤ step) : ∀ (k : Nat) (f : Int), (slideF size step t k f).Pairwise (fun a b => a.s < b.s) ∧ ∀ w, w ∈ slideF size step t k f → f ≤ w.s
  | 0, f => ⟨List.Pairwise.nil, fun w h => by simp [slideF] at h⟩
  | k + 1, f => by
    obtain ⟨h1, h2⟩ := slideF_rise (size := size) (t := t) hs k (f + step)
    unfold slideF
    split
    · split
      · refine ⟨?_, fun w hw => ?_⟩
        · rw [List.singleton_append, List.pairwise_cons]
          exact ⟨fun w hw => by have := h2 w hw; show f < w.s; omega, h1⟩
        · rw [List.singleton_append, List.mem_cons] at hw
          rcases hw with rfl | hw
          · exact Int.le_refl _
          · have := h2 w hw; omega
      · rw [List.nil_append]
        exact ⟨h1, fun w hw => by have := h2 w hw; omega⟩
    · exact ⟨List.Pairwise.nil, fun w h => by simp at h⟩
theorem slideF_has {size step t : Int} {w : WinT} : ∀ (k : Nat) (f : Int) (i : Nat), i < k → 1 ≤ step → w.s = f + step * (i : Int) → w.s ≤ t → t < w.s + size → w.e = w.s + size → w ∈ slideF size step t k f
  | 0, _, _, h, _, _, _, _, _ => absurd h (Nat.not_lt_zero _)
  | k + 1, f, i, hi, hs, h1, h2, h3, h4 => by
    unfold slideF
    have hfi : 0 ≤ step * (i : Int) := Int.mul_nonneg (by omega) (Int.natCast_nonneg _)
    rw [if_pos (by omega)]
    cases i with
    | zero =>
      have e : f = w.s := by simp at h1; omega
      refine List.mem_append_left _ ?_
      rw [if_pos (by omega), List.mem_singleton]
      obtain ⟨s, e'⟩ := w
      simp only at *
      subst e h4; rfl
    | succ i =>
      refine List.mem_append_right _ (slideF_has k (f + step) i (by omega) hs ?_ h2 h3 h4)
      rw [h1]; push_cast; rw [Int.mul_add]; omega
open Classical in
theorem filter_one {l : List WinT} {w : WinT} (h : l.Pairwise (fun a b => a.s < b.s)) : l.filter (fun x => decide (x.s = w.s ∧ x.e = w.e)) = if w ∈ l then [w] else [] := by
  induction l with
  | nil => simp
  | cons a l ih =>
    rw [List.pairwise_cons] at h
    have ih := ih h.2
    rw [List.filter_cons]
    by_cases ha : a.s = w.s ∧ a.e = w.e
    · have e : a = w := by
        obtain ⟨s, e⟩ := a; obtain ⟨s', e'⟩ := w
        simp only at ha
        obtain ⟨rfl, rfl⟩ := ha
        rfl
      subst e
      have hn : a ∉ l := fun hm => by have := h.1 a hm; omega
      rw [if_neg hn] at ih
      rw [if_pos (by simp), ih, if_pos (by simp)]
    · rw [if_neg (by simpa using ha), ih]
      have hne : w ≠ a := fun e => ha (by rw [e]; exact ⟨rfl, rfl⟩)
      simp [hne]
/-- Where windows do not grow, a window that is one's is that of all times within it. -/
theorem winsL_same {j : JobT} (hj : JobOkP j) (hk : j.kind ≠ 3) {t0 t : Int} (h0 : 0 ≤ t0 ∧ t0 ≤ 60) (ht : 0 ≤ t ∧ t ≤ 60) {w : WinT} (hw : w ∈ winsL j t0) : w ∈ winsL j t ↔ w.s ≤ t ∧ t < w.e := by
  obtain ⟨a1, a2, a3, i, a4⟩ := winsL_mem hw
  have hsz := hj.2.2.2.1
  have hst := hj.2.2.2.2.1
  have hkk := hj.2.2.1
  refine ⟨fun h => by have := winsL_mem h; omega, fun ⟨h1, h2⟩ => ?_⟩
  unfold winsL
  by_cases k1 : j.kind = 1
  · have eF : ∀ t, winFrom j t = t - t.tmod j.size := fun t => by unfold winFrom; rw [if_pos k1]
    have eS : winStep j = j.size := by unfold winStep; rw [if_pos k1]
    rw [eF, eS] at a4
    rw [eF, eS]
    have b1 := Int.tmod_nonneg j.size h0.1
    have b2 := Int.tmod_lt_of_pos t0 (show 0 < j.size by omega)
    have i0 : i = 0 := by
      rcases Nat.eq_zero_or_pos i with h | h
      · exact h
      · exfalso
        have : j.size * 1 ≤ j.size * (i : Int) := Int.mul_le_mul_of_nonneg_left (by omega) (by omega)
        omega
    subst i0
    simp at a4
    refine slideF_has 100 _ 0 (by omega) (by omega) ?_ h1 (by omega) a3
    have c1 : t.tmod j.size = t - w.s := by
      rw [Int.tmod_eq_emod_of_nonneg ht.1]
      have d1 : t0.tmod j.size = t0 % j.size := Int.tmod_eq_emod_of_nonneg h0.1
      have d2 : w.s % j.size = 0 := by
        rw [a4, d1, Int.sub_emod, Int.emod_emod, Int.sub_self, Int.zero_emod]
      have d3 : t % j.size = (t - w.s) % j.size := by
        rw [Int.sub_emod, d2, Int.sub_zero, Int.emod_emod]
      rw [d3, Int.emod_eq_of_lt (by omega) (by omega)]
    simp; omega
  · have k2 : j.kind = 2 := by omega
    have eF : ∀ t, winFrom j t = 0 := fun t => by unfold winFrom; rw [if_neg k1, if_pos k2]
    have eS : winStep j = j.step := by unfold winStep; rw [if_neg k1, if_pos k2]
    rw [eF, eS] at a4
    rw [eF, eS]
    have hp : 1 ≤ j.step := by omega
    have hi : i < 100 := by
      have : 1 * (i : Int) ≤ j.step * (i : Int) := Int.mul_le_mul_of_nonneg_right hp (Int.natCast_nonneg _)
      omega
    exact slideF_has 100 0 i hi hp a4 h1 (by omega) a3
theorem winStep_pos {j : JobT} (hj : JobOkP j) : 1 ≤ winStep j := by
  have hsz := hj.2.2.2.1
  have hst := hj.2.2.2.2.1
  unfold winStep
  split
  · omega
  · split <;> omega
theorem valsW_recs {j : JobT} (hj : JobOkP j) (hk : j.kind ≠ 3) {t0 : Int} (h0 : 0 ≤ t0 ∧ t0 ≤ 60) {r : TabT} (hw : r.win ∈ winsL j t0) : ∀ (l : List ItmT), (∀ x, x ∈ l → RecP x) → valsW r.key r.win (pairsOf j l) = valsR r l
  | [], _ => rfl
  | x :: l, h => by
    have ih := valsW_recs hj hk h0 hw l fun y hy => h y (List.mem_cons_of_mem _ hy)
    have hx := recP_t (h x (by simp))
    have hs := winsL_same hj hk h0 hx hw
    obtain ⟨_, _, e3, _⟩ := winsL_mem hw
    have e1 : valsW r.key r.win (pairsOf j (x :: l)) = (((winsL j x.t).map fun w => (⟨x, w⟩ : LatT)).filter fun l => decide (l.itm.key = r.key ∧ l.win.s = r.win.s ∧ l.win.e = r.win.e)).map (·.itm.v) ++ valsW r.key r.win (pairsOf j l) := by
      unfold valsW pairsOf
      rw [List.flatMap_cons, List.filter_append, List.map_append]
    have e2 : valsR r (x :: l) = (if inR r x = true then [x.v] else []) ++ valsR r l := by
      unfold valsR
      rw [List.filter_cons]
      split <;> simp
    rw [e1, e2, ih]
    congr 1
    rw [List.filter_map, List.map_map]
    by_cases hkey : x.key = r.key
    · have f1 : ((fun l : LatT => decide (l.itm.key = r.key ∧ l.win.s = r.win.s ∧ l.win.e = r.win.e)) ∘ fun w => (⟨x, w⟩ : LatT)) = fun w : WinT => decide (w.s = r.win.s ∧ w.e = r.win.e) := by
        funext w; simp [hkey]
      rw [f1, filter_one (l := winsL j x.t) (w := r.win) (slideF_rise (winStep_pos hj) 100 _).1]
      by_cases hm : r.win ∈ winsL j x.t
      · have := hs.1 hm
        rw [if_pos hm, if_pos (by unfold inR; rw [decide_eq_true_eq]; exact ⟨hkey, this⟩)]
        rfl
      · have h2 : ¬ (r.win.s ≤ x.t ∧ x.t < r.win.e) := fun h => hm (hs.2 h)
        rw [if_neg hm, if_neg (by unfold inR; rw [decide_eq_true_eq]; exact fun h => h2 h.2)]
        rfl
    · have f1 : ((fun l : LatT => decide (l.itm.key = r.key ∧ l.win.s = r.win.s ∧ l.win.e = r.win.e)) ∘ fun w => (⟨x, w⟩ : LatT)) = fun w : WinT => false := by
        funext w; simp [hkey]
      rw [f1, if_neg (by unfold inR; rw [decide_eq_true_eq]; exact fun h => hkey h.1)]
      simp
theorem valsS_recs {j : JobT} (hj : JobOkP j) (hk : j.kind = 3) {r : TabT} : ∀ (l : List ItmT), (∀ x, x ∈ l → RecP x) → valsS r.key r.win (pairsOf j l) = valsR r l
  | [], _ => rfl
  | x :: l, h => by
    have ih := valsS_recs hj hk (r := r) l fun y hy => h y (List.mem_cons_of_mem _ hy)
    have hx := recP_t (h x (by simp))
    have hw := winsL_sess (j := j) (t := x.t) hk hj.2.2.2.1.1 hx.1 hx.2
    have e1 : valsS r.key r.win (pairsOf j (x :: l)) = (([(⟨x, ⟨x.t, x.t + j.size⟩⟩ : LatT)]).filter fun l => decide (l.itm.key = r.key ∧ r.win.s ≤ l.win.s ∧ l.win.s < r.win.e)).map (·.itm.v) ++ valsS r.key r.win (pairsOf j l) := by
      unfold valsS pairsOf
      rw [List.flatMap_cons, hw, List.filter_append, List.map_append]
      rfl
    have e2 : valsR r (x :: l) = (if inR r x = true then [x.v] else []) ++ valsR r l := by
      unfold valsR
      rw [List.filter_cons]
      split <;> simp
    rw [e1, e2, ih]
    congr 1
    rw [List.filter_cons]
    show List.map _ (if inR r x = true then _ else _) = _
    split <;> rfl
theorem rec_gl {j : JobT} {m : Nat} {g : Nat → ItmT} (h : SpcOkP j m g) : ∀ x, x ∈ gl m g → RecP x := (spcOk_gl.1 h).2.2
structure RowFacts (j : JobT) (l : List ItmT) (r : TabT) : Prop where
  agg : AggIs r.agg (valsR r l)
  low : 0 ≤ r.win.s ∧ r.win.s ≤ 60
  len : r.win.s < r.win.e ∧ r.win.e ≤ 80
  fix : j.kind ≠ 3 → r.win.e = r.win.s + j.size
theorem pair_rec {j : JobT} {m : Nat} {g : Nat → ItmT} {l : LatT} (h : SpcOkP j m g) (hl : l ∈ pairsL j g m) : RecP l.itm ∧ l.itm ∈ gl m g ∧ l.win ∈ winsL j l.itm.t := by
  obtain ⟨i, hi, e, hw⟩ := mem_pairsL.1 hl
  rw [e]
  exact ⟨h.2.2 i hi, mem_gl.2 ⟨i, hi, rfl⟩, hw⟩
theorem row_facts {j : JobT} {m : Nat} {g : Nat → ItmT} (h : SpcOkP j m g) {r : TabT} (hr : r ∈ spcT j.kind (pairsL j g m)) : RowFacts j (gl m g) r := by
  have hf := fine_pairs h
  have hsz := h.1.2.2.2.1
  by_cases hk : j.kind = 3
  · rw [hk] at hr
    have hs := (spcT_S hf).row r hr
    obtain ⟨l1, m1, k1, e1⟩ := hs.fst
    obtain ⟨l2, m2, k2, e2⟩ := hs.lst
    obtain ⟨r1, _, w1⟩ := pair_rec h m1
    obtain ⟨r2, _, w2⟩ := pair_rec h m2
    have t1 := recP_t r1
    have t2 := recP_t r2
    rw [winsL_sess hk hsz.1 t1.1 t1.2, List.mem_singleton] at w1
    rw [winsL_sess hk hsz.1 t2.1 t2.2, List.mem_singleton] at w2
    have ha := hs.agg
    rw [pairs_gl, valsS_recs h.1 hk _ (rec_gl h)] at ha
    have x1 : l1.win.s = l1.itm.t := by rw [w1]
    have x2 : l2.win.e = l2.itm.t + j.size := by rw [w2]
    exact ⟨ha, by omega, ⟨hs.lt, by omega⟩, fun hn => absurd hk hn⟩
  · obtain ⟨hne, ha⟩ := (spcT_W hk hf).row r hr
    obtain ⟨v, hv⟩ := List.exists_mem_of_ne_nil _ hne
    obtain ⟨l, hl, _⟩ := List.mem_map.1 hv
    obtain ⟨hl, hc⟩ := List.mem_filter.1 hl
    rw [decide_eq_true_eq] at hc
    obtain ⟨r1, _, w1⟩ := pair_rec h hl
    have t1 := recP_t r1
    have ew : l.win = r.win := by
      obtain ⟨s, e⟩ := l; obtain ⟨k, ⟨a, b⟩, c⟩ := r
      obtain ⟨w1, w2⟩ := e
      simp only at hc; rw [hc.2.1, hc.2.2]
    rw [ew] at w1
    have hww := winsL_mem w1
    rw [pairs_gl, valsW_recs h.1 hk t1 w1 _ (rec_gl h)] at ha
    have hlow : 0 ≤ r.win.s := by
      obtain ⟨_, _, _, i, h4⟩ := hww
      have hF : 0 ≤ winFrom j l.itm.t := by
        unfold winFrom
        split
        · have b2 : l.itm.t.tmod j.size ≤ l.itm.t := by
            rw [Int.tmod_eq_emod_of_nonneg t1.1]
            have := Int.emod_add_mul_ediv l.itm.t j.size
            have := Int.mul_nonneg (show 0 ≤ j.size by omega) (Int.ediv_nonneg t1.1 (show 0 ≤ j.size by omega))
            omega
          omega
        · split <;> omega
      have := Int.mul_nonneg (show 0 ≤ winStep j by have := winStep_pos h.1; omega) (Int.natCast_nonneg i)
      omega
    exact ⟨ha, ⟨hlow, by omega⟩, ⟨by omega, by omega⟩, fun _ => by omega⟩
/-- What is known of values, one by one. -/
def aggF (l : List Int) : AggT := l.foldl aggAdd zAgg
theorem aggF_snoc (l : List Int) (v : Int) : aggF (l ++ [v]) = aggAdd (aggF l) v := by unfold aggF; rw [List.foldl_append]; rfl
theorem aggF_is {L : List Int} (hv : ∀ x, x ∈ L → -9 ≤ x ∧ x ≤ 9) (hn : L.length ≤ 1000000) : AggIs (aggF L) L := by
  have key : ∀ (M L0 : List Int) (a : AggT), AggIs a L0 → (∀ x, x ∈ L0 ++ M → -9 ≤ x ∧ x ≤ 9) → (L0 ++ M).length ≤ 1000000 → AggIs (M.foldl aggAdd a) (L0 ++ M) := by
    intro M
    induction M with
    | nil => intro L0 a h _ _; simpa using h
    | cons v M ih =>
      intro L0 a h hv hn
      rw [show L0 ++ v :: M = (L0 ++ [v]) ++ M by simp] at hv hn ⊢
      refine ih (L0 ++ [v]) _ (aggB_is h (aggIs_one v) (fun x hx => hv x (List.mem_append_left _ hx)) ?_) hv hn
      rw [List.length_append] at hn; omega
  exact key L [] zAgg aggIs_nil (by simpa using hv) (by simpa using hn)
theorem valsR_bd {l : List ItmT} (h : ∀ x, x ∈ l → RecP x) (r : TabT) : ∀ v, v ∈ valsR r l → -9 ≤ v ∧ v ≤ 9 := by
  intro v hv
  obtain ⟨x, hx, rfl⟩ := List.mem_map.1 hv
  exact recP_v (h x (List.mem_filter.1 hx).1)
theorem row_agg {j : JobT} {m : Nat} {g : Nat → ItmT} (h : SpcOkP j m g) {r : TabT} (hr : r ∈ spcT j.kind (pairsL j g m)) : aggF (valsR r (gl m g)) = r.agg := by
  refine aggIs_uniq (aggF_is (valsR_bd (rec_gl h) r) ?_) (row_facts h hr).agg (List.Perm.refl _)
  unfold valsR
  rw [List.length_map]
  refine Nat.le_trans (List.length_filter_le _ _) ?_
  have := h.2.1
  simp [gl]; omega
theorem spcL_ok {j : JobT} {m : Nat} {g : Nat → ItmT} {r : TabT} (hr : r ∈ spcT j.kind (spcL j m g)) : SpcOkP j m g ∧ spcL j m g = pairsL j g m := by
  by_cases h : SpcOkP j m g
  · exact ⟨h, by unfold spcL; rw [if_pos h]⟩
  · exfalso
    have e : spcL j m g = [] := by unfold spcL; rw [if_neg h]
    rw [e] at hr
    simp [spcT] at hr
theorem rise_at {T : List TabT} {n : Nat} {G : Nat → TabT} (h : Lst zTab T n G) (hr : Rise T) {i k : Nat} (hik : i < k) (hk : k < n) : Ahead (G i) (G k) := by
  have hT := h.1
  rw [h.2 i (by omega), h.2 k hk, List.getD_eq_getElem?_getD, List.getD_eq_getElem?_getD, List.getElem?_eq_getElem (by omega), List.getElem?_eq_getElem (by omega)]
  exact List.pairwise_iff_getElem.1 hr i k (by omega) (by omega) hik
theorem lst_in {T : List TabT} {n : Nat} {G : Nat → TabT} (h : Lst zTab T n G) {i : Nat} (hi : i < n) : G i ∈ T := by
  have hT := h.1
  rw [h.2 i hi, List.getD_eq_getElem?_getD, List.getElem?_eq_getElem (by omega)]
  exact List.getElem_mem _
theorem tCnt_bd : ∀ {T : List TabT}, (∀ r, r ∈ T → 0 ≤ r.agg.n) → 0 ≤ tCnt T
  | [], _ => Int.le_refl _
  | r :: T, h => by
    have := tCnt_bd (T := T) fun q hq => h q (List.mem_cons_of_mem _ hq)
    have := h r (by simp)
    simp only [tCnt]; omega
theorem tCnt_take {T : List TabT} (h : ∀ r, r ∈ T → 0 ≤ r.agg.n) (i : Nat) : 0 ≤ tCnt (T.take i) ∧ tCnt (T.take i) ≤ tCnt T := by
  have e : tCnt T = tCnt (T.take i) + tCnt (T.drop i) := by rw [← tCnt_app, List.take_append_drop]
  have h1 := tCnt_bd (T := T.take i) fun r hr => h r (List.mem_of_mem_take hr)
  have h2 := tCnt_bd (T := T.drop i) fun r hr => h r (List.mem_of_mem_drop hr)
  omega
theorem spcT_nn {j : JobT} {m : Nat} {g : Nat → ItmT} : ∀ r, r ∈ spcT j.kind (spcL j m g) → 0 ≤ r.agg.n := by
  intro r hr
  obtain ⟨h1, h2⟩ := spcL_ok hr
  rw [h2] at hr
  rw [(row_facts h1 hr).agg.n]
  exact Int.natCast_nonneg _
theorem spcT_tk {j : JobT} {m : Nat} {g : Nat → ItmT} (i : Nat) : 0 ≤ tCnt ((spcT j.kind (spcL j m g)).take i) ∧ tCnt ((spcT j.kind (spcL j m g)).take i) ≤ 12000 := by
  have h1 := tCnt_take (T := spcT j.kind (spcL j m g)) spcT_nn i
  have h2 := spcT_cnt (kind := j.kind) (fine_spc j m g)
  have h3 := spcL_len j m g
  omega
def zItm : ItmT := ⟨0, 0, 0, 0, 0⟩
theorem gl_lst (m : Nat) (g : Nat → ItmT) : Lst zItm (gl m g) m g := lst_of zItm m g
theorem valsR_snoc (r : TabT) (l : List ItmT) (x : ItmT) : valsR r (l ++ [x]) = valsR r l ++ if inR r x = true then [x.v] else [] := by
  unfold valsR
  rw [List.filter_append, List.map_append, List.filter_cons]
  split <;> simp
end Go.Rk
/- One record more. -/
namespace Go.Rk
set_option linter.unusedSimpArgs false
set_option linter.unusedVariables false
def addG (m : Nat) (g : Nat → ItmT) (x : ItmT) (i : Nat) : ItmT := if i < m then g i else if i - m < 1 then x else zItm
theorem gl_add (m : Nat) (g : Nat → ItmT) (x : ItmT) : gl (m + 1) (addG m g x) = gl m g ++ [x] := by
  unfold gl
  rw [List.range_succ, List.map_append]
  congr 1
  · refine List.map_congr_left fun i hi => ?_
    unfold addG
    rw [if_pos (List.mem_range.1 hi)]
  · simp [addG]
theorem pairsOf_app (j : JobT) (l l' : List ItmT) : pairsOf j (l ++ l') = pairsOf j l ++ pairsOf j l' := by unfold pairsOf; rw [List.flatMap_append]
theorem add_ok {j : JobT} {m : Nat} {g : Nat → ItmT} {x : ItmT} (h : SpcOkP j (m + 1) (addG m g x)) : SpcOkP j m g ∧ RecP x ∧ spcL j (m + 1) (addG m g x) = spcL j m g ++ (winsL j x.t).map fun w => ⟨x, w⟩ := by
  have h' := spcOk_gl.1 h
  rw [gl_add] at h'
  have h1 : SpcOkP j m g := spcOk_gl.2 ⟨h'.1, by omega, fun y hy => h'.2.2 y (List.mem_append_left _ hy)⟩
  refine ⟨h1, h'.2.2 x (by simp), ?_⟩
  unfold spcL
  rw [if_pos h, if_pos h1, pairs_gl, gl_add, pairsOf_app, ← pairs_gl]
  simp [pairsOf]
theorem stepS_keep {kind : Int} {T : List TabT} {l : LatT} {r : TabT} (hr : r ∈ T) (hk : r.key ≠ l.itm.key) : r ∈ stepS kind T l := by
  unfold stepS
  split
  · refine mem_tPut.2 (.inr ⟨List.mem_filter.2 ⟨hr, ?_⟩, fun e => hk e.1⟩)
    simp [tchD, hk]
  · exact mem_tPut.2 (.inr ⟨hr, fun e => hk e.1⟩)
theorem fold_keep {kind : Int} {k : Int} : ∀ {P : List LatT} {T : List TabT} {r : TabT}, (∀ l, l ∈ P → l.itm.key = k) → r ∈ T → r.key ≠ k → r ∈ P.foldl (stepS kind) T
  | [], _, _, _, hr, _ => hr
  | l :: P, T, r, h, hr, hk => by
    rw [List.foldl_cons]
    exact fold_keep (fun x hx => h x (List.mem_cons_of_mem _ hx)) (stepS_keep hr (by rw [h l (by simp)]; exact hk)) hk
theorem add_keep {j : JobT} {m : Nat} {g : Nat → ItmT} {x : ItmT} (h : SpcOkP j (m + 1) (addG m g x)) {r : TabT} (hr : r ∈ spcT j.kind (spcL j m g)) (hk : r.key ≠ x.key) :
    tFind r.key r.win (spcT j.kind (spcL j (m + 1) (addG m g x))) = some r.agg := by
  refine tFind_rise (spcT_rise (fine_spc j _ _)) ?_ ⟨rfl, rfl, rfl⟩
  rw [(add_ok h).2.2]
  unfold spcT
  rw [List.foldl_append]
  exact fold_keep (k := x.key) (fun l hl => by obtain ⟨w, _, rfl⟩ := List.mem_map.1 hl; rfl) hr hk
theorem add_cnt {j : JobT} {m : Nat} {g : Nat → ItmT} {x : ItmT} (h : SpcOkP j (m + 1) (addG m g x)) :
    tCnt (spcT j.kind (spcL j (m + 1) (addG m g x))) = tCnt (spcT j.kind (spcL j m g)) + ((winsL j x.t).length : Int) := by
  rw [spcT_cnt (fine_spc j _ _), spcT_cnt (fine_spc j _ _), (add_ok h).2.2, List.length_append, List.length_map]
  omega
theorem add_none {j : JobT} {m : Nat} {g : Nat → ItmT} {x : ItmT} (h : ¬ SpcOkP j (m + 1) (addG m g x)) : spcL j (m + 1) (addG m g x) = [] := by unfold spcL; rw [if_neg h]
theorem sl_add (m : Nat) (g : Nat → ItmT) (x : ItmT) : DV.sl 5 (real.add (real.add 0 m) 1) (real.sub 0 (real.app (real.add 0 m) (real.app 0 (real.rep (eItm zItm)) fun i => eItm (g i)) (real.sub 0 (real.app 1 (real.rep (eItm x)) (real.rep (eItm zItm)))))) = DV.sl 5 (m + 1) fun i => eItm (addG m g x i) := by
  have e1 : real.add (real.add 0 m) 1 = m + 1 := by show 0 + m + 1 = m + 1; omega
  rw [e1]
  refine congrArg (DV.sl 5 (m + 1)) (funext fun i => ?_)
  show (if 0 + i < 0 + m then (if 0 + i < 0 then eItm zItm else eItm (g (0 + i - 0))) else if 0 + (0 + i - (0 + m)) < 1 then eItm x else eItm zItm) = eItm (addG m g x i)
  unfold addG
  simp only [Nat.zero_add, Nat.not_lt_zero, if_false, Nat.sub_zero]
  split
  · rfl
  · split <;> rfl
end Go.Rk
/- FnSpcMore answers true at every input, and its input reads as before: no condition. -/
namespace Go.Rk
set_option linter.unusedSimpArgs false
set_option linter.unusedVariables false
open Go.Proofs Go.ChangeShapes Go.WideShapes Go.ChangeAt Go.RowKit
set_option maxRecDepth 100000
set_option maxHeartbeats 1000000
def st_mo (j : JobT) (n0 : Nat) (G : Nat → TabT) (n1 : Nat) (G1 : Nat → TabT) (x : ItmT) (i : Nat) : St := ⟨[(8, .c (.d (eI (i : Int)))), (7, .c (.d (.sl 7 n1 fun i => eTab (G1 i)))), (6, .c (.bp 384 1 0)), (5, .c (.d (.sl 7 n0 fun i => eTab (G i)))), (3, .c (.bp 192 1 0))], [(384, 1, .box ((eItm x).map .d)), (192, 1, .box ((eJob j).map .d))]⟩
theorem m_law (M0 : Nat) (b : Nat → Int) (hb : ∀ i, 0 ≤ b i ∧ b i ≤ 255) : Meets Try.prog 11 [.c (.d (.sl 1 M0 fun i => [eU (b i)]))] ⟨.one (.c (.d (eB true))), [none]⟩ := by
  obtain ⟨j, m, g, hm15, hD⟩ := c_drawT M0 b hb
  have hm : m ≤ maxLen := Nat.le_trans hm15 (by decide)
  obtain ⟨n0, G, h0⟩ := lst_ex zTab (spcT j.kind (spcL j m g))
  have hn0 : n0 ≤ 12000 := by
    rw [h0.1]
    have h2 := fold_len (stepS_len j.kind) (spcL j m g) []
    have h3 := spcL_len j m g
    simp only [List.length_nil] at h2
    exact Nat.le_trans h2 (by omega)
  have hnL : n0 ≤ maxLen := Nat.le_trans hn0 (by decide)
  have hI := meets_frz (c_SpcT j m hm g n0 G h0) rfl
  have hS := meets_frz (c_sSpcT j m hm g n0 G h0) rfl
  have hFr := c_frTab n0 hnL G
  have hFo := c_frOk
  obtain ⟨x, hx⟩ : ∃ x : ItmT, x = ⟨1, ((M0 % 61 : Nat) : Int), ((M0 % 3 : Nat) : Int), ((M0 % 10 : Nat) : Int), 0⟩ := ⟨_, rfl⟩
  have hz : ∀ q : Nat, (M0 : Int).tmod (q : Int) = ((M0 % q : Nat) : Int) := fun q => by rw [Int.tmod_eq_emod_of_nonneg (Int.natCast_nonneg _)]; exact (Int.natCast_emod M0 q).symm
  have hz1 : (M0 : Int).tmod 61 = ((M0 % 61 : Nat) : Int) := hz 61
  have hz2 : (M0 : Int).tmod 3 = ((M0 % 3 : Nat) : Int) := hz 3
  have hz3 : (M0 : Int).tmod 10 = ((M0 % 10 : Nat) : Int) := hz 10
  have hxt : 0 ≤ x.t ∧ x.t ≤ 60 := by rw [hx]; show (0 : Int) ≤ ((M0 % 61 : Nat) : Int) ∧ ((M0 % 61 : Nat) : Int) ≤ 60; omega
  have hm1 : m + 1 ≤ maxLen := Nat.le_trans (show m + 1 ≤ 16 by omega) (by decide)
  obtain ⟨n1, G1, h1⟩ := lst_ex zTab (spcT j.kind (spcL j (m + 1) (addG m g x)))
  have hn1 : n1 ≤ 12000 := by
    rw [h1.1]
    have h2 := fold_len (stepS_len j.kind) (spcL j (m + 1) (addG m g x)) []
    have h3 := spcL_len j (m + 1) (addG m g x)
    simp only [List.length_nil] at h2
    exact Nat.le_trans h2 (by omega)
  have hI2 := c_SpcT j (m + 1) hm1 (addG m g x) n1 G1 h1
  obtain ⟨np, gp, hl⟩ := lst_ex zLat (spcL j (m + 1) (addG m g x))
  have hPa := c_Spc j (m + 1) hm1 (addG m g x) np gp (lst_tells eLat hl)
  refine meets_of (H := [8]) (EX := EXA) ttok mixed Try.func11 rfl (by kernel_rfl) (by decide) ?_
  generalize hA : real = A
  generalize hM : Meets Try.prog = M
  cbv
  repeat' first
    | (refine br_f hA ?_ ?_; focus (subst hA; simp [real]; done))
    | apply And.intro
    | exact True.intro
    | with_reducible rfl
    | exact same_of hA rfl
    | refine br_of hA (fun _ => ?_) (fun _ => ?_)
    | exact imp_of hA id
    | (refine imp_of hA ?_; subst hA; simp only [real, Bool.true_and]; exact id)
    | (refine ind_of hA ?_; decide +kernel)
    | (refine call_of hA hM _ hD ?_; cbv)
    | (refine call_of hA hM _ hI ?_; cbv)
    | (refine call_of hA hM _ hS ?_; cbv)
    | (refine call_of hA hM _ hFr ?_; cbv)
    | (refine call_of hA hM _ hFo ?_; cbv)
    | exact flat_tab hA _ _
    | exact flatI hA _ _
    | exact flat_lat hA _ _
    | (refine inb_lt hA ?_; first | exact lt2_of hA (by assumption) | exact lt_of hA (by assumption))
    | (subst hA; intro _; decide)
  refine stop_of hA ⟨[(6, .c (.bp 384 1 0)), (5, .c (.d (.sl 7 n0 fun i => eTab (G i)))), (4, .c (.d (.sl 5 m fun i => eItm (g i)))), (3, .c (.bp 192 1 0))], [(384, 1, .box ((eItm x).map .d)), (192, 1, .box ((eJob j).map .d))]⟩ (cov_of ?_ ?_ ?_) ?_
  · cbv; try (subst hA; repeat' first | apply And.intro | exact True.intro | rfl)
  · rw [hx]
    cbv; subst hA
    repeat' first | apply And.intro | exact True.intro | exact congrArg (fun x => DV.v (.int .i64 x)) hz1 | exact congrArg (fun x => DV.v (.int .i64 x)) hz2 | exact congrArg (fun x => DV.v (.int .i64 x)) hz3 | rfl
  · cbv; try (subst hA; repeat' first | apply And.intro | exact True.intro | rfl | exact .inr trivial)
  cbv
  repeat' first
    | (refine br_f hA ?_ ?_; focus (subst hA; simp [real]; done))
    | apply And.intro
    | exact True.intro
    | with_reducible rfl
    | exact same_of hA rfl
    | refine br_of hA (fun _ => ?_) (fun _ => ?_)
    | exact imp_of hA id
    | (refine imp_of hA ?_; subst hA; simp only [real, Bool.true_and]; exact id)
    | (refine ind_of hA ?_; decide +kernel)
    | (refine call_of hA hM _ hD ?_; cbv)
    | (refine call_of hA hM _ hI ?_; cbv)
    | (refine call_of hA hM _ hS ?_; cbv)
    | (refine call_of hA hM _ hFr ?_; cbv)
    | (refine call_of hA hM _ hFo ?_; cbv)
    | exact flat_tab hA _ _
    | exact flatI hA _ _
    | exact flat_lat hA _ _
    | (refine inb_lt hA ?_; first | exact lt2_of hA (by assumption) | exact lt_of hA (by assumption))
    | (subst hA; intro _; decide)
    | exact room_add2 hA (by first | omega | (subst hA; simp only [real]; omega)) (by decide)
    | (refine call_of2 hA hM _ hI2 (by (subst hA; exact congrArg (fun d => [xd (eJob j), XT.c (.d d)]) (sl_add m g x))) ?_; cbv)
    | (refine call_of2 hA hM _ hPa (by (subst hA; exact congrArg (fun d => [xd (eJob j), XT.c (.d d)]) (sl_add m g x))) ?_; cbv)
  · rename_i hz0
    have hz0 : np = 0 := by
      subst hA
      have h : ((np : Nat) : Int) = 0 := of_decide_eq_true hz0
      omega
    have hnil : spcL j (m + 1) (addG m g x) = [] := List.length_eq_zero_iff.1 (by rw [← hl.1]; exact hz0)
    have hn10 : n1 = 0 := by rw [h1.1, hnil]; rfl
    subst hn10
    subst hA
    rfl
  rename_i hnz
  have hnz : ¬ np = 0 := by
    subst hA
    have h : ¬ ((np : Nat) : Int) = 0 := of_decide_eq_false hnz
    omega
  have hok : SpcOkP j (m + 1) (addG m g x) := Classical.byContradiction fun hn => hnz (by rw [hl.1, add_none hn]; rfl)
  refine loop_of hA (α := { i : Nat // i ≤ n0 }) (fun y => st_mo j n0 G n1 G1 x y.1) (fun y => n0 - y.1) ⟨0, Nat.zero_le _⟩ ?_ ?_
  · refine cov_frz (k := 7) (l := 2880) (sz := 7) rfl rfl (cov_of ?_ ?_ ?_)
    · cbv; try (subst hA; repeat' first | apply And.intro | exact True.intro | rfl | fail)
    · cbv; try (subst hA; repeat' first | apply And.intro | exact True.intro | rfl | (intro _ _; rfl) | (intro k hk; exact absurd hk (Nat.not_lt_zero k)) | fail)
    · cbv; try (subst hA; repeat' first | apply And.intro | exact True.intro | rfl | exact .inr trivial | exact .inl trivial)
  rintro ⟨i, hi⟩
  obtain ⟨a, ha⟩ : ∃ a, a = (tFind (G i).key (G i).win (spcT j.kind (spcL j (m + 1) (addG m g x)))).getD zAgg := ⟨_, rfl⟩
  obtain ⟨b, hb⟩ : ∃ b, b = (tFind (G i).key (G i).win (spcT j.kind (spcL j (m + 1) (addG m g x)))).isSome := ⟨_, rfl⟩
  have cF := c_Find _ n1 G1 h1 (by omega) (G i).key (G i).win a ha b hb
  obtain ⟨c0, hc0⟩ : ∃ c, c = tCnt (spcT j.kind (spcL j m g)) := ⟨_, rfl⟩
  obtain ⟨c1, hc1⟩ : ∃ c, c = tCnt (spcT j.kind (spcL j (m + 1) (addG m g x))) := ⟨_, rfl⟩
  have cC0 := c_TabCount _ n0 G h0 (by omega) (fun i _ => by have := spcT_tk (j := j) (m := m) (g := g) i; omega) c0 hc0
  have cC1 := c_TabCount _ n1 G1 h1 (by omega) (fun i _ => by have := spcT_tk (j := j) (m := m + 1) (g := addG m g x) i; omega) c1 hc1
  obtain ⟨nw, gw, hw⟩ := lst_ex zWin (winsL j x.t)
  have cW := c_WinOf j x.t hok.1 hxt nw gw (lst_tells eWin hw)
  have hcc : c1 = c0 + (nw : Int) := by rw [hc1, hc0, hw.1]; exact add_cnt hok
  have hc0b : 0 ≤ c0 ∧ c0 ≤ 12000 := by
    have := spcT_tk (j := j) (m := m) (g := g) n0
    rw [lst_all h0] at this
    omega
  have hnwb : nw ≤ 100 := by rw [hw.1]; exact winsL_len _ _
  cbv
  repeat' first
    | apply And.intro
    | exact True.intro
    | with_reducible rfl
    | exact same_of hA rfl
    | refine br_of hA (fun _ => ?_) (fun _ => ?_)
    | exact imp_of hA id
    | (refine imp_of hA ?_; subst hA; simp only [real, Bool.true_and]; exact id)
    | (refine ind_of hA ?_; decide +kernel)
    | (refine call_of hA hM _ hFo ?_; cbv)
    | (refine call_of hA hM _ cC0 ?_; cbv)
    | (refine call_of hA hM _ cC1 ?_; cbv)
    | (refine call_of hA hM _ cW ?_; cbv)
    | exact flat_tab hA _ _
    | (refine inb_lt hA ?_; first | exact lt2_of hA (by assumption) | exact lt_of hA (by assumption))
    | (refine call_of2 hA hM _ cF (by (subst hA; first | rfl | (simp only [sub0r]; try rfl))) ?_; cbv)
    | (refine inb_lt hA ?_; first | exact lt2_of hA (by assumption) | exact lt_of hA (by assumption))
  · exfalso
    rename_i hlt hk h
    have hi2 : i < n0 := by first | exact lt2_of hA hlt | exact lt_of hA hlt
    have hk : ¬ (G i).key = x.key := by
      subst hA
      have hk : ((G i).key != x.key) = true := hk
      simpa using hk
    have hf := add_keep hok (lst_in h0 hi2) hk
    rw [hf] at ha hb
    subst ha hb
    subst hA
    simp [real] at h
  · rename_i hlt _ _
    have hi2 : i < n0 := by first | exact lt2_of hA hlt | exact lt_of hA hlt
    refine ⟨⟨i + 1, hi2⟩, by simp only; omega, cov_of ?_ ?_ ?_⟩
    · cbv; subst hA; repeat' first | apply And.intro | exact True.intro | exact congrArg (fun x => DV.v (.int .i64 x)) (up64 hi2 hnL) | rfl
    · cbv; try (subst hA; repeat' first | apply And.intro | exact True.intro | rfl)
    · cbv; try (subst hA; repeat' first | apply And.intro | exact True.intro | rfl | exact .inr trivial | exact .inl trivial)
  · rename_i hlt _
    have hi2 : i < n0 := by first | exact lt2_of hA hlt | exact lt_of hA hlt
    refine ⟨⟨i + 1, hi2⟩, by simp only; omega, cov_of ?_ ?_ ?_⟩
    · cbv; subst hA; repeat' first | apply And.intro | exact True.intro | exact congrArg (fun x => DV.v (.int .i64 x)) (up64 hi2 hnL) | rfl
    · cbv; try (subst hA; repeat' first | apply And.intro | exact True.intro | rfl)
    · cbv; try (subst hA; repeat' first | apply And.intro | exact True.intro | rfl | exact .inr trivial | exact .inl trivial)
  · subst hA
    have e : IntKind.i64.wrap (c0 + (nw : Int)) = c1 := by rw [IntWalk.i64_in _ (by omega), hcc]
    show XA.one (XT.c (XV.d (DV.v (Value.bool (bif c1 == IntKind.i64.wrap (c0 + (nw : Int)) then true else false))))) = _
    rw [e, beq_self_eq_true]
    rfl
theorem sh_u8 {m : Nat} {l : List DV} (h : Shows TT (m + 1) 5 l) : ∃ x : Int, (0 ≤ x ∧ x ≤ 255) ∧ l = [eU x] := by
  obtain ⟨x, h, hw⟩ := h
  have h2 : IntKind.u8.min ≤ x ∧ x ≤ IntKind.u8.max := (Go.Lit.wf_int_iff _ _).1 hw
  have e1 : IntKind.u8.min = 0 := by decide
  have e2 : IntKind.u8.max = 255 := by decide
  rw [e1, e2] at h2
  exact ⟨x, h2, h⟩
theorem sh_bytes {m : Nat} {l : List DV} (h : Shows TT (m + 2) 43 l) : ∃ (n : Nat) (b : Nat → Int), (∀ i, 0 ≤ b i ∧ b i ≤ 255) ∧ l = [.sl 1 n fun i => [eU (b i)]] := by
  obtain ⟨sz, n, row, rfl, hsz, hn, hr⟩ := h
  cases hsz
  have hrow : ∀ i, ∃ x : Int, (0 ≤ x ∧ x ≤ 255) ∧ row i = [eU x] := fun i => sh_u8 (hr i)
  obtain ⟨rd, hrd⟩ : ∃ rd : Nat → Int, ∀ i, (0 ≤ rd i ∧ rd i ≤ 255) ∧ row i = [eU (rd i)] := ⟨fun i => Classical.choose (hrow i), fun i => Classical.choose_spec (hrow i)⟩
  have e : row = fun i => [eU (rd i)] := funext fun i => (hrd i).2
  subst e
  exact ⟨n, rd, fun i => (hrd i).1, rfl⟩
theorem lawRow (ls : List (List DV)) (h : ShowsL TT 2 [43] ls) : Meets Try.prog 11 (xtsIn TT [43] ls) ⟨.one (.c (.d (.v (.bool true)))), [none]⟩ := by
  rcases ls with _ | ⟨l0, _ | ⟨l1, ls⟩⟩
  · exact h.elim
  · obtain ⟨n0, b0, hb0, rfl⟩ := sh_bytes h.1
    exact m_law n0 b0 hb0
  · exact h.2.elim
theorem own : ownKnob Try.prog.godebug = none := by kernel_rfl
theorem laidOut : laidOutB Try.prog = true := by kernel_rfl
set_option maxRecDepth 100000 in
theorem lifted (os : Os) (started : os.Started) (H : Type) (enc : TypeId × Value → H) :
    ReturnsInHanded {} Try.checked os 11 .any (Ytbkpfnddpnccmaa.Rows.fnSpcMoreSpec.pre6 enc Try.prog Try.f11 Ytbkpfnddpnccmaa.Rows.fnSpcMoreRow.domain false)
      (Ytbkpfnddpnccmaa.Rows.fnSpcMoreSpec.post enc Try.prog Try.f11 false true false false) := by
  refine returnsInHanded_of_change_sized (C := Try.checked) own started (by kernel_rfl) Try.func11
    (ChangeSpec.witness6 (enc := enc) (C := Try.checked) false ⟨#[], #[.slice none 0 0], []⟩ 8 (by kernel_rfl) (by kernel_rfl) (by kernel_rfl) (by kernel_rfl)) ?_
  intro W base args ds gs before hval0 hW hcnd hsz0 _
  refine law_contract (P := Try.prog) (T := TT) ttok (n := 2) (tb := 4) laidOut (by decide +kernel) (by kernel_rfl) rfl Try.underlying4 rfl ?_ ?_ W base args ds gs before hval0 hW
  · intro H ds hl
    match ds, hl with
    | [d0], _ => exact ⟨rfl, rfl, rfl⟩
  · rw [Try.params11]
    intro ls hls
    exact lawRow ls hls
theorem over : Ytbkpfnddpnccmaa.Rows.fnSpcMoreRow.holds Ytbkpfnddpnccmaa.Try.pinned (OpenSpec.ofChange Ytbkpfnddpnccmaa.Rows.fnSpcMoreSpec) :=
  OpenClaim.holds_of_wide 11 Try.f11 rfl rfl rfl rfl rfl rfl rfl ⟨rfl, rfl, rfl, rfl, rfl⟩ rfl rfl rfl rfl rfl (by kernel_rfl) Try.func11 (by kernel_rfl)
    (of_decide_eq_true (by kernel_rfl)) (by unfold Func.isWrapper; first | (rw [if_pos (by decide +kernel)]; kernel_rfl) | (rw [if_neg (by decide +kernel)]; exact ⟨rfl, rfl⟩))
    (fun os started H enc _ => lifted os started H enc)
end Go.Rk
namespace Go.Proofs.Ytbkpfnddpnccmaa
theorem fnSpcMore_holds : Rows.FnSpcMoreSaid := Go.Rk.over
#print axioms fnSpcMore_holds
end Go.Proofs.Ytbkpfnddpnccmaa
