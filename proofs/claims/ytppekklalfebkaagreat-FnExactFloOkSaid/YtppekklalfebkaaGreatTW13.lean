/- Logs. -/
import Derived.Test.YtppekklalfebkaaGreatTW12
import Derived.Test.YtppekklalfebkaaGreatDFl
namespace Go.Rk
set_option linter.unusedSimpArgs false
set_option linter.unusedVariables false
open Go.Proofs
def st_log (n : Nat) (g : Nat → ItmT) (i : Nat) (v : Int) : St := ⟨[(12, .c (.d (eI i))), (11, .c (.d (eI n))), (10, .c (.d (.sl 5 n fun i => eItm (g i)))), (3, .c (.d (eI v))), (0, .c (.d (.sl 5 n fun i => eItm (g i))))], []⟩
open Classical in
set_option maxRecDepth 100000 in
theorem c_LogOk (s : Sl ItmT) : ∃ b, (b = true ↔ LogOkP s) ∧ Meets Tryz.prog 75 [.c (.d (.sl 5 s.n fun i => eItm (s.g i)))] ⟨.one (.c (.d (eB b))), [none]⟩ := by
  obtain ⟨b, hb⟩ : ∃ b : Bool, (b = true ↔ LogOkP s) := ⟨decide (LogOkP s), by rw [decide_eq_true_eq]⟩
  refine ⟨b, hb, ?_⟩
  obtain ⟨n, g, hn⟩ := s
  have hm : maxLen = 9223372036854775807 := by decide
  have hn' := hn
  rw [hm] at hn'
  have ew : 1 ≤ n → (IntKind.i64.wrap ((n : Int) - 1)).toNat = n - 1 ∧ IntKind.i64.wrap ((n : Int) - 1) = n - 1 := fun h => by
    rw [IntWalk.i64_in _ (by omega)]; omega
  show Meets _ _ [.c (.d (.sl 5 n fun i => eItm (g i)))] _
  refine meets_of (H := []) (EX := EXA) ttok mixed Tryz.func75 rfl (by kernel_rfl) (by decide) ?_
  generalize hA : real = A
  generalize hM : Meets Tryz.prog = M
  cbv
  repeat' first
    | apply And.intro
    | exact True.intro
    | with_reducible rfl
    | exact same_of hA rfl
    | refine br_of hA (fun _ => ?_) (fun _ => ?_)
    | exact imp_of hA id
    | (refine imp_of hA ?_; subst hA; simp only [real, Bool.true_and]; exact id)
    | (refine ind_of hA ?_; decide +kernel)
    | (refine call_ex hA hM (c_in _ _ _) (fun _ _ => ?_); cbv)
  · rename_i b1 hb1 hbad
    subst hA; subst hb1
    refine congrArg (fun b => XA.one (.c (.d (eB b)))) ?_
    cases b with
    | false => rfl
    | true =>
      exfalso
      have h1 : 1 ≤ n ∧ n ≤ 40 := (hb.1 rfl).1
      simp only [real, bifA, bifB, bifC, bifD, beqB, decide_eq_true_eq, decide_eq_false_iff_not, beqI, bneI, beqIF, bneIF, ne_eq, Classical.not_not, Bool.and_eq_true, Bool.or_eq_true, Bool.not_eq_true', Bool.not_eq_false', Bool.and_eq_false_iff, Bool.or_eq_false_iff, Bool.false_eq_true, and_false, false_and, or_false, false_or, and_true, true_and, not_true_eq_false, not_false_eq_true, true_iff, false_iff, Int.ofNat_eq_natCast, Int.toNat_natCast] at hbad
      have hbad : ¬ (1 ≤ (n : Int) ∧ (n : Int) ≤ 40) := by first | exact hbad | exact of_decide_eq_false hbad
      exact hbad ⟨by omega, by omega⟩
  rename_i b1 hb1 hgood
  have hpre : 1 ≤ n ∧ n ≤ 40 := by
    subst hA; subst hb1
    simp only [real, bifA, bifB, bifC, bifD, beqB, decide_eq_true_eq, decide_eq_false_iff_not, beqI, bneI, beqIF, bneIF, ne_eq, Classical.not_not, Bool.and_eq_true, Bool.or_eq_true, Bool.not_eq_true', Bool.not_eq_false', Bool.and_eq_false_iff, Bool.or_eq_false_iff, Bool.false_eq_true, and_false, false_and, or_false, false_or, and_true, true_and, not_true_eq_false, not_false_eq_true, true_iff, false_iff, Int.ofNat_eq_natCast, Int.toNat_natCast] at hgood
    have h1 : 1 ≤ (n : Int) ∧ (n : Int) ≤ 40 := by first | exact hgood | exact of_decide_eq_true hgood
    omega
  clear hgood
  refine loop_of hA (α := { q : Nat × Int // q.1 ≤ n ∧ (∀ k, k < q.1 → LogAt g k) ∧ q.2 = mkB g q.1 }) (fun y => st_log n g y.1.1 y.1.2) (fun y => n - y.1.1) ⟨(0, 0), Nat.zero_le _, fun k h => absurd h (Nat.not_lt_zero k), rfl⟩ ?_ ?_
  · refine cov_of ?_ ?_ ?_
    · cbv; try (subst hA; repeat' first | apply And.intro | exact True.intro | rfl)
    · cbv; try (subst hA; repeat' first | apply And.intro | exact True.intro | rfl)
    · cbv
  rintro ⟨⟨i, v⟩, hi, hk, hv⟩
  have hi : i ≤ n := hi
  have hk : ∀ k, k < i → LogAt g k := hk
  have hv : v = mkB g i := hv
  cbv
  repeat' first
    | apply And.intro
    | exact True.intro
    | with_reducible rfl
    | exact same_of hA rfl
    | refine br_of hA (fun _ => ?_) (fun _ => ?_)
    | exact imp_of hA id
    | (refine imp_of hA ?_; subst hA; simp only [real, Bool.true_and]; exact id)
    | (refine ind_of hA ?_; decide +kernel)
    | (refine call_ex hA hM (c_ItmOkP (g (A.nat (Int.ofNat i)))) (fun _ _ => ?_); cbv)
    | (refine inb_of hA fun _ => ?_; subst hA; simp only [real, Bool.and_eq_true, Bool.not_eq_true', Bool.not_eq_false', decide_eq_true_eq, Int.ofNat_eq_natCast, IntKind.wrap_i64] at *; omega)
  · rename_i hlt b1 hb1 hc
    have hlt' : i < n := by subst hA; simp only [real, decide_eq_true_eq, Int.ofNat_eq_natCast] at hlt; omega
    have hb1 : b1 = true ↔ ItmOkP (g i) := by subst hA; exact hb1
    have hq : ¬ LogAt g i := by
      subst hA
      simp only [real, bifA, bifB, bifC, bifD, beqB, decide_eq_true_eq, decide_eq_false_iff_not, beqI, bneI, beqIF, bneIF, ne_eq, Classical.not_not, Bool.and_eq_true, Bool.or_eq_true, Bool.not_eq_true', Bool.not_eq_false', Bool.and_eq_false_iff, Bool.or_eq_false_iff, Bool.false_eq_true, and_false, false_and, or_false, false_or, and_true, true_and, not_true_eq_false, not_false_eq_true, true_iff, false_iff, Int.ofNat_eq_natCast, Int.toNat_natCast] at hc
      have hc : (b1 = false ∨ (g i).kind = 3) ∨ ((g i).kind = 2 ∧ (g i).t ≤ v) := hc
      intro h
      rcases hc with (h1 | h1) | h1
      · have := hb1.2 h.1
        rw [h1] at this; cases this
      · exact h.2.1 h1
      · have := h.2.2 h1.1
        have := h1.2
        omega
    refine congrArg (fun b => XA.one (.c (.d (eB b)))) ?_
    cases b with
    | false => rfl
    | true =>
      exfalso
      exact hq ((hb.1 rfl).2.1 i hlt')
  · rename_i hlt b1 hb1 hc hmk
    have hlt' : i < n := by subst hA; simp only [real, decide_eq_true_eq, Int.ofNat_eq_natCast] at hlt; omega
    have hb1 : b1 = true ↔ ItmOkP (g i) := by subst hA; exact hb1
    have h1 :  (g i).kind = 2 := by subst hA; have h : ((g i).kind == 2) = true := hmk; simpa using h
    have hq : LogAt g i := by
      subst hA
      simp only [real, bifA, bifB, bifC, bifD, beqB, decide_eq_true_eq, decide_eq_false_iff_not, beqI, bneI, beqIF, bneIF, ne_eq, Classical.not_not, Bool.and_eq_true, Bool.or_eq_true, Bool.not_eq_true', Bool.not_eq_false', Bool.and_eq_false_iff, Bool.or_eq_false_iff, Bool.false_eq_true, and_false, false_and, or_false, false_or, and_true, true_and, not_true_eq_false, not_false_eq_true, true_iff, false_iff, Int.ofNat_eq_natCast, Int.toNat_natCast] at hc
      have hc : (b1 = true ∧ ¬ (g i).kind = 3) ∧ (¬ (g i).kind = 2 ∨ ¬ (g i).t ≤ v) := hc
      refine ⟨hb1.1 hc.1.1, hc.1.2, fun h => ?_⟩
      rcases hc.2 with h3 | h3
      · exact absurd h h3
      · omega
    refine ⟨⟨(i + 1, (g i).t), by simp only; omega, fun k hk' => ?_, ?_⟩, by simp only; omega, cov_of ?_ ?_ ?_⟩
    · by_cases e : k = i
      · rw [e]; exact hq
      · exact hk k (by simp only at hk'; omega)
    · simp only
      unfold mkB
      rw [if_pos h1]
    · cbv
      subst hA
      repeat' first | apply And.intro | exact True.intro | exact congrArg (fun x => DV.v (.int .i64 x)) (up64 hlt' hn) | rfl | (intro k hk; exact push_at rfl _ _ _ _ k hk)
    · cbv; try (subst hA; repeat' first | apply And.intro | exact True.intro | rfl)
    · cbv
  · rename_i hlt b1 hb1 hc hmk
    have hlt' : i < n := by subst hA; simp only [real, decide_eq_true_eq, Int.ofNat_eq_natCast] at hlt; omega
    have hb1 : b1 = true ↔ ItmOkP (g i) := by subst hA; exact hb1
    have h1 : ¬ (g i).kind = 2 := by subst hA; have h : ((g i).kind == 2) = false := hmk; simpa using h
    have hq : LogAt g i := by
      subst hA
      simp only [real, bifA, bifB, bifC, bifD, beqB, decide_eq_true_eq, decide_eq_false_iff_not, beqI, bneI, beqIF, bneIF, ne_eq, Classical.not_not, Bool.and_eq_true, Bool.or_eq_true, Bool.not_eq_true', Bool.not_eq_false', Bool.and_eq_false_iff, Bool.or_eq_false_iff, Bool.false_eq_true, and_false, false_and, or_false, false_or, and_true, true_and, not_true_eq_false, not_false_eq_true, true_iff, false_iff, Int.ofNat_eq_natCast, Int.toNat_natCast] at hc
      have hc : (b1 = true ∧ ¬ (g i).kind = 3) ∧ (¬ (g i).kind = 2 ∨ ¬ (g i).t ≤ v) := hc
      refine ⟨hb1.1 hc.1.1, hc.1.2, fun h => ?_⟩
      rcases hc.2 with h3 | h3
      · exact absurd h h3
      · omega
    refine ⟨⟨(i + 1, v), by simp only; omega, fun k hk' => ?_, ?_⟩, by simp only; omega, cov_of ?_ ?_ ?_⟩
    · by_cases e : k = i
      · rw [e]; exact hq
      · exact hk k (by simp only at hk'; omega)
    · simp only
      unfold mkB
      rw [if_neg h1]; exact hv
    · cbv
      subst hA
      repeat' first | apply And.intro | exact True.intro | exact congrArg (fun x => DV.v (.int .i64 x)) (up64 hlt' hn) | rfl | (intro k hk; exact push_at rfl _ _ _ _ k hk)
    · cbv; try (subst hA; repeat' first | apply And.intro | exact True.intro | rfl)
    · cbv
  all_goals try (refine inb_of hA fun _ => ?_; subst hA; show 0 ≤ IntKind.i64.wrap ((n : Int) - 1) ∧ IntKind.i64.wrap ((n : Int) - 1) < n; rw [(ew hpre.1).2]; omega)
  rename_i hge
  have hin : i = n := by
    subst hA
    simp only [real, decide_eq_false_iff_not, Int.ofNat_eq_natCast] at hge
    omega
  subst hin
  refine congrArg (fun b => XA.one (.c (.d (eB b)))) (Bool.eq_iff_iff.2 ?_)
  subst hA
  rw [hb]
  simp only [real, bifA, bifB, bifC, bifD, beqB, decide_eq_true_eq, decide_eq_false_iff_not, beqI, bneI, beqIF, bneIF, ne_eq, Bool.and_eq_true, Bool.or_eq_true, Bool.not_eq_true', Bool.not_eq_false', Bool.and_eq_false_iff, Bool.or_eq_false_iff, Bool.false_eq_true, and_false, false_and, or_false, false_or, and_true, true_and, not_true_eq_false, not_false_eq_true, true_iff, false_iff, Int.ofNat_eq_natCast, Int.toNat_natCast]
  have e : EndP (g (i - 1)) ↔ EndP (g (IntKind.i64.wrap ((i : Int) - 1)).toNat) := by rw [(ew hpre.1).1]
  constructor
  · intro h
    exact ⟨hpre, hk, e.2 h⟩
  · intro h
    exact e.1 h.2.2
def st_slog (n : Nat) (g : Nat → ItmT) (i : Nat) (v : Int) : St := ⟨[(4, .c (.d (eI i))), (3, .c (.d (eI v))), (0, .c (.d (.sl 5 n fun i => eItm (g i))))], []⟩
open Classical in
set_option maxRecDepth 100000 in
theorem c_sLogOk (s : Sl ItmT) : ∃ b, (b = true ↔ LogOkP s) ∧ Meets Tryz.prog 67 [.c (.d (.sl 5 s.n fun i => eItm (s.g i)))] ⟨.one (.c (.d (eB b))), [none]⟩ := by
  obtain ⟨b, hb⟩ : ∃ b : Bool, (b = true ↔ LogOkP s) := ⟨decide (LogOkP s), by rw [decide_eq_true_eq]⟩
  refine ⟨b, hb, ?_⟩
  obtain ⟨n, g, hn⟩ := s
  have hm : maxLen = 9223372036854775807 := by decide
  have hn' := hn
  rw [hm] at hn'
  have ew : 1 ≤ n → (IntKind.i64.wrap ((n : Int) - 1)).toNat = n - 1 ∧ IntKind.i64.wrap ((n : Int) - 1) = n - 1 := fun h => by
    rw [IntWalk.i64_in _ (by omega)]; omega
  show Meets _ _ [.c (.d (.sl 5 n fun i => eItm (g i)))] _
  refine meets_of (H := []) (EX := EXA) ttok mixed Tryz.func67 rfl (by kernel_rfl) (by decide) ?_
  generalize hA : real = A
  generalize hM : Meets Tryz.prog = M
  cbv
  repeat' first
    | apply And.intro
    | exact True.intro
    | with_reducible rfl
    | exact same_of hA rfl
    | refine br_of hA (fun _ => ?_) (fun _ => ?_)
    | exact imp_of hA id
    | (refine imp_of hA ?_; subst hA; simp only [real, Bool.true_and]; exact id)
    | (refine ind_of hA ?_; decide +kernel)
    | (refine call_ex hA hM (c_l1In _ _ _) (fun _ _ => ?_); cbv)
  · rename_i b1 hb1
    refine inb_of hA fun hg => ?_
    subst hA; subst hb1
    have h2 : 1 ≤ (n : Int) ∧ (n : Int) ≤ 40 := by
      have hg : (!(!decide (1 ≤ (n : Int) ∧ (n : Int) ≤ 40))) = true := hg
      rw [Bool.not_not] at hg
      exact of_decide_eq_true hg
    have h3 : 1 ≤ n := by omega
    have q : 0 ≤ IntKind.i64.wrap ((n : Int) - 1) ∧ IntKind.i64.wrap ((n : Int) - 1) < (n : Int) := by
      have e := (ew h3).2
      refine ⟨?_, ?_⟩
      · rw [e]; exact Int.sub_nonneg.2 (Int.ofNat_le.2 h3)
      · rw [e]; exact Int.sub_lt_self _ (by decide)
    exact q
  · rename_i b1 hb1 hbad
    subst hA; subst hb1
    refine congrArg (fun b => XA.one (.c (.d (eB b)))) ?_
    cases b with
    | false => rfl
    | true =>
      exfalso
      have h := hb.1 rfl
      obtain ⟨h1, _, h2⟩ := h
      have h1 : 1 ≤ n ∧ n ≤ 40 := h1
      have h2 : EndP (g (n - 1)) := h2
      unfold EndP at h2
      rw [← (ew h1.1).1] at h2
      simp only [real, bifA, bifB, bifC, bifD, beqB, decide_eq_true_eq, decide_eq_false_iff_not, beqI, bneI, beqIF, bneIF, ne_eq, Classical.not_not, Bool.and_eq_true, Bool.or_eq_true, Bool.not_eq_true', Bool.not_eq_false', Bool.and_eq_false_iff, Bool.or_eq_false_iff, Bool.false_eq_true, and_false, false_and, or_false, false_or, and_true, true_and, not_true_eq_false, not_false_eq_true, true_iff, false_iff, Int.ofNat_eq_natCast, Int.toNat_natCast] at hbad
      rcases hbad with h3 | h3
      · have h3 : ¬ (1 ≤ (n : Int) ∧ (n : Int) ≤ 40) := by first | exact h3 | exact of_decide_eq_false h3
        exact h3 ⟨by omega, by omega⟩
      · rcases h3 with h3 | h3 | h3 | h3 | h3
        · exact h3 h2.1
        · exact h3 h2.2.1
        · exact h3 h2.2.2.1
        · exact h3 h2.2.2.2.1
        · first | exact h3 h2.2.2.2.2 | (rcases h3 with h3 | h3; exact h3 h2.2.2.2.2; cases h3)
  rename_i b1 hb1 hgood
  have hpre : (1 ≤ n ∧ n ≤ 40) ∧ EndP (g (n - 1)) := by
    subst hA; subst hb1
    simp only [real, bifA, bifB, bifC, bifD, beqB, decide_eq_true_eq, decide_eq_false_iff_not, beqI, bneI, beqIF, bneIF, ne_eq, Classical.not_not, Bool.and_eq_true, Bool.or_eq_true, Bool.not_eq_true', Bool.not_eq_false', Bool.and_eq_false_iff, Bool.or_eq_false_iff, Bool.false_eq_true, and_false, false_and, or_false, false_or, and_true, true_and, not_true_eq_false, not_false_eq_true, true_iff, false_iff, Int.ofNat_eq_natCast, Int.toNat_natCast] at hgood
    have h1 : 1 ≤ (n : Int) ∧ (n : Int) ≤ 40 := by first | exact hgood.1 | exact of_decide_eq_true hgood.1
    refine ⟨by omega, ?_⟩
    rw [← (ew (by omega)).1]
    obtain ⟨q1, q2, q3, q4, q5⟩ := hgood.2
    exact ⟨q1, q2, q3, q4, by first | exact q5 | exact q5.1⟩
  clear hgood
  refine loop_of hA (α := { q : Nat × Int // q.1 ≤ n ∧ (∀ k, k < q.1 → LogAt g k) ∧ q.2 = mkB g q.1 }) (fun y => st_slog n g y.1.1 y.1.2) (fun y => n - y.1.1) ⟨(0, 0), Nat.zero_le _, fun k h => absurd h (Nat.not_lt_zero k), rfl⟩ ?_ ?_
  · refine cov_of ?_ ?_ ?_
    · cbv; try (subst hA; repeat' first | apply And.intro | exact True.intro | rfl)
    · cbv; try (subst hA; repeat' first | apply And.intro | exact True.intro | rfl)
    · cbv
  rintro ⟨⟨i, v⟩, hi, hk, hv⟩
  have hi : i ≤ n := hi
  have hk : ∀ k, k < i → LogAt g k := hk
  have hv : v = mkB g i := hv
  cbv
  repeat' first
    | apply And.intro
    | exact True.intro
    | with_reducible rfl
    | exact same_of hA rfl
    | refine br_of hA (fun _ => ?_) (fun _ => ?_)
    | exact imp_of hA id
    | (refine imp_of hA ?_; subst hA; simp only [real, Bool.true_and]; exact id)
    | (refine ind_of hA ?_; decide +kernel)
    | (refine call_ex hA hM (c_sItmOkP (g (A.nat (Int.ofNat i)))) (fun _ _ => ?_); cbv)
    | (refine inb_of hA fun _ => ?_; subst hA; simp only [real, Bool.and_eq_true, Bool.not_eq_true', Bool.not_eq_false', decide_eq_true_eq, Int.ofNat_eq_natCast, IntKind.wrap_i64] at *; omega)
  · rename_i hlt b1 hb1 hc
    have hlt' : i < n := by subst hA; simp only [real, decide_eq_true_eq, Int.ofNat_eq_natCast] at hlt; omega
    have hb1 : b1 = true ↔ ItmOkP (g i) := by subst hA; exact hb1
    have hq : ¬ LogAt g i := by
      subst hA
      simp only [real, bifA, bifB, bifC, bifD, beqB, decide_eq_true_eq, decide_eq_false_iff_not, beqI, bneI, beqIF, bneIF, ne_eq, Classical.not_not, Bool.and_eq_true, Bool.or_eq_true, Bool.not_eq_true', Bool.not_eq_false', Bool.and_eq_false_iff, Bool.or_eq_false_iff, Bool.false_eq_true, and_false, false_and, or_false, false_or, and_true, true_and, not_true_eq_false, not_false_eq_true, true_iff, false_iff, Int.ofNat_eq_natCast, Int.toNat_natCast] at hc
      have hc : b1 = false ∨ (g i).kind = 3 := hc
      intro h
      rcases hc with h1 | h1
      · have := hb1.2 h.1
        rw [h1] at this; cases this
      · exact h.2.1 h1
    refine congrArg (fun b => XA.one (.c (.d (eB b)))) ?_
    cases b with
    | false => rfl
    | true =>
      exfalso
      exact hq ((hb.1 rfl).2.1 i hlt')
  · rename_i hlt b1 hb1 hc hmk ht
    have hlt' : i < n := by subst hA; simp only [real, decide_eq_true_eq, Int.ofNat_eq_natCast] at hlt; omega
    have hb1 : b1 = true ↔ ItmOkP (g i) := by subst hA; exact hb1
    have hq : ¬ LogAt g i := by
      subst hA
      have h1 : (g i).kind = 2 := by have h : ((g i).kind == 2) = true := hmk; simpa using h
      have h2 : (g i).t ≤ v := of_decide_eq_true ht
      intro h
      have := h.2.2 h1
      omega
    refine congrArg (fun b => XA.one (.c (.d (eB b)))) ?_
    cases b with
    | false => rfl
    | true =>
      exfalso
      exact hq ((hb.1 rfl).2.1 i hlt')
  · rename_i hlt b1 hb1 hc hmk ht
    have hlt' : i < n := by subst hA; simp only [real, decide_eq_true_eq, Int.ofNat_eq_natCast] at hlt; omega
    have hb1 : b1 = true ↔ ItmOkP (g i) := by subst hA; exact hb1
    have h1 : (g i).kind = 2 := by subst hA; have h : ((g i).kind == 2) = true := hmk; simpa using h
    have hq : LogAt g i := by
      subst hA
      simp only [real, bifA, bifB, bifC, bifD, beqB, decide_eq_true_eq, decide_eq_false_iff_not, beqI, bneI, beqIF, bneIF, ne_eq, Classical.not_not, Bool.and_eq_true, Bool.or_eq_true, Bool.not_eq_true', Bool.not_eq_false', Bool.and_eq_false_iff, Bool.or_eq_false_iff, Bool.false_eq_true, and_false, false_and, or_false, false_or, and_true, true_and, not_true_eq_false, not_false_eq_true, true_iff, false_iff, Int.ofNat_eq_natCast, Int.toNat_natCast] at hc
      have hc : b1 = true ∧ ¬ (g i).kind = 3 := hc
      have h2 : ¬ (g i).t ≤ v := of_decide_eq_false ht
      exact ⟨hb1.1 hc.1, hc.2, fun _ => by omega⟩
    refine ⟨⟨(i + 1, (g i).t), by simp only; omega, fun k hk' => ?_, ?_⟩, by simp only; omega, cov_of ?_ ?_ ?_⟩
    · by_cases e : k = i
      · rw [e]; exact hq
      · exact hk k (by simp only at hk'; omega)
    · simp only
      unfold mkB
      rw [if_pos h1]
    · cbv
      subst hA
      repeat' first | apply And.intro | exact True.intro | exact congrArg (fun x => DV.v (.int .i64 x)) (up64 hlt' hn) | rfl | (intro k hk; exact push_at rfl _ _ _ _ k hk)
    · cbv; try (subst hA; repeat' first | apply And.intro | exact True.intro | rfl)
    · cbv
  · rename_i hlt b1 hb1 hc hmk
    have hlt' : i < n := by subst hA; simp only [real, decide_eq_true_eq, Int.ofNat_eq_natCast] at hlt; omega
    have hb1 : b1 = true ↔ ItmOkP (g i) := by subst hA; exact hb1
    have h1 : ¬ (g i).kind = 2 := by subst hA; have h : ((g i).kind == 2) = false := hmk; simpa using h
    have hq : LogAt g i := by
      subst hA
      simp only [real, bifA, bifB, bifC, bifD, beqB, decide_eq_true_eq, decide_eq_false_iff_not, beqI, bneI, beqIF, bneIF, ne_eq, Classical.not_not, Bool.and_eq_true, Bool.or_eq_true, Bool.not_eq_true', Bool.not_eq_false', Bool.and_eq_false_iff, Bool.or_eq_false_iff, Bool.false_eq_true, and_false, false_and, or_false, false_or, and_true, true_and, not_true_eq_false, not_false_eq_true, true_iff, false_iff, Int.ofNat_eq_natCast, Int.toNat_natCast] at hc
      have hc : b1 = true ∧ ¬ (g i).kind = 3 := hc
      exact ⟨hb1.1 hc.1, hc.2, fun h => absurd h h1⟩
    refine ⟨⟨(i + 1, v), by simp only; omega, fun k hk' => ?_, ?_⟩, by simp only; omega, cov_of ?_ ?_ ?_⟩
    · by_cases e : k = i
      · rw [e]; exact hq
      · exact hk k (by simp only at hk'; omega)
    · simp only
      unfold mkB
      rw [if_neg h1]; exact hv
    · cbv
      subst hA
      repeat' first | apply And.intro | exact True.intro | exact congrArg (fun x => DV.v (.int .i64 x)) (up64 hlt' hn) | rfl | (intro k hk; exact push_at rfl _ _ _ _ k hk)
    · cbv; try (subst hA; repeat' first | apply And.intro | exact True.intro | rfl)
    · cbv
  rename_i hge
  have hin : i = n := by
    subst hA
    simp only [real, decide_eq_false_iff_not, Int.ofNat_eq_natCast] at hge
    omega
  subst hin
  exact congrArg (fun b => XA.one (.c (.d (eB b)))) (hb.2 ⟨hpre.1, hk, hpre.2⟩).symm
end Go.Rk
