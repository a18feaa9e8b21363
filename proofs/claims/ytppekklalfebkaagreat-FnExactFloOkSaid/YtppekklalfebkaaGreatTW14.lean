/- Sinks and flows. -/
import Derived.Test.YtppekklalfebkaaGreatTW13
namespace Go.Rk
set_option linter.unusedSimpArgs false
set_option linter.unusedVariables false
open Go.Proofs
def st_sk (m : Int) (n : Nat) (g : Nat → TxnT) (hn : n ≤ maxLen) (ps : Sl PaneT) (ls : Sl LatT) (i : Nat) (v : Int) : St := ⟨[(11, .c (.d (eI i))), (10, .c (.d (eI n))), (9, .c (.d (.sl 3 n fun i => eTxn (g i)))), (3, .c (.d (eI v))), (1, .c (.bp 64 1 0))], [(64, 1, .box ((eSink ⟨⟨n, g, hn⟩, m, ps, ls⟩).map .d))]⟩
open Classical in
set_option maxRecDepth 100000 in
theorem c_SinkOk (s : SinkT) : ∃ b, (b = true ↔ SinkOkP s) ∧ Meets Tryz.prog 80 [xd (eSink s)] ⟨.one (.c (.d (eB b))), [none]⟩ := by
  obtain ⟨b, hb⟩ : ∃ b : Bool, (b = true ↔ SinkOkP s) := ⟨decide (SinkOkP s), by rw [decide_eq_true_eq]⟩
  refine ⟨b, hb, ?_⟩
  obtain ⟨⟨n, g, hn⟩, m, ps, ls⟩ := s
  refine meets_of (H := []) (EX := EXA) ttok mixed Tryz.func80 rfl (by kernel_rfl) (by decide) ?_
  generalize hA : real = A
  generalize hM : Meets Tryz.prog = M
  cbv
  repeat' first
    | apply And.intro
    | exact True.intro
    | with_reducible rfl
    | exact same_of hA rfl
    | refine br_of hA (fun _ => ?_) (fun _ => ?_)
    | exact imp_of hA id
    | (refine imp_of hA ?_; subst hA; simp only [real, Bool.true_and]; exact id)
    | (refine ind_of hA ?_; decide +kernel)
  refine loop_of hA (α := { q : Nat × Int // q.1 ≤ n ∧ (∀ k, k < q.1 → RdI m g k) ∧ q.2 = lastR m g q.1 }) (fun y => st_sk m n g hn ps ls y.1.1 y.1.2) (fun y => n - y.1.1) ⟨(0, m), Nat.zero_le _, fun k h => absurd h (Nat.not_lt_zero k), rfl⟩ ?_ ?_
  · refine cov_of ?_ ?_ ?_
    · cbv; try (subst hA; repeat' first | apply And.intro | exact True.intro | rfl)
    · cbv; try (subst hA; repeat' first | apply And.intro | exact True.intro | rfl)
    · cbv
  rintro ⟨⟨i, v⟩, hi, hk, hv⟩
  have hi : i ≤ n := hi
  have hk : ∀ k, k < i → RdI m g k := hk
  have hv : v = lastR m g i := hv
  cbv
  repeat' first
    | apply And.intro
    | exact True.intro
    | with_reducible rfl
    | exact same_of hA rfl
    | refine br_of hA (fun _ => ?_) (fun _ => ?_)
    | exact imp_of hA id
    | (refine imp_of hA ?_; subst hA; simp only [real, Bool.true_and]; exact id)
    | (refine ind_of hA ?_; decide +kernel)
    | (refine call_ex hA hM (c_TxnOk (g (A.nat (Int.ofNat i)))) (fun _ _ => ?_); cbv)
    | (refine call_ex hA hM (c_in _ _ _) (fun _ _ => ?_); cbv)
    | (refine call_ex hA hM (c_told ps ls _) (fun _ _ => ?_); cbv)
    | (refine inb_of hA fun _ => ?_; subst hA; simp only [real, Bool.and_eq_true, Bool.not_eq_true', Bool.not_eq_false', decide_eq_true_eq, Int.ofNat_eq_natCast, IntKind.wrap_i64] at *; omega)
  · rename_i hlt b1 hb1 hc
    have hlt' : i < n := by subst hA; simp only [real, decide_eq_true_eq, Int.ofNat_eq_natCast] at hlt; omega
    have hb1 : b1 = true ↔ TxnOkP (g i) := by subst hA; exact hb1
    have hq : ¬ RdI m g i := by
      subst hA
      simp only [real, bifA, bifB, bifC, bifD, beqB, decide_eq_true_eq, decide_eq_false_iff_not, beqI, bneI, beqIF, bneIF, ne_eq, Classical.not_not, Bool.and_eq_true, Bool.or_eq_true, Bool.not_eq_true', Bool.not_eq_false', Bool.and_eq_false_iff, Bool.or_eq_false_iff, Bool.false_eq_true, and_false, false_and, or_false, false_or, and_true, true_and, not_true_eq_false, not_false_eq_true, true_iff, false_iff, Int.ofNat_eq_natCast, Int.toNat_natCast] at hc
      have hc : b1 = false ∨ (g i).n ≤ v := hc
      intro h
      rcases hc with h1 | h1
      · have := hb1.2 h.1
        rw [h1] at this; cases this
      · have := h.2
        omega
    refine congrArg (fun b => XA.one (.c (.d (eB b)))) ?_
    cases b with
    | false => rfl
    | true =>
      exfalso
      exact hq ((hb.1 rfl).2.2.2 i hlt')
  · rename_i hlt b1 hb1 hc
    have hlt' : i < n := by subst hA; simp only [real, decide_eq_true_eq, Int.ofNat_eq_natCast] at hlt; omega
    have hb1 : b1 = true ↔ TxnOkP (g i) := by subst hA; exact hb1
    have hq : RdI m g i := by
      subst hA
      simp only [real, bifA, bifB, bifC, bifD, beqB, decide_eq_true_eq, decide_eq_false_iff_not, beqI, bneI, beqIF, bneIF, ne_eq, Classical.not_not, Bool.and_eq_true, Bool.or_eq_true, Bool.not_eq_true', Bool.not_eq_false', Bool.and_eq_false_iff, Bool.or_eq_false_iff, Bool.false_eq_true, and_false, false_and, or_false, false_or, and_true, true_and, not_true_eq_false, not_false_eq_true, true_iff, false_iff, Int.ofNat_eq_natCast, Int.toNat_natCast] at hc
      have hc : b1 = true ∧ ¬ (g i).n ≤ v := hc
      exact ⟨hb1.1 hc.1, by omega⟩
    refine ⟨⟨(i + 1, (g i).n), by simp only; omega, fun k hk' => ?_, by simp [lastR]⟩, by simp only; omega, cov_of ?_ ?_ ?_⟩
    · by_cases e : k = i
      · rw [e]; exact hq
      · exact hk k (by simp only at hk'; omega)
    · cbv
      subst hA
      repeat' first | apply And.intro | exact True.intro | exact congrArg (fun x => DV.v (.int .i64 x)) (up64 hlt' hn) | rfl | (intro k hk; exact push_at rfl _ _ _ _ k hk)
    · cbv; try (subst hA; repeat' first | apply And.intro | exact True.intro | rfl)
    · cbv
  rename_i hge b1 hb1 b2 hb2
  have hin : i = n := by
    subst hA
    simp only [real, decide_eq_false_iff_not, Int.ofNat_eq_natCast] at hge
    omega
  subst hin
  refine congrArg (fun b => XA.one (.c (.d (eB b)))) (Bool.eq_iff_iff.2 ?_)
  subst hA; subst hb1
  rw [hb]
  simp only [real, bifA, bifB, bifC, bifD, beqB, decide_eq_true_eq, decide_eq_false_iff_not, beqI, bneI, beqIF, bneIF, ne_eq, Bool.and_eq_true, Bool.or_eq_true, Bool.not_eq_true', Bool.not_eq_false', Bool.and_eq_false_iff, Bool.or_eq_false_iff, Bool.false_eq_true, and_false, false_and, or_false, false_or, and_true, true_and, not_true_eq_false, not_false_eq_true, true_iff, false_iff, Int.ofNat_eq_natCast, Int.toNat_natCast]
  rw [hb2]
  constructor
  · rintro ⟨⟨h1, h2⟩, h3⟩
    have h1 : (i : Int) ≤ 12 := h1
    exact ⟨(show i ≤ 12 by omega), h2, h3, hk⟩
  · intro h
    have h1 : i ≤ 12 := h.1
    exact ⟨⟨(show (i : Int) ≤ 12 by omega), h.2.1⟩, h.2.2.1⟩
def st_ssk0 (m : Int) (n : Nat) (g : Nat → TxnT) (hn : n ≤ maxLen) (n2 : Nat) (g2 : Nat → PaneT) (hn2 : n2 ≤ maxLen) (n3 : Nat) (g3 : Nat → LatT) (hn3 : n3 ≤ maxLen) (i : Nat) : St := ⟨[(3, .c (.d (eI i))), (1, .c (.bp 64 1 0))], [(64, 1, .box ((eSink ⟨⟨n, g, hn⟩, m, ⟨n2, g2, hn2⟩, ⟨n3, g3, hn3⟩⟩).map .d))]⟩
def st_ssk1 (m : Int) (n : Nat) (g : Nat → TxnT) (hn : n ≤ maxLen) (n2 : Nat) (g2 : Nat → PaneT) (hn2 : n2 ≤ maxLen) (n3 : Nat) (g3 : Nat → LatT) (hn3 : n3 ≤ maxLen) (i : Nat) : St := ⟨[(4, .c (.d (eI i))), (1, .c (.bp 64 1 0))], [(64, 1, .box ((eSink ⟨⟨n, g, hn⟩, m, ⟨n2, g2, hn2⟩, ⟨n3, g3, hn3⟩⟩).map .d))]⟩
def st_ssk2 (m : Int) (n : Nat) (g : Nat → TxnT) (hn : n ≤ maxLen) (n2 : Nat) (g2 : Nat → PaneT) (hn2 : n2 ≤ maxLen) (n3 : Nat) (g3 : Nat → LatT) (hn3 : n3 ≤ maxLen) (i : Nat) : St := ⟨[(5, .c (.d (eI i))), (1, .c (.bp 64 1 0))], [(64, 1, .box ((eSink ⟨⟨n, g, hn⟩, m, ⟨n2, g2, hn2⟩, ⟨n3, g3, hn3⟩⟩).map .d))]⟩
open Classical in
set_option maxRecDepth 100000 in
theorem c_sSinkOk (s : SinkT) : ∃ b, (b = true ↔ SinkOkP s) ∧ Meets Tryz.prog 70 [xd (eSink s)] ⟨.one (.c (.d (eB b))), [none]⟩ := by
  obtain ⟨b, hb⟩ : ∃ b : Bool, (b = true ↔ SinkOkP s) := ⟨decide (SinkOkP s), by rw [decide_eq_true_eq]⟩
  refine ⟨b, hb, ?_⟩
  obtain ⟨⟨n, g, hn⟩, m, ⟨n2, g2, hn2⟩, ⟨n3, g3, hn3⟩⟩ := s
  refine meets_of (H := []) (EX := EXA) ttok mixed Tryz.func70 rfl (by kernel_rfl) (by decide) ?_
  generalize hA : real = A
  generalize hM : Meets Tryz.prog = M
  cbv
  repeat' first
    | apply And.intro
    | exact True.intro
    | with_reducible rfl
    | exact same_of hA rfl
    | refine br_of hA (fun _ => ?_) (fun _ => ?_)
    | exact imp_of hA id
    | (refine imp_of hA ?_; subst hA; simp only [real, Bool.true_and]; exact id)
    | (refine ind_of hA ?_; decide +kernel)
    | (refine call_ex hA hM (c_l1In _ _ _) (fun _ _ => ?_); cbv)
  · rename_i b1 hb1 hbad
    subst hA; subst hb1
    refine congrArg (fun b => XA.one (.c (.d (eB b)))) ?_
    cases b with
    | false => rfl
    | true =>
      exfalso
      have h := hb.1 rfl
      simp only [real, bifA, bifB, bifC, bifD, beqB, decide_eq_true_eq, decide_eq_false_iff_not, beqI, bneI, beqIF, bneIF, ne_eq, Classical.not_not, Bool.and_eq_true, Bool.or_eq_true, Bool.not_eq_true', Bool.not_eq_false', Bool.and_eq_false_iff, Bool.or_eq_false_iff, Bool.false_eq_true, and_false, false_and, or_false, false_or, and_true, true_and, not_true_eq_false, not_false_eq_true, true_iff, false_iff, Int.ofNat_eq_natCast, Int.toNat_natCast] at hbad
      have hbad : (((n : Int) > 12 ∨ ¬ (0 ≤ m ∧ m ≤ 900)) ∨ (n2 : Int) > 1500) ∨ (n3 : Int) > 1500 := hbad
      have h1 : n ≤ 12 := h.1
      have h2 : 0 ≤ m ∧ m ≤ 900 := h.2.1
      have h3 : (n2 : Int) ≤ 1500 := h.2.2.1.1
      have h4 : (n3 : Int) ≤ 1500 := h.2.2.1.2.1
      omega
  rename_i b1 hb1 hgood
  have hpre : n ≤ 12 ∧ (0 ≤ m ∧ m ≤ 900) ∧ (n2 : Int) ≤ 1500 ∧ (n3 : Int) ≤ 1500 := by
    subst hA; subst hb1
    simp only [real, bifA, bifB, bifC, bifD, beqB, decide_eq_true_eq, decide_eq_false_iff_not, beqI, bneI, beqIF, bneIF, ne_eq, Classical.not_not, Bool.and_eq_true, Bool.or_eq_true, Bool.not_eq_true', Bool.not_eq_false', Bool.and_eq_false_iff, Bool.or_eq_false_iff, Bool.false_eq_true, and_false, false_and, or_false, false_or, and_true, true_and, not_true_eq_false, not_false_eq_true, true_iff, false_iff, Int.ofNat_eq_natCast, Int.toNat_natCast] at hgood
    have hgood : ((¬ (n : Int) > 12 ∧ (0 ≤ m ∧ m ≤ 900)) ∧ ¬ (n2 : Int) > 1500) ∧ ¬ (n3 : Int) > 1500 := hgood
    omega
  clear hgood
  refine loop_of hA (α := { i : Nat // i ≤ n ∧ ∀ k, k < i → RdI m g k }) (fun x => st_ssk0 m n g hn n2 g2 hn2 n3 g3 hn3 x.1) (fun x => n - x.1) ⟨0, Nat.zero_le _, fun k h => absurd h (Nat.not_lt_zero k)⟩ ?_ ?_
  · refine cov_of ?_ ?_ ?_
    · cbv; try (subst hA; repeat' first | apply And.intro | exact True.intro | rfl)
    · cbv; try (subst hA; repeat' first | apply And.intro | exact True.intro | rfl)
    · cbv
  rintro ⟨i, hi, hk⟩
  cbv
  repeat' first
    | apply And.intro
    | exact True.intro
    | with_reducible rfl
    | exact same_of hA rfl
    | refine br_of hA (fun _ => ?_) (fun _ => ?_)
    | exact imp_of hA id
    | (refine imp_of hA ?_; subst hA; simp only [real, Bool.true_and]; exact id)
    | (refine ind_of hA ?_; decide +kernel)
    | (refine call_ex hA hM (c_l8Txn (g (A.nat (Int.ofNat i)))) (fun _ _ => ?_); cbv)
    | (refine inb_of hA fun hg => ?_; subst hA; simp only [real, decide_eq_true_eq, Int.ofNat_eq_natCast, IntKind.wrap_i64, bifA, bifC, Bool.and_eq_true, Bool.not_eq_true'] at *; omega)
    | (refine inb_of hA fun _ => ?_; subst hA; simp only [real, Bool.and_eq_true, Bool.not_eq_true', Bool.not_eq_false', decide_eq_true_eq, Int.ofNat_eq_natCast, IntKind.wrap_i64] at *; omega)
  · rename_i hlt b1 hb1 hc
    have hlt' : i < n := by subst hA; simp only [real, decide_eq_true_eq, Int.ofNat_eq_natCast] at hlt; omega
    have hq : ¬ (RdI m g i) := by
      subst hA
      have hb1 : b1 = true ↔ TxnOkP (g i) := hb1
      rw [rd_iff hk]
      have hp : 0 < i → (IntKind.i64.wrap ((i : Int) - 1)).toNat = i - 1 := fun h => down64 h (Nat.le_trans hi hn)
      simp only [real, bifA, bifB, bifC, bifD, beqB, decide_eq_true_eq, decide_eq_false_iff_not, beqI, bneI, beqIF, bneIF, ne_eq, Classical.not_not, Bool.and_eq_true, Bool.or_eq_true, Bool.not_eq_true', Bool.not_eq_false', Bool.and_eq_false_iff, Bool.or_eq_false_iff, Bool.false_eq_true, and_false, false_and, or_false, false_or, and_true, true_and, not_true_eq_false, not_false_eq_true, true_iff, false_iff, Int.ofNat_eq_natCast, Int.toNat_natCast] at hc
      have hc : (b1 = false ∨ (g i).n ≤ m) ∨ ((i : Int) > 0 ∧ (g (IntKind.i64.wrap ((i : Int) - 1)).toNat).n ≥ (g i).n) := hc
      rintro ⟨h1, h2, h3⟩
      rcases hc with (hc | hc) | hc
      · have := hb1.2 h1
        rw [hc] at this; cases this
      · omega
      · have h4 : 0 < i := by omega
        rw [hp h4] at hc
        have := h3 h4
        omega
    refine congrArg (fun b => XA.one (.c (.d (eB b)))) ?_
    cases b with
    | false => rfl
    | true =>
      exfalso
      exact hq ((hb.1 rfl).2.2.2 i hlt')
  · rename_i hlt b1 hb1 hc
    have hlt' : i < n := by subst hA; simp only [real, decide_eq_true_eq, Int.ofNat_eq_natCast] at hlt; omega
    have hq : RdI m g i := by
      subst hA
      have hb1 : b1 = true ↔ TxnOkP (g i) := hb1
      rw [rd_iff hk]
      have hp : 0 < i → (IntKind.i64.wrap ((i : Int) - 1)).toNat = i - 1 := fun h => down64 h (Nat.le_trans hi hn)
      simp only [real, bifA, bifB, bifC, bifD, beqB, decide_eq_true_eq, decide_eq_false_iff_not, beqI, bneI, beqIF, bneIF, ne_eq, Classical.not_not, Bool.and_eq_true, Bool.or_eq_true, Bool.not_eq_true', Bool.not_eq_false', Bool.and_eq_false_iff, Bool.or_eq_false_iff, Bool.false_eq_true, and_false, false_and, or_false, false_or, and_true, true_and, not_true_eq_false, not_false_eq_true, true_iff, false_iff, Int.ofNat_eq_natCast, Int.toNat_natCast] at hc
      have hc : (b1 = true ∧ ¬ (g i).n ≤ m) ∧ (¬ (i : Int) > 0 ∨ ¬ (g (IntKind.i64.wrap ((i : Int) - 1)).toNat).n ≥ (g i).n) := hc
      refine ⟨hb1.1 hc.1.1, by omega, fun h => ?_⟩
      rw [hp h] at hc
      omega
    refine ⟨⟨i + 1, by omega, fun k hk' => ?_⟩, by simp only; omega, cov_of ?_ ?_ ?_⟩
    · by_cases e : k = i
      · rw [e]; exact hq
      · exact hk k (by omega)
    · cbv
      subst hA
      repeat' first | apply And.intro | exact True.intro | exact congrArg (fun x => DV.v (.int .i64 x)) (up64 hlt' hn) | rfl | (intro k hk; exact push_at rfl _ _ _ _ k hk)
    · cbv; try (subst hA; repeat' first | apply And.intro | exact True.intro | rfl)
    · cbv
  rename_i hge
  have hall : ∀ k, k < n → RdI m g k := fun k hk' => hk k (by subst hA; simp only [real, decide_eq_false_iff_not, Int.ofNat_eq_natCast] at hge; omega)
  clear hk hi hge
  have hall1 := hall
  clear hall
  refine loop_of hA (α := { i : Nat // i ≤ n2 ∧ ∀ k, k < i → PaneOkP (g2 k) }) (fun x => st_ssk1 m n g hn n2 g2 hn2 n3 g3 hn3 x.1) (fun x => n2 - x.1) ⟨0, Nat.zero_le _, fun k h => absurd h (Nat.not_lt_zero k)⟩ ?_ ?_
  · refine cov_of ?_ ?_ ?_
    · cbv; try (subst hA; repeat' first | apply And.intro | exact True.intro | rfl)
    · cbv; try (subst hA; repeat' first | apply And.intro | exact True.intro | rfl)
    · cbv
  rintro ⟨i, hi, hk⟩
  cbv
  repeat' first
    | apply And.intro
    | exact True.intro
    | with_reducible rfl
    | exact same_of hA rfl
    | refine br_of hA (fun _ => ?_) (fun _ => ?_)
    | exact imp_of hA id
    | (refine imp_of hA ?_; subst hA; simp only [real, Bool.true_and]; exact id)
    | (refine ind_of hA ?_; decide +kernel)
    | (refine call_ex hA hM (c_sPanOk _) (fun _ _ => ?_); cbv)
    | (refine inb_of hA fun _ => ?_; subst hA; simp only [real, Bool.and_eq_true, Bool.not_eq_true', Bool.not_eq_false', decide_eq_true_eq, Int.ofNat_eq_natCast, IntKind.wrap_i64] at *; omega)
  · rename_i hlt bq hbq hc
    have hlt' : i < n2 := by subst hA; simp only [real, decide_eq_true_eq, Int.ofNat_eq_natCast] at hlt; omega
    have hq : ¬ (PaneOkP (g2 i)) := by
      subst hA
      simp only [real, Bool.not_eq_true'] at hc
      intro h
      have := hbq.2 h
      rw [hc] at this
      cases this
    refine congrArg (fun b => XA.one (.c (.d (eB b)))) ?_
    cases b with
    | false => rfl
    | true =>
      exfalso
      exact hq ((hb.1 rfl).2.2.1.2.2.1 i hlt')
  · rename_i hlt bq hbq hc
    have hlt' : i < n2 := by subst hA; simp only [real, decide_eq_true_eq, Int.ofNat_eq_natCast] at hlt; omega
    have hq : PaneOkP (g2 i) := by
      subst hA
      simp only [real, Bool.not_eq_false'] at hc
      exact hbq.1 hc
    refine ⟨⟨i + 1, by omega, fun k hk' => ?_⟩, by simp only; omega, cov_of ?_ ?_ ?_⟩
    · by_cases e : k = i
      · rw [e]; exact hq
      · exact hk k (by omega)
    · cbv
      subst hA
      repeat' first | apply And.intro | exact True.intro | exact congrArg (fun x => DV.v (.int .i64 x)) (up64 hlt' hn2) | rfl | (intro k hk; exact push_at rfl _ _ _ _ k hk)
    · cbv; try (subst hA; repeat' first | apply And.intro | exact True.intro | rfl)
    · cbv
  rename_i hge
  have hall : ∀ k, k < n2 → PaneOkP (g2 k) := fun k hk' => hk k (by subst hA; simp only [real, decide_eq_false_iff_not, Int.ofNat_eq_natCast] at hge; omega)
  clear hk hi hge
  have hall2 := hall
  clear hall
  refine loop_of hA (α := { i : Nat // i ≤ n3 ∧ ∀ k, k < i → LatOkP (g3 k) }) (fun x => st_ssk2 m n g hn n2 g2 hn2 n3 g3 hn3 x.1) (fun x => n3 - x.1) ⟨0, Nat.zero_le _, fun k h => absurd h (Nat.not_lt_zero k)⟩ ?_ ?_
  · refine cov_of ?_ ?_ ?_
    · cbv; try (subst hA; repeat' first | apply And.intro | exact True.intro | rfl)
    · cbv; try (subst hA; repeat' first | apply And.intro | exact True.intro | rfl)
    · cbv
  rintro ⟨i, hi, hk⟩
  cbv
  repeat' first
    | apply And.intro
    | exact True.intro
    | with_reducible rfl
    | exact same_of hA rfl
    | refine br_of hA (fun _ => ?_) (fun _ => ?_)
    | exact imp_of hA id
    | (refine imp_of hA ?_; subst hA; simp only [real, Bool.true_and]; exact id)
    | (refine ind_of hA ?_; decide +kernel)
    | (refine call_ex hA hM (c_sLatOk _) (fun _ _ => ?_); cbv)
    | (refine inb_of hA fun _ => ?_; subst hA; simp only [real, Bool.and_eq_true, Bool.not_eq_true', Bool.not_eq_false', decide_eq_true_eq, Int.ofNat_eq_natCast, IntKind.wrap_i64] at *; omega)
  · rename_i hlt bq hbq hc
    have hlt' : i < n3 := by subst hA; simp only [real, decide_eq_true_eq, Int.ofNat_eq_natCast] at hlt; omega
    have hq : ¬ (LatOkP (g3 i)) := by
      subst hA
      simp only [real, Bool.not_eq_true'] at hc
      intro h
      have := hbq.2 h
      rw [hc] at this
      cases this
    refine congrArg (fun b => XA.one (.c (.d (eB b)))) ?_
    cases b with
    | false => rfl
    | true =>
      exfalso
      exact hq ((hb.1 rfl).2.2.1.2.2.2 i hlt')
  · rename_i hlt bq hbq hc
    have hlt' : i < n3 := by subst hA; simp only [real, decide_eq_true_eq, Int.ofNat_eq_natCast] at hlt; omega
    have hq : LatOkP (g3 i) := by
      subst hA
      simp only [real, Bool.not_eq_false'] at hc
      exact hbq.1 hc
    refine ⟨⟨i + 1, by omega, fun k hk' => ?_⟩, by simp only; omega, cov_of ?_ ?_ ?_⟩
    · by_cases e : k = i
      · rw [e]; exact hq
      · exact hk k (by omega)
    · cbv
      subst hA
      repeat' first | apply And.intro | exact True.intro | exact congrArg (fun x => DV.v (.int .i64 x)) (up64 hlt' hn3) | rfl | (intro k hk; exact push_at rfl _ _ _ _ k hk)
    · cbv; try (subst hA; repeat' first | apply And.intro | exact True.intro | rfl)
    · cbv
  rename_i hge
  have hall : ∀ k, k < n3 → LatOkP (g3 k) := fun k hk' => hk k (by subst hA; simp only [real, decide_eq_false_iff_not, Int.ofNat_eq_natCast] at hge; omega)
  clear hk hi hge
  exact congrArg (fun b => XA.one (.c (.d (eB b)))) (hb.2 ⟨hpre.1, hpre.2.1, ⟨hpre.2.2.1, hpre.2.2.2, hall2, hall⟩, hall1⟩).symm
open Classical in
set_option maxRecDepth 100000 in
theorem c_notSink (s : SinkT) : ∃ b, (b = true ↔ ¬ SinkOkP s) ∧ Meets Tryz.prog 79 [xd (eSink s)] ⟨.one (.c (.d (eB b))), [none]⟩ := by
  obtain ⟨b, hb⟩ : ∃ b : Bool, (b = true ↔ ¬ SinkOkP s) := ⟨decide (¬ SinkOkP s), by rw [decide_eq_true_eq]⟩
  refine ⟨b, hb, ?_⟩
  refine meets_of (H := []) (EX := EXA) ttok mixed Tryz.func79 rfl (by kernel_rfl) (by decide) ?_
  generalize hA : real = A
  generalize hM : Meets Tryz.prog = M
  cbv
  repeat' first
    | apply And.intro
    | exact True.intro
    | with_reducible rfl
    | exact same_of hA rfl
    | refine br_of hA (fun _ => ?_) (fun _ => ?_)
    | exact imp_of hA id
    | (refine imp_of hA ?_; subst hA; simp only [real, Bool.true_and]; exact id)
    | (refine ind_of hA ?_; decide +kernel)
    | (refine call_ex hA hM (c_SinkOk s) (fun _ _ => ?_); cbv)
  rename_i b1 hb1
  refine congrArg (fun b => XA.one (.c (.d (eB b)))) (Bool.eq_iff_iff.2 ?_)
  subst hA
  rw [hb, ← hb1]
  simp [real]
def st_fl0 (job : JobT) (n1 : Nat) (g1 : Nat → Sl ItmT) (hn1 : n1 ≤ maxLen) (n2 : Nat) (g2 : Nat → SrcT) (hn2 : n2 ≤ maxLen) (n3 : Nat) (g3 : Nat → TskT) (hn3 : n3 ≤ maxLen) (ckp : CkpT) (n4 : Nat) (g4 : Nat → SinkT) (hn4 : n4 ≤ maxLen) (i : Nat) : St := ⟨[(50, .c (.d (eI i))), (49, .c (.d (eI n1))), (48, .c (.d (.sl 1 n1 fun i => [.sl 5 (g1 i).n fun k => eItm ((g1 i).g k)]))), (1, .c (.bp 64 1 0)), (3, .c (.bp 192 1 0))], [(64, 1, .box ((eFlo ⟨job, ⟨n1, g1, hn1⟩, ⟨n2, g2, hn2⟩, ⟨n3, g3, hn3⟩, ⟨n4, g4, hn4⟩, ckp⟩).map .d)), (192, 1, .box ((eJob job).map .d))]⟩
def st_fl1 (job : JobT) (n1 : Nat) (g1 : Nat → Sl ItmT) (hn1 : n1 ≤ maxLen) (n2 : Nat) (g2 : Nat → SrcT) (hn2 : n2 ≤ maxLen) (n3 : Nat) (g3 : Nat → TskT) (hn3 : n3 ≤ maxLen) (ckp : CkpT) (n4 : Nat) (g4 : Nat → SinkT) (hn4 : n4 ≤ maxLen) (i : Nat) : St := ⟨[(99, .c (.d (eI i))), (98, .c (.d (eI n3))), (97, .c (.d (.sl 7 n3 fun i => eTsk (g3 i)))), (1, .c (.bp 64 1 0)), (3, .c (.bp 192 1 0))], [(64, 1, .box ((eFlo ⟨job, ⟨n1, g1, hn1⟩, ⟨n2, g2, hn2⟩, ⟨n3, g3, hn3⟩, ⟨n4, g4, hn4⟩, ckp⟩).map .d)), (192, 1, .box ((eJob job).map .d))]⟩
open Classical in
set_option maxRecDepth 100000 in
theorem c_FloOk (f : FloT) (hbd : bdFlo f) : ∃ b, (b = true ↔ FloOkP f) ∧ Meets Tryz.prog 24 [xd (eFlo f)] ⟨.one (.c (.d (eB b))), [none]⟩ := by
  obtain ⟨b, hb⟩ : ∃ b : Bool, (b = true ↔ FloOkP f) := ⟨decide (FloOkP f), by rw [decide_eq_true_eq]⟩
  refine ⟨b, hb, ?_⟩
  obtain ⟨job, ⟨n1, g1, hn1⟩, ⟨n2, g2, hn2⟩, ⟨n3, g3, hn3⟩, ⟨n4, g4, hn4⟩, ckp⟩ := f
  have hbt : ∀ i, i < n3 → bdTsk (g3 i) := hbd.2.2.2.2.1
  have hbc : bdCkp ckp := hbd.2.2.2.2.2.2.2
  have hcs := c_ContainsSink0 n4 hn4 g4 79 _ c_notSink
  refine meets_of (H := []) (EX := EXA) ttok mixed Tryz.func24 rfl (by kernel_rfl) (by decide) ?_
  generalize hA : real = A
  generalize hM : Meets Tryz.prog = M
  cbv
  repeat' first
    | apply And.intro
    | exact True.intro
    | with_reducible rfl
    | exact same_of hA rfl
    | refine br_of hA (fun _ => ?_) (fun _ => ?_)
    | exact imp_of hA id
    | (refine imp_of hA ?_; subst hA; simp only [real, Bool.true_and]; exact id)
    | (refine ind_of hA ?_; decide +kernel)
    | (refine call_ex hA hM (c_CkpOk job ckp) (fun _ _ => ?_); cbv)
  · rename_i b1 hb1 hbad
    subst hA
    refine congrArg (fun b => XA.one (.c (.d (eB b)))) ?_
    cases b with
    | false => rfl
    | true =>
      exfalso
      have h := hb.1 rfl
      simp only [real, bifA, bifB, bifC, bifD, beqB, decide_eq_true_eq, decide_eq_false_iff_not, beqI, bneI, beqIF, bneIF, ne_eq, Classical.not_not, Bool.and_eq_true, Bool.or_eq_true, Bool.not_eq_true', Bool.not_eq_false', Bool.and_eq_false_iff, Bool.or_eq_false_iff, Bool.false_eq_true, and_false, false_and, or_false, false_or, and_true, true_and, not_true_eq_false, not_false_eq_true, true_iff, false_iff, Int.ofNat_eq_natCast, Int.toNat_natCast] at hbad
      have hbad : (((b1 = false ∨ ¬ (n1 : Int) = job.srcs) ∨ ¬ (n2 : Int) = job.srcs) ∨ ¬ (n3 : Int) = job.tsks) ∨ ¬ (n4 : Int) = job.tsks := hbad
      rcases hbad with (((h1 | h1) | h1) | h1) | h1
      · have := hb1.2 h.1
        rw [h1] at this; cases this
      · exact h1 h.2.1
      · exact h1 h.2.2.1
      · exact h1 h.2.2.2.1
      · exact h1 h.2.2.2.2.1
  rename_i b1 hb1 hgood
  have hpre : CkpOkP job ckp ∧ (n1 : Int) = job.srcs ∧ (n2 : Int) = job.srcs ∧ (n3 : Int) = job.tsks ∧ (n4 : Int) = job.tsks := by
    subst hA
    simp only [real, bifA, bifB, bifC, bifD, beqB, decide_eq_true_eq, decide_eq_false_iff_not, beqI, bneI, beqIF, bneIF, ne_eq, Classical.not_not, Bool.and_eq_true, Bool.or_eq_true, Bool.not_eq_true', Bool.not_eq_false', Bool.and_eq_false_iff, Bool.or_eq_false_iff, Bool.false_eq_true, and_false, false_and, or_false, false_or, and_true, true_and, not_true_eq_false, not_false_eq_true, true_iff, false_iff, Int.ofNat_eq_natCast, Int.toNat_natCast] at hgood
    have hgood : (((b1 = true ∧ (n1 : Int) = job.srcs) ∧ (n2 : Int) = job.srcs) ∧ (n3 : Int) = job.tsks) ∧ (n4 : Int) = job.tsks := hgood
    exact ⟨hb1.1 hgood.1.1.1.1, hgood.1.1.1.2, hgood.1.1.2, hgood.1.2, hgood.2⟩
  clear hgood
  have e12 : n1 = n2 := Int.ofNat.inj (hpre.2.1.trans hpre.2.2.1.symm)
  have e34 : n3 = n4 := Int.ofNat.inj (hpre.2.2.2.1.trans hpre.2.2.2.2.symm)
  have ea : n1 = ckp.safe.at_.n := Int.ofNat.inj (hpre.2.1.trans hpre.1.2.1.2.1.symm)
  refine loop_of hA (α := { i : Nat // i ≤ n1 ∧ ∀ k, k < i → LogOkP (g1 k) ∧ (0 ≤ (g2 k).at_ ∧ (g2 k).at_ ≤ ((g1 k).n : Int)) ∧ ckp.safe.at_.g k ≤ ((g1 k).n : Int) ∧ (0 ≤ (g2 k).wall ∧ (g2 k).wall ≤ ckp.n) }) (fun x => st_fl0 job n1 g1 hn1 n2 g2 hn2 n3 g3 hn3 ckp n4 g4 hn4 x.1) (fun x => n1 - x.1) ⟨0, Nat.zero_le _, fun k h => absurd h (Nat.not_lt_zero k)⟩ ?_ ?_
  · refine cov_of ?_ ?_ ?_
    · cbv; try (subst hA; repeat' first | apply And.intro | exact True.intro | rfl)
    · cbv; try (subst hA; repeat' first | apply And.intro | exact True.intro | rfl)
    · cbv
  rintro ⟨i, hi, hk⟩
  cbv
  repeat' first
    | apply And.intro
    | exact True.intro
    | with_reducible rfl
    | exact same_of hA rfl
    | refine br_of hA (fun _ => ?_) (fun _ => ?_)
    | exact imp_of hA id
    | (refine imp_of hA ?_; subst hA; simp only [real, Bool.true_and]; exact id)
    | (refine ind_of hA ?_; decide +kernel)
    | (refine call_ex hA hM (c_LogOk (g1 (A.nat (Int.ofNat i)))) (fun _ _ => ?_); cbv)
    | (refine call_ex hA hM (c_in _ _ _) (fun _ _ => ?_); cbv)
    | (refine inb_of hA fun _ => ?_; subst hA; have h9 : (decide ((i : Int) < (n1 : Int))) = true := (by assumption); have h7 := Int.ofNat_lt.1 (of_decide_eq_true h9); first | exact ⟨Int.natCast_nonneg i, Int.ofNat_lt.2 h7⟩ | exact ⟨Int.natCast_nonneg i, Int.ofNat_lt.2 (Nat.lt_of_lt_of_eq h7 e12)⟩ | exact ⟨Int.natCast_nonneg i, Int.ofNat_lt.2 (Nat.lt_of_lt_of_eq h7 ea)⟩)
    | (refine inb_of hA fun _ => ?_; subst hA; simp only [real, Bool.and_eq_true, Bool.not_eq_true', Bool.not_eq_false', decide_eq_true_eq, Int.ofNat_eq_natCast, IntKind.wrap_i64] at *; omega)
  · rename_i hlt b1 hb1 b2 hb2 b3 hb3 hc
    have hlt' : i < n1 := by subst hA; simp only [real, decide_eq_true_eq, Int.ofNat_eq_natCast] at hlt; omega
    have hq : ¬ (LogOkP (g1 i) ∧ (0 ≤ (g2 i).at_ ∧ (g2 i).at_ ≤ ((g1 i).n : Int)) ∧ ckp.safe.at_.g i ≤ ((g1 i).n : Int) ∧ (0 ≤ (g2 i).wall ∧ (g2 i).wall ≤ ckp.n)) := by
      subst hA
      have hB1 : b1 = true ↔ LogOkP (g1 i) := hb1
      have hB2 : b2 = true ↔ (0 ≤ (g2 i).at_ ∧ (g2 i).at_ ≤ ((g1 i).n : Int)) := ⟨fun h => of_decide_eq_true (hb2.symm.trans h), fun h => hb2.trans (decide_eq_true h)⟩
      have hB3 : b3 = true ↔ (0 ≤ (g2 i).wall ∧ (g2 i).wall ≤ ckp.n) := ⟨fun h => of_decide_eq_true (hb3.symm.trans h), fun h => hb3.trans (decide_eq_true h)⟩
      simp only [real, bifA, bifB, bifC, bifD, beqB, decide_eq_true_eq, decide_eq_false_iff_not, beqI, bneI, beqIF, bneIF, ne_eq, Classical.not_not, Bool.and_eq_true, Bool.or_eq_true, Bool.not_eq_true', Bool.not_eq_false', Bool.and_eq_false_iff, Bool.or_eq_false_iff, Bool.false_eq_true, and_false, false_and, or_false, false_or, and_true, true_and, not_true_eq_false, not_false_eq_true, true_iff, false_iff, Int.ofNat_eq_natCast, Int.toNat_natCast] at hc
      have hc : ((b1 = false ∨ b2 = false) ∨ ckp.safe.at_.g i > ((g1 i).n : Int)) ∨ b3 = false := hc
      rintro ⟨h1, h2, h3, h4⟩
      rcases hc with ((h | h) | h) | h
      · have := hB1.2 h1
        rw [h] at this; cases this
      · have := hB2.2 h2
        rw [h] at this; cases this
      · exact absurd h3 (Int.not_le.2 h)
      · have := hB3.2 h4
        rw [h] at this; cases this
    refine congrArg (fun b => XA.one (.c (.d (eB b)))) ?_
    cases b with
    | false => rfl
    | true =>
      exfalso
      exact hq ((hb.1 rfl).2.2.2.2.2.1 i hlt')
  · rename_i hlt b1 hb1 b2 hb2 b3 hb3 hc
    have hlt' : i < n1 := by subst hA; simp only [real, decide_eq_true_eq, Int.ofNat_eq_natCast] at hlt; omega
    have hq : LogOkP (g1 i) ∧ (0 ≤ (g2 i).at_ ∧ (g2 i).at_ ≤ ((g1 i).n : Int)) ∧ ckp.safe.at_.g i ≤ ((g1 i).n : Int) ∧ (0 ≤ (g2 i).wall ∧ (g2 i).wall ≤ ckp.n) := by
      subst hA
      have hB1 : b1 = true ↔ LogOkP (g1 i) := hb1
      have hB2 : b2 = true ↔ (0 ≤ (g2 i).at_ ∧ (g2 i).at_ ≤ ((g1 i).n : Int)) := ⟨fun h => of_decide_eq_true (hb2.symm.trans h), fun h => hb2.trans (decide_eq_true h)⟩
      have hB3 : b3 = true ↔ (0 ≤ (g2 i).wall ∧ (g2 i).wall ≤ ckp.n) := ⟨fun h => of_decide_eq_true (hb3.symm.trans h), fun h => hb3.trans (decide_eq_true h)⟩
      simp only [real, bifA, bifB, bifC, bifD, beqB, decide_eq_true_eq, decide_eq_false_iff_not, beqI, bneI, beqIF, bneIF, ne_eq, Classical.not_not, Bool.and_eq_true, Bool.or_eq_true, Bool.not_eq_true', Bool.not_eq_false', Bool.and_eq_false_iff, Bool.or_eq_false_iff, Bool.false_eq_true, and_false, false_and, or_false, false_or, and_true, true_and, not_true_eq_false, not_false_eq_true, true_iff, false_iff, Int.ofNat_eq_natCast, Int.toNat_natCast] at hc
      have hc : ((b1 = true ∧ b2 = true) ∧ ¬ ckp.safe.at_.g i > ((g1 i).n : Int)) ∧ b3 = true := hc
      exact ⟨hB1.1 hc.1.1.1, hB2.1 hc.1.1.2, Int.not_lt.1 hc.1.2, hB3.1 hc.2⟩
    refine ⟨⟨i + 1, by omega, fun k hk' => ?_⟩, by simp only; omega, cov_of ?_ ?_ ?_⟩
    · by_cases e : k = i
      · rw [e]; exact hq
      · exact hk k (by omega)
    · cbv
      subst hA
      repeat' first | apply And.intro | exact True.intro | exact congrArg (fun x => DV.v (.int .i64 x)) (up64 hlt' hn1) | rfl | (intro k hk; exact push_at rfl _ _ _ _ k hk)
    · cbv; try (subst hA; repeat' first | apply And.intro | exact True.intro | rfl)
    · cbv
  rename_i hge
  have hall : ∀ k, k < n1 → LogOkP (g1 k) ∧ (0 ≤ (g2 k).at_ ∧ (g2 k).at_ ≤ ((g1 k).n : Int)) ∧ ckp.safe.at_.g k ≤ ((g1 k).n : Int) ∧ (0 ≤ (g2 k).wall ∧ (g2 k).wall ≤ ckp.n) := fun k hk' => hk k (by subst hA; simp only [real, decide_eq_false_iff_not, Int.ofNat_eq_natCast] at hge; omega)
  clear hk hi hge
  have hall1 := hall
  clear hall
  refine loop_of hA (α := { i : Nat // i ≤ n3 ∧ ∀ k, k < i → TskOkP job (g3 k) ∧ (g3 k).wall ≤ ckp.n }) (fun x => st_fl1 job n1 g1 hn1 n2 g2 hn2 n3 g3 hn3 ckp n4 g4 hn4 x.1) (fun x => n3 - x.1) ⟨0, Nat.zero_le _, fun k h => absurd h (Nat.not_lt_zero k)⟩ ?_ ?_
  · refine cov_of ?_ ?_ ?_
    · cbv; try (subst hA; repeat' first | apply And.intro | exact True.intro | rfl)
    · cbv; try (subst hA; repeat' first | apply And.intro | exact True.intro | rfl)
    · cbv
  rintro ⟨i, hi, hk⟩
  cbv
  repeat' first
    | apply And.intro
    | exact True.intro
    | with_reducible rfl
    | exact same_of hA rfl
    | refine br_of hA (fun _ => ?_) (fun _ => ?_)
    | exact imp_of hA id
    | (refine imp_of hA ?_; subst hA; simp only [real, Bool.true_and]; exact id)
    | (refine ind_of hA ?_; decide +kernel)
    | (refine call_ex hA hM (c_TskOk job (g3 (A.nat (Int.ofNat i))) (hbt _ (by rename_i hlt; subst hA; exact Int.ofNat_lt.1 (of_decide_eq_true (show decide ((i : Int) < (n3 : Int)) = true from hlt)))).1) (fun _ _ => ?_); cbv)
    | (refine inb_of hA fun _ => ?_; subst hA; simp only [real, Bool.and_eq_true, Bool.not_eq_true', Bool.not_eq_false', decide_eq_true_eq, Int.ofNat_eq_natCast, IntKind.wrap_i64] at *; omega)
  · rename_i hlt b1 hb1 hc
    have hlt' : i < n3 := by subst hA; simp only [real, decide_eq_true_eq, Int.ofNat_eq_natCast] at hlt; omega
    have hq : ¬ (TskOkP job (g3 i) ∧ (g3 i).wall ≤ ckp.n) := by
      subst hA
      have hB1 : b1 = true ↔ TskOkP job (g3 i) := hb1
      simp only [real, bifA, bifB, bifC, bifD, beqB, decide_eq_true_eq, decide_eq_false_iff_not, beqI, bneI, beqIF, bneIF, ne_eq, Classical.not_not, Bool.and_eq_true, Bool.or_eq_true, Bool.not_eq_true', Bool.not_eq_false', Bool.and_eq_false_iff, Bool.or_eq_false_iff, Bool.false_eq_true, and_false, false_and, or_false, false_or, and_true, true_and, not_true_eq_false, not_false_eq_true, true_iff, false_iff, Int.ofNat_eq_natCast, Int.toNat_natCast] at hc
      have hc : b1 = false ∨ (g3 i).wall > ckp.n := hc
      rintro ⟨h1, h2⟩
      rcases hc with h | h
      · have := hB1.2 h1
        rw [h] at this; cases this
      · exact absurd h2 (Int.not_le.2 h)
    refine congrArg (fun b => XA.one (.c (.d (eB b)))) ?_
    cases b with
    | false => rfl
    | true =>
      exfalso
      exact hq ((hb.1 rfl).2.2.2.2.2.2.1 i hlt')
  · rename_i hlt b1 hb1 hc
    have hlt' : i < n3 := by subst hA; simp only [real, decide_eq_true_eq, Int.ofNat_eq_natCast] at hlt; omega
    have hq : TskOkP job (g3 i) ∧ (g3 i).wall ≤ ckp.n := by
      subst hA
      have hB1 : b1 = true ↔ TskOkP job (g3 i) := hb1
      simp only [real, bifA, bifB, bifC, bifD, beqB, decide_eq_true_eq, decide_eq_false_iff_not, beqI, bneI, beqIF, bneIF, ne_eq, Classical.not_not, Bool.and_eq_true, Bool.or_eq_true, Bool.not_eq_true', Bool.not_eq_false', Bool.and_eq_false_iff, Bool.or_eq_false_iff, Bool.false_eq_true, and_false, false_and, or_false, false_or, and_true, true_and, not_true_eq_false, not_false_eq_true, true_iff, false_iff, Int.ofNat_eq_natCast, Int.toNat_natCast] at hc
      have hc : b1 = true ∧ ¬ (g3 i).wall > ckp.n := hc
      exact ⟨hB1.1 hc.1, Int.not_lt.1 hc.2⟩
    refine ⟨⟨i + 1, by omega, fun k hk' => ?_⟩, by simp only; omega, cov_of ?_ ?_ ?_⟩
    · by_cases e : k = i
      · rw [e]; exact hq
      · exact hk k (by omega)
    · cbv
      subst hA
      repeat' first | apply And.intro | exact True.intro | exact congrArg (fun x => DV.v (.int .i64 x)) (up64 hlt' hn3) | rfl | (intro k hk; exact push_at rfl _ _ _ _ k hk)
    · cbv; try (subst hA; repeat' first | apply And.intro | exact True.intro | rfl)
    · cbv
  rename_i hge
  have hall : ∀ k, k < n3 → TskOkP job (g3 k) ∧ (g3 k).wall ≤ ckp.n := fun k hk' => hk k (by subst hA; simp only [real, decide_eq_false_iff_not, Int.ofNat_eq_natCast] at hge; omega)
  clear hk hi hge
  repeat' first
    | apply And.intro
    | exact True.intro
    | with_reducible rfl
    | exact same_of hA rfl
    | refine br_of hA (fun _ => ?_) (fun _ => ?_)
    | exact imp_of hA id
    | (refine imp_of hA ?_; subst hA; simp only [real, Bool.true_and]; exact id)
    | (refine ind_of hA ?_; decide +kernel)
    | (refine call_ex hA hM hcs (fun _ _ => ?_); cbv)
  rename_i b2 hb2
  refine congrArg (fun b => XA.one (.c (.d (eB b)))) (Bool.eq_iff_iff.2 ?_)
  have e2 := nex hb2
  subst hA
  rw [hb]
  simp only [real, bifA, bifB, bifC, bifD, beqB, decide_eq_true_eq, decide_eq_false_iff_not, beqI, bneI, beqIF, bneIF, ne_eq, Bool.and_eq_true, Bool.or_eq_true, Bool.not_eq_true', Bool.not_eq_false', Bool.and_eq_false_iff, Bool.or_eq_false_iff, Bool.false_eq_true, and_false, false_and, or_false, false_or, and_true, true_and, not_true_eq_false, not_false_eq_true, true_iff, false_iff, Int.ofNat_eq_natCast, Int.toNat_natCast]
  rw [e2]
  exact ⟨fun h => ⟨hpre.1, hpre.2.1, hpre.2.2.1, hpre.2.2.2.1, hpre.2.2.2.2, hall1, hall, h⟩, fun h => h.2.2.2.2.2.2.2⟩
def st_sfl0 (job : JobT) (n1 : Nat) (g1 : Nat → Sl ItmT) (hn1 : n1 ≤ maxLen) (n2 : Nat) (g2 : Nat → SrcT) (hn2 : n2 ≤ maxLen) (n3 : Nat) (g3 : Nat → TskT) (hn3 : n3 ≤ maxLen) (ckp : CkpT) (n4 : Nat) (g4 : Nat → SinkT) (hn4 : n4 ≤ maxLen) (i : Nat) : St := ⟨[(4, .c (.d (eI i))), (1, .c (.bp 64 1 0)), (3, .c (.bp 192 1 0))], [(64, 1, .box ((eFlo ⟨job, ⟨n1, g1, hn1⟩, ⟨n2, g2, hn2⟩, ⟨n3, g3, hn3⟩, ⟨n4, g4, hn4⟩, ckp⟩).map .d)), (192, 1, .box ((eJob job).map .d))]⟩
def st_sfl1 (job : JobT) (n1 : Nat) (g1 : Nat → Sl ItmT) (hn1 : n1 ≤ maxLen) (n2 : Nat) (g2 : Nat → SrcT) (hn2 : n2 ≤ maxLen) (n3 : Nat) (g3 : Nat → TskT) (hn3 : n3 ≤ maxLen) (ckp : CkpT) (n4 : Nat) (g4 : Nat → SinkT) (hn4 : n4 ≤ maxLen) (i : Nat) : St := ⟨[(5, .c (.d (eI i))), (1, .c (.bp 64 1 0)), (3, .c (.bp 192 1 0))], [(64, 1, .box ((eFlo ⟨job, ⟨n1, g1, hn1⟩, ⟨n2, g2, hn2⟩, ⟨n3, g3, hn3⟩, ⟨n4, g4, hn4⟩, ckp⟩).map .d)), (192, 1, .box ((eJob job).map .d))]⟩
open Classical in
set_option maxRecDepth 100000 in
theorem c_sFloOk (f : FloT) (hbd : bdFlo f) : ∃ b, (b = true ↔ FloOkP f) ∧ Meets Tryz.prog 22 [xd (eFlo f)] ⟨.one (.c (.d (eB b))), [none]⟩ := by
  obtain ⟨b, hb⟩ : ∃ b : Bool, (b = true ↔ FloOkP f) := ⟨decide (FloOkP f), by rw [decide_eq_true_eq]⟩
  refine ⟨b, hb, ?_⟩
  obtain ⟨job, ⟨n1, g1, hn1⟩, ⟨n2, g2, hn2⟩, ⟨n3, g3, hn3⟩, ⟨n4, g4, hn4⟩, ckp⟩ := f
  have hbt : ∀ i, i < n3 → bdTsk (g3 i) := hbd.2.2.2.2.1
  have hbc : bdCkp ckp := hbd.2.2.2.2.2.2.2
  refine meets_of (H := []) (EX := EXA) ttok mixed Tryz.func22 rfl (by kernel_rfl) (by decide) ?_
  generalize hA : real = A
  generalize hM : Meets Tryz.prog = M
  cbv
  repeat' first
    | apply And.intro
    | exact True.intro
    | with_reducible rfl
    | exact same_of hA rfl
    | refine br_of hA (fun _ => ?_) (fun _ => ?_)
    | exact imp_of hA id
    | (refine imp_of hA ?_; subst hA; simp only [real, Bool.true_and]; exact id)
    | (refine ind_of hA ?_; decide +kernel)
    | (refine call_ex hA hM (c_sCkpOk job ckp hbc) (fun _ _ => ?_); cbv)
  · rename_i b1 hb1 hbad
    subst hA
    refine congrArg (fun b => XA.one (.c (.d (eB b)))) ?_
    cases b with
    | false => rfl
    | true =>
      exfalso
      have h := hb.1 rfl
      simp only [real, bifA, bifB, bifC, bifD, beqB, decide_eq_true_eq, decide_eq_false_iff_not, beqI, bneI, beqIF, bneIF, ne_eq, Classical.not_not, Bool.and_eq_true, Bool.or_eq_true, Bool.not_eq_true', Bool.not_eq_false', Bool.and_eq_false_iff, Bool.or_eq_false_iff, Bool.false_eq_true, and_false, false_and, or_false, false_or, and_true, true_and, not_true_eq_false, not_false_eq_true, true_iff, false_iff, Int.ofNat_eq_natCast, Int.toNat_natCast] at hbad
      have hbad : (((b1 = false ∨ ¬ (n1 : Int) = job.srcs) ∨ ¬ (n2 : Int) = job.srcs) ∨ ¬ (n3 : Int) = job.tsks) ∨ ¬ (n4 : Int) = job.tsks := hbad
      rcases hbad with (((h1 | h1) | h1) | h1) | h1
      · have := hb1.2 h.1
        rw [h1] at this; cases this
      · exact h1 h.2.1
      · exact h1 h.2.2.1
      · exact h1 h.2.2.2.1
      · exact h1 h.2.2.2.2.1
  rename_i b1 hb1 hgood
  have hpre : CkpOkP job ckp ∧ (n1 : Int) = job.srcs ∧ (n2 : Int) = job.srcs ∧ (n3 : Int) = job.tsks ∧ (n4 : Int) = job.tsks := by
    subst hA
    simp only [real, bifA, bifB, bifC, bifD, beqB, decide_eq_true_eq, decide_eq_false_iff_not, beqI, bneI, beqIF, bneIF, ne_eq, Classical.not_not, Bool.and_eq_true, Bool.or_eq_true, Bool.not_eq_true', Bool.not_eq_false', Bool.and_eq_false_iff, Bool.or_eq_false_iff, Bool.false_eq_true, and_false, false_and, or_false, false_or, and_true, true_and, not_true_eq_false, not_false_eq_true, true_iff, false_iff, Int.ofNat_eq_natCast, Int.toNat_natCast] at hgood
    have hgood : (((b1 = true ∧ (n1 : Int) = job.srcs) ∧ (n2 : Int) = job.srcs) ∧ (n3 : Int) = job.tsks) ∧ (n4 : Int) = job.tsks := hgood
    exact ⟨hb1.1 hgood.1.1.1.1, hgood.1.1.1.2, hgood.1.1.2, hgood.1.2, hgood.2⟩
  clear hgood
  have e12 : n1 = n2 := Int.ofNat.inj (hpre.2.1.trans hpre.2.2.1.symm)
  have e34 : n3 = n4 := Int.ofNat.inj (hpre.2.2.2.1.trans hpre.2.2.2.2.symm)
  have ea : n1 = ckp.safe.at_.n := Int.ofNat.inj (hpre.2.1.trans hpre.1.2.1.2.1.symm)
  refine loop_of hA (α := { i : Nat // i ≤ n1 ∧ ∀ k, k < i → LogOkP (g1 k) ∧ (0 ≤ (g2 k).at_ ∧ (g2 k).at_ ≤ ((g1 k).n : Int)) ∧ ckp.safe.at_.g k ≤ ((g1 k).n : Int) ∧ (0 ≤ (g2 k).wall ∧ (g2 k).wall ≤ ckp.n) }) (fun x => st_sfl0 job n1 g1 hn1 n2 g2 hn2 n3 g3 hn3 ckp n4 g4 hn4 x.1) (fun x => n1 - x.1) ⟨0, Nat.zero_le _, fun k h => absurd h (Nat.not_lt_zero k)⟩ ?_ ?_
  · refine cov_of ?_ ?_ ?_
    · cbv; try (subst hA; repeat' first | apply And.intro | exact True.intro | rfl)
    · cbv; try (subst hA; repeat' first | apply And.intro | exact True.intro | rfl)
    · cbv
  rintro ⟨i, hi, hk⟩
  cbv
  repeat' first
    | apply And.intro
    | exact True.intro
    | with_reducible rfl
    | exact same_of hA rfl
    | refine br_of hA (fun _ => ?_) (fun _ => ?_)
    | exact imp_of hA id
    | (refine imp_of hA ?_; subst hA; simp only [real, Bool.true_and]; exact id)
    | (refine ind_of hA ?_; decide +kernel)
    | (refine call_ex hA hM (c_sLogOk (g1 (A.nat (Int.ofNat i)))) (fun _ _ => ?_); cbv)
    | (refine call_ex hA hM (c_l1In _ _ _) (fun _ _ => ?_); cbv)
    | (refine inb_of hA fun _ => ?_; subst hA; have h9 : (decide ((i : Int) < job.srcs)) = true := (by assumption); have h8 := of_decide_eq_true h9; rw [← hpre.2.1] at h8; have h7 := Int.ofNat_lt.1 h8; first | exact ⟨Int.natCast_nonneg i, Int.ofNat_lt.2 h7⟩ | exact ⟨Int.natCast_nonneg i, Int.ofNat_lt.2 (Nat.lt_of_lt_of_eq h7 e12)⟩ | exact ⟨Int.natCast_nonneg i, Int.ofNat_lt.2 (Nat.lt_of_lt_of_eq h7 ea)⟩)
    | (refine inb_of hA fun _ => ?_; subst hA; simp only [real, Bool.and_eq_true, Bool.not_eq_true', Bool.not_eq_false', decide_eq_true_eq, Int.ofNat_eq_natCast, IntKind.wrap_i64] at *; omega)
  · rename_i hlt b1 hb1 b2 hb2 b3 hb3 hc
    have hlt' : i < n1 := by subst hA; have h : (i : Int) < job.srcs := of_decide_eq_true hlt; rw [← hpre.2.1] at h; exact Int.ofNat_lt.1 h
    have hq : ¬ (LogOkP (g1 i) ∧ (0 ≤ (g2 i).at_ ∧ (g2 i).at_ ≤ ((g1 i).n : Int)) ∧ ckp.safe.at_.g i ≤ ((g1 i).n : Int) ∧ (0 ≤ (g2 i).wall ∧ (g2 i).wall ≤ ckp.n)) := by
      subst hA
      have hB1 : b1 = true ↔ LogOkP (g1 i) := hb1
      have hB2 : b2 = true ↔ (0 ≤ (g2 i).at_ ∧ (g2 i).at_ ≤ ((g1 i).n : Int)) := ⟨fun h => of_decide_eq_true (hb2.symm.trans h), fun h => hb2.trans (decide_eq_true h)⟩
      have hB3 : b3 = true ↔ (0 ≤ (g2 i).wall ∧ (g2 i).wall ≤ ckp.n) := ⟨fun h => of_decide_eq_true (hb3.symm.trans h), fun h => hb3.trans (decide_eq_true h)⟩
      simp only [real, bifA, bifB, bifC, bifD, beqB, decide_eq_true_eq, decide_eq_false_iff_not, beqI, bneI, beqIF, bneIF, ne_eq, Classical.not_not, Bool.and_eq_true, Bool.or_eq_true, Bool.not_eq_true', Bool.not_eq_false', Bool.and_eq_false_iff, Bool.or_eq_false_iff, Bool.false_eq_true, and_false, false_and, or_false, false_or, and_true, true_and, not_true_eq_false, not_false_eq_true, true_iff, false_iff, Int.ofNat_eq_natCast, Int.toNat_natCast] at hc
      have hc : ((b1 = false ∨ b2 = false) ∨ b3 = false) ∨ ckp.safe.at_.g i > ((g1 i).n : Int) := hc
      rintro ⟨h1, h2, h3, h4⟩
      rcases hc with ((h | h) | h) | h
      · have := hB1.2 h1
        rw [h] at this; cases this
      · have := hB2.2 h2
        rw [h] at this; cases this
      · have := hB3.2 h4
        rw [h] at this; cases this
      · exact absurd h3 (Int.not_le.2 h)
    refine congrArg (fun b => XA.one (.c (.d (eB b)))) ?_
    cases b with
    | false => rfl
    | true =>
      exfalso
      exact hq ((hb.1 rfl).2.2.2.2.2.1 i hlt')
  · rename_i hlt b1 hb1 b2 hb2 b3 hb3 hc
    have hlt' : i < n1 := by subst hA; have h : (i : Int) < job.srcs := of_decide_eq_true hlt; rw [← hpre.2.1] at h; exact Int.ofNat_lt.1 h
    have hq : LogOkP (g1 i) ∧ (0 ≤ (g2 i).at_ ∧ (g2 i).at_ ≤ ((g1 i).n : Int)) ∧ ckp.safe.at_.g i ≤ ((g1 i).n : Int) ∧ (0 ≤ (g2 i).wall ∧ (g2 i).wall ≤ ckp.n) := by
      subst hA
      have hB1 : b1 = true ↔ LogOkP (g1 i) := hb1
      have hB2 : b2 = true ↔ (0 ≤ (g2 i).at_ ∧ (g2 i).at_ ≤ ((g1 i).n : Int)) := ⟨fun h => of_decide_eq_true (hb2.symm.trans h), fun h => hb2.trans (decide_eq_true h)⟩
      have hB3 : b3 = true ↔ (0 ≤ (g2 i).wall ∧ (g2 i).wall ≤ ckp.n) := ⟨fun h => of_decide_eq_true (hb3.symm.trans h), fun h => hb3.trans (decide_eq_true h)⟩
      simp only [real, bifA, bifB, bifC, bifD, beqB, decide_eq_true_eq, decide_eq_false_iff_not, beqI, bneI, beqIF, bneIF, ne_eq, Classical.not_not, Bool.and_eq_true, Bool.or_eq_true, Bool.not_eq_true', Bool.not_eq_false', Bool.and_eq_false_iff, Bool.or_eq_false_iff, Bool.false_eq_true, and_false, false_and, or_false, false_or, and_true, true_and, not_true_eq_false, not_false_eq_true, true_iff, false_iff, Int.ofNat_eq_natCast, Int.toNat_natCast] at hc
      have hc : ((b1 = true ∧ b2 = true) ∧ b3 = true) ∧ ¬ ckp.safe.at_.g i > ((g1 i).n : Int) := hc
      exact ⟨hB1.1 hc.1.1.1, hB2.1 hc.1.1.2, Int.not_lt.1 hc.2, hB3.1 hc.1.2⟩
    refine ⟨⟨i + 1, by omega, fun k hk' => ?_⟩, by simp only; omega, cov_of ?_ ?_ ?_⟩
    · by_cases e : k = i
      · rw [e]; exact hq
      · exact hk k (by omega)
    · cbv
      subst hA
      repeat' first | apply And.intro | exact True.intro | exact congrArg (fun x => DV.v (.int .i64 x)) (up64 hlt' hn1) | rfl | (intro k hk; exact push_at rfl _ _ _ _ k hk)
    · cbv; try (subst hA; repeat' first | apply And.intro | exact True.intro | rfl)
    · cbv
  rename_i hge
  have hall : ∀ k, k < n1 → LogOkP (g1 k) ∧ (0 ≤ (g2 k).at_ ∧ (g2 k).at_ ≤ ((g1 k).n : Int)) ∧ ckp.safe.at_.g k ≤ ((g1 k).n : Int) ∧ (0 ≤ (g2 k).wall ∧ (g2 k).wall ≤ ckp.n) := fun k hk' => hk k (by subst hA; have h : ¬ (i : Int) < job.srcs := of_decide_eq_false hge; rw [← hpre.2.1] at h; have h7 : ¬ i < n1 := fun q => h (Int.ofNat_lt.2 q); omega)
  clear hk hi hge
  have hall1 := hall
  clear hall
  refine loop_of hA (α := { i : Nat // i ≤ n3 ∧ ∀ k, k < i → (TskOkP job (g3 k) ∧ (g3 k).wall ≤ ckp.n) ∧ SinkOkP (g4 k) }) (fun x => st_sfl1 job n1 g1 hn1 n2 g2 hn2 n3 g3 hn3 ckp n4 g4 hn4 x.1) (fun x => n3 - x.1) ⟨0, Nat.zero_le _, fun k h => absurd h (Nat.not_lt_zero k)⟩ ?_ ?_
  · refine cov_of ?_ ?_ ?_
    · cbv; try (subst hA; repeat' first | apply And.intro | exact True.intro | rfl)
    · cbv; try (subst hA; repeat' first | apply And.intro | exact True.intro | rfl)
    · cbv
  rintro ⟨i, hi, hk⟩
  cbv
  repeat' first
    | apply And.intro
    | exact True.intro
    | with_reducible rfl
    | exact same_of hA rfl
    | refine br_of hA (fun _ => ?_) (fun _ => ?_)
    | exact imp_of hA id
    | (refine imp_of hA ?_; subst hA; simp only [real, Bool.true_and]; exact id)
    | (refine ind_of hA ?_; decide +kernel)
    | (refine call_ex hA hM (c_sTskOk job (g3 (A.nat (Int.ofNat i)))) (fun _ _ => ?_); cbv)
    | (refine call_ex hA hM (c_sSinkOk (g4 (A.nat (Int.ofNat i)))) (fun _ _ => ?_); cbv)
    | (refine inb_of hA fun _ => ?_; subst hA; have h9 : (decide ((i : Int) < job.tsks)) = true := (by assumption); have h8 := of_decide_eq_true h9; rw [← hpre.2.2.2.1] at h8; have h7 := Int.ofNat_lt.1 h8; first | exact ⟨Int.natCast_nonneg i, Int.ofNat_lt.2 h7⟩ | exact ⟨Int.natCast_nonneg i, Int.ofNat_lt.2 (Nat.lt_of_lt_of_eq h7 e34)⟩)
    | (refine inb_of hA fun _ => ?_; subst hA; simp only [real, Bool.and_eq_true, Bool.not_eq_true', Bool.not_eq_false', decide_eq_true_eq, Int.ofNat_eq_natCast, IntKind.wrap_i64] at *; omega)
  · rename_i hlt b1 hb1 b2 hb2 hc
    have hlt' : i < n3 := by subst hA; have h : (i : Int) < job.tsks := of_decide_eq_true hlt; rw [← hpre.2.2.2.1] at h; exact Int.ofNat_lt.1 h
    have hq : ¬ ((TskOkP job (g3 i) ∧ (g3 i).wall ≤ ckp.n) ∧ SinkOkP (g4 i)) := by
      subst hA
      have hB1 : b1 = true ↔ TskOkP job (g3 i) := hb1
      have hB2 : b2 = true ↔ SinkOkP (g4 i) := hb2
      simp only [real, bifA, bifB, bifC, bifD, beqB, decide_eq_true_eq, decide_eq_false_iff_not, beqI, bneI, beqIF, bneIF, ne_eq, Classical.not_not, Bool.and_eq_true, Bool.or_eq_true, Bool.not_eq_true', Bool.not_eq_false', Bool.and_eq_false_iff, Bool.or_eq_false_iff, Bool.false_eq_true, and_false, false_and, or_false, false_or, and_true, true_and, not_true_eq_false, not_false_eq_true, true_iff, false_iff, Int.ofNat_eq_natCast, Int.toNat_natCast] at hc
      have hc : (b1 = false ∨ (g3 i).wall > ckp.n) ∨ b2 = false := hc
      rintro ⟨⟨h1, h2⟩, h3⟩
      rcases hc with (h | h) | h
      · have := hB1.2 h1
        rw [h] at this; cases this
      · exact absurd h2 (Int.not_le.2 h)
      · have := hB2.2 h3
        rw [h] at this; cases this
    refine congrArg (fun b => XA.one (.c (.d (eB b)))) ?_
    cases b with
    | false => rfl
    | true =>
      exfalso
      exact hq (⟨(hb.1 rfl).2.2.2.2.2.2.1 i hlt', (hb.1 rfl).2.2.2.2.2.2.2 i (Nat.lt_of_lt_of_eq hlt' e34)⟩)
  · rename_i hlt b1 hb1 b2 hb2 hc
    have hlt' : i < n3 := by subst hA; have h : (i : Int) < job.tsks := of_decide_eq_true hlt; rw [← hpre.2.2.2.1] at h; exact Int.ofNat_lt.1 h
    have hq : (TskOkP job (g3 i) ∧ (g3 i).wall ≤ ckp.n) ∧ SinkOkP (g4 i) := by
      subst hA
      have hB1 : b1 = true ↔ TskOkP job (g3 i) := hb1
      have hB2 : b2 = true ↔ SinkOkP (g4 i) := hb2
      simp only [real, bifA, bifB, bifC, bifD, beqB, decide_eq_true_eq, decide_eq_false_iff_not, beqI, bneI, beqIF, bneIF, ne_eq, Classical.not_not, Bool.and_eq_true, Bool.or_eq_true, Bool.not_eq_true', Bool.not_eq_false', Bool.and_eq_false_iff, Bool.or_eq_false_iff, Bool.false_eq_true, and_false, false_and, or_false, false_or, and_true, true_and, not_true_eq_false, not_false_eq_true, true_iff, false_iff, Int.ofNat_eq_natCast, Int.toNat_natCast] at hc
      have hc : (b1 = true ∧ ¬ (g3 i).wall > ckp.n) ∧ b2 = true := hc
      exact ⟨⟨hB1.1 hc.1.1, Int.not_lt.1 hc.1.2⟩, hB2.1 hc.2⟩
    refine ⟨⟨i + 1, by omega, fun k hk' => ?_⟩, by simp only; omega, cov_of ?_ ?_ ?_⟩
    · by_cases e : k = i
      · rw [e]; exact hq
      · exact hk k (by omega)
    · cbv
      subst hA
      repeat' first | apply And.intro | exact True.intro | exact congrArg (fun x => DV.v (.int .i64 x)) (up64 hlt' hn3) | rfl | (intro k hk; exact push_at rfl _ _ _ _ k hk)
    · cbv; try (subst hA; repeat' first | apply And.intro | exact True.intro | rfl)
    · cbv
  rename_i hge
  have hall : ∀ k, k < n3 → (TskOkP job (g3 k) ∧ (g3 k).wall ≤ ckp.n) ∧ SinkOkP (g4 k) := fun k hk' => hk k (by subst hA; have h : ¬ (i : Int) < job.tsks := of_decide_eq_false hge; rw [← hpre.2.2.2.1] at h; have h7 : ¬ i < n3 := fun q => h (Int.ofNat_lt.2 q); omega)
  clear hk hi hge
  exact congrArg (fun b => XA.one (.c (.d (eB b)))) (hb.2 ⟨hpre.1, hpre.2.1, hpre.2.2.1, hpre.2.2.2.1, hpre.2.2.2.2, hall1, fun k hk => (hall k hk).1, fun k hk => (hall k (Nat.lt_of_lt_of_eq hk e34.symm)).2⟩).symm
end Go.Rk
