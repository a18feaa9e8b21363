/- Checkpoints, as the reference has them. -/
import Derived.Test.YtppekklalfebkaaGreatTW11
namespace Go.Rk
set_option linter.unusedSimpArgs false
set_option linter.unusedVariables false
open Go.Proofs
theorem c_JobOkP (j : JobT) : ∃ b, (b = true ↔ JobOkP j) ∧ Meets Tryz.prog 93 [xd (eJob j)] ⟨.one (.c (.d (eB b))), [none]⟩ := by
  obtain ⟨b, hb, hm⟩ := c_JobOk j.srcs j.tsks j.kind j.size j.step j.late j.tell j.piece j.least j.room
  exact ⟨b, by rw [hb, decide_eq_true_eq]; exact Iff.rfl, hm⟩
theorem c_sJobOkP (j : JobT) : ∃ b, (b = true ↔ JobOkP j) ∧ Meets Tryz.prog 88 [xd (eJob j)] ⟨.one (.c (.d (eB b))), [none]⟩ := by
  obtain ⟨b, hb, hm⟩ := c_sJobOk j.srcs j.tsks j.kind j.size j.step j.late j.tell j.piece j.least j.room
  exact ⟨b, by rw [hb, decide_eq_true_eq]; exact Iff.rfl, hm⟩
def st_l9Snap (j : JobT) (op : OpStT) (n : Nat) (g : Nat → Int) (i : Nat) (v : Int) : St := ⟨[(6, .c (.d (eI i))), (5, .c (.d (eI v))), (2, .c (.bp 128 1 0)), (3, .c (.bp 192 1 0))], [(128, 1, .box ((eJob j).map .d)), (192, 1, .box ((eOpSt op ++ [DV.sl 1 n fun i => [eI (g i)]]).map .d))]⟩
open Classical in
set_option maxRecDepth 100000 in
theorem c_l9Snap (j : JobT) (s : SnapT) : ∃ b, (b = true ↔ SnapOkP j s) ∧ Meets Tryz.prog 90 [xd (eJob j), xd (eSnap s)] ⟨.one (.c (.d (eB b))), [none, none]⟩ := by
  obtain ⟨b, hb⟩ : ∃ b : Bool, (b = true ↔ SnapOkP j s) := ⟨decide (SnapOkP j s), by rw [decide_eq_true_eq]⟩
  refine ⟨b, hb, ?_⟩
  obtain ⟨op, ⟨n, g, hn⟩⟩ := s
  show Meets _ _ [xd (eJob j), xd (eOpSt op ++ [DV.sl 1 n fun i => [eI (g i)]])] _
  refine meets_of (H := []) (EX := EXA) ttok mixed Tryz.func90 rfl (by kernel_rfl) (by decide) ?_
  generalize hA : real = A
  generalize hM : Meets Tryz.prog = M
  cbv
  repeat' first
    | apply And.intro
    | exact True.intro
    | with_reducible rfl
    | exact same_of hA rfl
    | refine br_of hA (fun _ => ?_) (fun _ => ?_)
    | exact imp_of hA id
    | (refine imp_of hA ?_; subst hA; simp only [real, Bool.true_and]; exact id)
    | (refine ind_of hA ?_; decide +kernel)
    | (refine call_ex hA hM (c_sOpOk j op) (fun _ _ => ?_); cbv)
  · rename_i b1 hb1 hbad
    subst hA
    refine congrArg (fun b => XA.one (.c (.d (eB b)))) ?_
    simp only [real, bifA, bifB, bifC, bifD, beqB, decide_eq_true_eq, decide_eq_false_iff_not, beqI, bneI, beqIF, bneIF, ne_eq, Classical.not_not, Bool.and_eq_true, Bool.or_eq_true, Bool.not_eq_true', Bool.not_eq_false', Bool.and_eq_false_iff, Bool.or_eq_false_iff, Bool.false_eq_true, and_false, false_and, or_false, false_or, and_true, true_and, not_true_eq_false, not_false_eq_true, true_iff, false_iff, Int.ofNat_eq_natCast, Int.toNat_natCast] at hbad
    have hbad : b1 = false ∨ ¬ (n : Int) = j.srcs := hbad
    cases b with
    | false => rfl
    | true =>
      exfalso
      have h := hb.1 rfl
      rcases hbad with h1 | h1
      · have := hb1.2 h.1
        rw [h1] at this; cases this
      · exact h1 h.2.1.1
  rename_i b1 hb1 hgood
  have hpre : OpOkP j op ∧ (n : Int) = j.srcs := by
    subst hA
    simp only [real, bifA, bifB, bifC, bifD, beqB, decide_eq_true_eq, decide_eq_false_iff_not, beqI, bneI, beqIF, bneIF, ne_eq, Classical.not_not, Bool.and_eq_true, Bool.or_eq_true, Bool.not_eq_true', Bool.not_eq_false', Bool.and_eq_false_iff, Bool.or_eq_false_iff, Bool.false_eq_true, and_false, false_and, or_false, false_or, and_true, true_and, not_true_eq_false, not_false_eq_true, true_iff, false_iff, Int.ofNat_eq_natCast, Int.toNat_natCast] at hgood
    exact ⟨hb1.1 hgood.1, hgood.2⟩
  clear hgood
  refine loop_of hA (α := { q : Nat × Int // q.1 ≤ n ∧ (∀ k, k < q.1 → (0 ≤ g k ∧ g k ≤ 1000)) ∧ LowP 1000 q.1 g q.2 }) (fun y => st_l9Snap j op n g y.1.1 y.1.2) (fun y => n - y.1.1) ⟨(0, 1000), Nat.zero_le _, fun k h => absurd h (Nat.not_lt_zero k), Int.le_refl _, fun i h => absurd h (Nat.not_lt_zero i), .inl rfl⟩ ?_ ?_
  · refine cov_of ?_ ?_ ?_
    · cbv; try (subst hA; repeat' first | apply And.intro | exact True.intro | rfl)
    · cbv; try (subst hA; repeat' first | apply And.intro | exact True.intro | rfl)
    · cbv
  rintro ⟨⟨i, v⟩, hi, hk, hc⟩
  have hi : i ≤ n := hi
  have hk : ∀ k, k < i → (0 ≤ g k ∧ g k ≤ 1000) := hk
  have hc : LowP 1000 i g v := hc
  have hs := lowP_step hc
  cbv
  repeat' first
    | apply And.intro
    | exact True.intro
    | with_reducible rfl
    | exact same_of hA rfl
    | refine br_of hA (fun _ => ?_) (fun _ => ?_)
    | exact imp_of hA id
    | (refine imp_of hA ?_; subst hA; simp only [real, Bool.true_and]; exact id)
    | (refine ind_of hA ?_; decide +kernel)
    | (refine call_ex hA hM (c_l1In _ _ _) (fun _ _ => ?_); cbv)
    | (refine inb_of hA fun _ => ?_; subst hA; simp only [real, Bool.and_eq_true, Bool.not_eq_true', Bool.not_eq_false', decide_eq_true_eq, Int.ofNat_eq_natCast, IntKind.wrap_i64] at *; omega)
  · rename_i hlt bq hbq hcc
    have hlt' : i < n := by subst hA; simp only [real, decide_eq_true_eq, Int.ofNat_eq_natCast] at hlt; omega
    have hq : ¬ (0 ≤ g i ∧ g i ≤ 1000) := by
      subst hA; subst hbq
      simp only [real, Bool.not_eq_true', decide_eq_false_iff_not] at hcc
      exact of_decide_eq_false hcc
    refine congrArg (fun b => XA.one (.c (.d (eB b)))) ?_
    cases b with
    | false => rfl
    | true => exact absurd ((hb.1 rfl).2.1.2 i hlt') hq
  · rename_i hlt bq hbq hcc hh
    have hlt' : i < n := by subst hA; simp only [real, decide_eq_true_eq, Int.ofNat_eq_natCast] at hlt; omega
    have hq : 0 ≤ g i ∧ g i ≤ 1000 := by
      subst hA; subst hbq
      simp only [real, Bool.not_eq_false', decide_eq_true_eq] at hcc
      exact of_decide_eq_true hcc
    have hh :  g i < v := by subst hA; exact of_decide_eq_true hh
    rw [if_pos hh] at hs
    refine ⟨⟨(i + 1, g i), by simp only; omega, fun k hk' => ?_, hs⟩, by simp only; omega, cov_of ?_ ?_ ?_⟩
    · by_cases e : k = i
      · rw [e]; exact hq
      · exact hk k (by simp only at hk'; omega)
    · cbv
      subst hA
      repeat' first | apply And.intro | exact True.intro | exact congrArg (fun x => DV.v (.int .i64 x)) (up64 hlt' hn) | rfl | (intro k hk; exact push_at rfl _ _ _ _ k hk)
    · cbv; try (subst hA; repeat' first | apply And.intro | exact True.intro | rfl)
    · cbv
  · rename_i hlt bq hbq hcc hh
    have hlt' : i < n := by subst hA; simp only [real, decide_eq_true_eq, Int.ofNat_eq_natCast] at hlt; omega
    have hq : 0 ≤ g i ∧ g i ≤ 1000 := by
      subst hA; subst hbq
      simp only [real, Bool.not_eq_false', decide_eq_true_eq] at hcc
      exact of_decide_eq_true hcc
    have hh : ¬ g i < v := by subst hA; exact of_decide_eq_false hh
    rw [if_neg hh] at hs
    refine ⟨⟨(i + 1, v), by simp only; omega, fun k hk' => ?_, hs⟩, by simp only; omega, cov_of ?_ ?_ ?_⟩
    · by_cases e : k = i
      · rw [e]; exact hq
      · exact hk k (by simp only at hk'; omega)
    · cbv
      subst hA
      repeat' first | apply And.intro | exact True.intro | exact congrArg (fun x => DV.v (.int .i64 x)) (up64 hlt' hn) | rfl | (intro k hk; exact push_at rfl _ _ _ _ k hk)
    · cbv; try (subst hA; repeat' first | apply And.intro | exact True.intro | rfl)
    · cbv
  · rename_i hge
    have hin : i = n := by
      subst hA
      simp only [real, decide_eq_false_iff_not, Int.ofNat_eq_natCast] at hge
      omega
    subst hin
    refine congrArg (fun b => XA.one (.c (.d (eB b)))) (Bool.eq_iff_iff.2 ?_)
    subst hA
    rw [hb]
    simp only [real, bifA, bifB, bifC, bifD, beqB, decide_eq_true_eq, decide_eq_false_iff_not, beqI, bneI, beqIF, bneIF, ne_eq, Bool.and_eq_true, Bool.or_eq_true, Bool.not_eq_true', Bool.not_eq_false', Bool.and_eq_false_iff, Bool.or_eq_false_iff, Bool.false_eq_true, and_false, false_and, or_false, false_or, and_true, true_and, not_true_eq_false, not_false_eq_true, true_iff, false_iff, Int.ofNat_eq_natCast, Int.toNat_natCast]
    constructor
    · intro h
      have h : op.mark = v := h
      exact ⟨hpre.1, ⟨hpre.2, hk⟩, (show LowP 1000 i g op.mark by rw [h]; exact hc)⟩
    · intro h
      exact lowP_one h.2.2 hc
def st_l9S0 (j : JobT) (m : Int) (n : Nat) (g : Nat → Int) (n2 : Nat) (g2 : Nat → SnapT) (i : Nat) : St := ⟨[(5, .c (.d (eI i))), (2, .c (.bp 128 1 0)), (3, .c (.bp 192 1 0))], [(128, 1, .box ((eJob j).map .d)), (192, 1, .box ([eI m, .sl 1 n fun i => [eI (g i)], .sl 3 n2 fun i => eSnap (g2 i)].map .d))]⟩
def st_l9S1 (j : JobT) (m : Int) (n : Nat) (g : Nat → Int) (n2 : Nat) (g2 : Nat → SnapT) (i : Nat) : St := ⟨[(6, .c (.d (eI i))), (2, .c (.bp 128 1 0)), (3, .c (.bp 192 1 0))], [(128, 1, .box ((eJob j).map .d)), (192, 1, .box ([eI m, .sl 1 n fun i => [eI (g i)], .sl 3 n2 fun i => eSnap (g2 i)].map .d))]⟩
open Classical in
set_option maxRecDepth 100000 in
theorem c_l9Safe (j : JobT) (s : SafeT) : ∃ b, (b = true ↔ SafeOkP j s) ∧ Meets Tryz.prog 89 [xd (eJob j), xd (eSafe s)] ⟨.one (.c (.d (eB b))), [none, none]⟩ := by
  obtain ⟨b, hb⟩ : ∃ b : Bool, (b = true ↔ SafeOkP j s) := ⟨decide (SafeOkP j s), by rw [decide_eq_true_eq]⟩
  refine ⟨b, hb, ?_⟩
  obtain ⟨m, ⟨n, g, hn⟩, ⟨n2, g2, hn2⟩⟩ := s
  show Meets _ _ [xd (eJob j), xd [eI m, .sl 1 n fun i => [eI (g i)], .sl 3 n2 fun i => eSnap (g2 i)]] _
  refine meets_of (H := []) (EX := EXA) ttok mixed Tryz.func89 rfl (by kernel_rfl) (by decide) ?_
  generalize hA : real = A
  generalize hM : Meets Tryz.prog = M
  cbv
  repeat' first
    | apply And.intro
    | exact True.intro
    | with_reducible rfl
    | exact same_of hA rfl
    | refine br_of hA (fun _ => ?_) (fun _ => ?_)
    | exact imp_of hA id
    | (refine imp_of hA ?_; subst hA; simp only [real, Bool.true_and]; exact id)
    | (refine ind_of hA ?_; decide +kernel)
    | (refine call_ex hA hM (c_l1In _ _ _) (fun _ _ => ?_); cbv)
  · rename_i b1 hb1 hbad
    subst hA; subst hb1
    refine congrArg (fun b => XA.one (.c (.d (eB b)))) ?_
    simp only [real, bifA, bifB, bifC, bifD, beqB, decide_eq_true_eq, decide_eq_false_iff_not, beqI, bneI, beqIF, bneIF, ne_eq, Classical.not_not, Bool.and_eq_true, Bool.or_eq_true, Bool.not_eq_true', Bool.not_eq_false', Bool.and_eq_false_iff, Bool.or_eq_false_iff, Bool.false_eq_true, and_false, false_and, or_false, false_or, and_true, true_and, not_true_eq_false, not_false_eq_true, true_iff, false_iff, Int.ofNat_eq_natCast, Int.toNat_natCast] at hbad
    have hbad : (¬ (0 ≤ m ∧ m ≤ 900) ∨ ¬ (n : Int) = j.srcs) ∨ ¬ (n2 : Int) = j.tsks := hbad
    cases b with
    | false => rfl
    | true =>
      exfalso
      have h := hb.1 rfl
      rcases hbad with (h1 | h1) | h1
      · exact h1 h.1
      · exact h1 h.2.1
      · exact h1 h.2.2.2.1
  rename_i b1 hb1 hgood
  have hpre : (0 ≤ m ∧ m ≤ 900) ∧ (n : Int) = j.srcs ∧ (n2 : Int) = j.tsks := by
    subst hA; subst hb1
    simp only [real, bifA, bifB, bifC, bifD, beqB, decide_eq_true_eq, decide_eq_false_iff_not, beqI, bneI, beqIF, bneIF, ne_eq, Classical.not_not, Bool.and_eq_true, Bool.or_eq_true, Bool.not_eq_true', Bool.not_eq_false', Bool.and_eq_false_iff, Bool.or_eq_false_iff, Bool.false_eq_true, and_false, false_and, or_false, false_or, and_true, true_and, not_true_eq_false, not_false_eq_true, true_iff, false_iff, Int.ofNat_eq_natCast, Int.toNat_natCast] at hgood
    exact ⟨hgood.1.1, hgood.1.2, hgood.2⟩
  clear hgood
  refine loop_of hA (α := { i : Nat // i ≤ n ∧ ∀ k, k < i → 0 ≤ g k ∧ g k ≤ 40 }) (fun x => st_l9S0 j m n g n2 g2 x.1) (fun x => n - x.1) ⟨0, Nat.zero_le _, fun k h => absurd h (Nat.not_lt_zero k)⟩ ?_ ?_
  · refine cov_of ?_ ?_ ?_
    · cbv; try (subst hA; repeat' first | apply And.intro | exact True.intro | rfl)
    · cbv; try (subst hA; repeat' first | apply And.intro | exact True.intro | rfl)
    · cbv
  rintro ⟨i, hi, hk⟩
  cbv
  repeat' first
    | apply And.intro
    | exact True.intro
    | with_reducible rfl
    | exact same_of hA rfl
    | refine br_of hA (fun _ => ?_) (fun _ => ?_)
    | exact imp_of hA id
    | (refine imp_of hA ?_; subst hA; simp only [real, Bool.true_and]; exact id)
    | (refine ind_of hA ?_; decide +kernel)
    | (refine call_ex hA hM (c_l1In _ _ _) (fun _ _ => ?_); cbv)
    | (refine inb_of hA fun _ => ?_; subst hA; simp only [real, Bool.and_eq_true, Bool.not_eq_true', Bool.not_eq_false', decide_eq_true_eq, Int.ofNat_eq_natCast, IntKind.wrap_i64] at *; omega)
  · rename_i hlt bq hbq hc
    have hlt' : i < n := by subst hA; simp only [real, decide_eq_true_eq, Int.ofNat_eq_natCast] at hlt; omega
    have hq : ¬ (0 ≤ g i ∧ g i ≤ 40) := by
      subst hA; subst hbq
      simp only [real, Bool.not_eq_true', decide_eq_false_iff_not] at hc
      exact of_decide_eq_false hc
    refine congrArg (fun b => XA.one (.c (.d (eB b)))) ?_
    cases b with
    | false => rfl
    | true =>
      exfalso
      exact hq ((hb.1 rfl).2.2.1 i hlt')
  · rename_i hlt bq hbq hc
    have hlt' : i < n := by subst hA; simp only [real, decide_eq_true_eq, Int.ofNat_eq_natCast] at hlt; omega
    have hq : 0 ≤ g i ∧ g i ≤ 40 := by
      subst hA; subst hbq
      simp only [real, Bool.not_eq_false', decide_eq_true_eq] at hc
      exact of_decide_eq_true hc
    refine ⟨⟨i + 1, by omega, fun k hk' => ?_⟩, by simp only; omega, cov_of ?_ ?_ ?_⟩
    · by_cases e : k = i
      · rw [e]; exact hq
      · exact hk k (by omega)
    · cbv
      subst hA
      repeat' first | apply And.intro | exact True.intro | exact congrArg (fun x => DV.v (.int .i64 x)) (up64 hlt' hn) | rfl | (intro k hk; exact push_at rfl _ _ _ _ k hk)
    · cbv; try (subst hA; repeat' first | apply And.intro | exact True.intro | rfl)
    · cbv
  rename_i hge
  have hall : ∀ k, k < n → 0 ≤ g k ∧ g k ≤ 40 := fun k hk' => hk k (by subst hA; simp only [real, decide_eq_false_iff_not, Int.ofNat_eq_natCast] at hge; omega)
  clear hk hi hge
  have hall1 := hall
  clear hall
  refine loop_of hA (α := { i : Nat // i ≤ n2 ∧ ∀ k, k < i → SnapOkP j (g2 k) }) (fun x => st_l9S1 j m n g n2 g2 x.1) (fun x => n2 - x.1) ⟨0, Nat.zero_le _, fun k h => absurd h (Nat.not_lt_zero k)⟩ ?_ ?_
  · refine cov_of ?_ ?_ ?_
    · cbv; try (subst hA; repeat' first | apply And.intro | exact True.intro | rfl)
    · cbv; try (subst hA; repeat' first | apply And.intro | exact True.intro | rfl)
    · cbv
  rintro ⟨i, hi, hk⟩
  cbv
  repeat' first
    | apply And.intro
    | exact True.intro
    | with_reducible rfl
    | exact same_of hA rfl
    | refine br_of hA (fun _ => ?_) (fun _ => ?_)
    | exact imp_of hA id
    | (refine imp_of hA ?_; subst hA; simp only [real, Bool.true_and]; exact id)
    | (refine ind_of hA ?_; decide +kernel)
    | (refine call_ex hA hM (c_l9Snap j (g2 (A.nat (Int.ofNat i)))) (fun _ _ => ?_); cbv)
    | (refine inb_of hA fun _ => ?_; subst hA; simp only [real, Bool.and_eq_true, Bool.not_eq_true', Bool.not_eq_false', decide_eq_true_eq, Int.ofNat_eq_natCast, IntKind.wrap_i64] at *; omega)
  · rename_i hlt bq hbq hc
    have hlt' : i < n2 := by subst hA; simp only [real, decide_eq_true_eq, Int.ofNat_eq_natCast] at hlt; omega
    have hq : ¬ (SnapOkP j (g2 i)) := by
      subst hA
      simp only [real, Bool.not_eq_true'] at hc
      intro h
      have := hbq.2 h
      rw [hc] at this
      cases this
    refine congrArg (fun b => XA.one (.c (.d (eB b)))) ?_
    cases b with
    | false => rfl
    | true =>
      exfalso
      exact hq ((hb.1 rfl).2.2.2.2 i hlt')
  · rename_i hlt bq hbq hc
    have hlt' : i < n2 := by subst hA; simp only [real, decide_eq_true_eq, Int.ofNat_eq_natCast] at hlt; omega
    have hq : SnapOkP j (g2 i) := by
      subst hA
      simp only [real, Bool.not_eq_false'] at hc
      exact hbq.1 hc
    refine ⟨⟨i + 1, by omega, fun k hk' => ?_⟩, by simp only; omega, cov_of ?_ ?_ ?_⟩
    · by_cases e : k = i
      · rw [e]; exact hq
      · exact hk k (by omega)
    · cbv
      subst hA
      repeat' first | apply And.intro | exact True.intro | exact congrArg (fun x => DV.v (.int .i64 x)) (up64 hlt' hn2) | rfl | (intro k hk; exact push_at rfl _ _ _ _ k hk)
    · cbv; try (subst hA; repeat' first | apply And.intro | exact True.intro | rfl)
    · cbv
  rename_i hge
  have hall : ∀ k, k < n2 → SnapOkP j (g2 k) := fun k hk' => hk k (by subst hA; simp only [real, decide_eq_false_iff_not, Int.ofNat_eq_natCast] at hge; omega)
  clear hk hi hge
  exact congrArg (fun b => XA.one (.c (.d (eB b)))) (hb.2 ⟨hpre.1, hpre.2.1, hall1, hpre.2.2, hall⟩).symm
def st_Ck0 (j : JobT) (cn : Int) (opn : Bool) (n1 : Nat) (g1 : Nat → Int) (hn1 : n1 ≤ maxLen) (n2 : Nat) (g2 : Nat → Bool) (hn2 : n2 ≤ maxLen) (n3 : Nat) (g3 : Nat → SnapT) (hn3 : n3 ≤ maxLen) (safe : SafeT) (i : Nat) : St := ⟨[(65, .c (.d (eI i))), (64, .c (.d (eI n1))), (63, .c (.d (.sl 1 n1 fun i => [eI (g1 i)]))), (2, .c (.bp 128 1 0)), (3, .c (.bp 192 1 0))], [(128, 1, .box ((eJob j).map .d)), (192, 1, .box ((eCkp ⟨cn, opn, ⟨n1, g1, hn1⟩, ⟨n2, g2, hn2⟩, ⟨n3, g3, hn3⟩, safe⟩).map .d))]⟩
def st_Ck1 (j : JobT) (cn : Int) (opn : Bool) (n1 : Nat) (g1 : Nat → Int) (hn1 : n1 ≤ maxLen) (n2 : Nat) (g2 : Nat → Bool) (hn2 : n2 ≤ maxLen) (n3 : Nat) (g3 : Nat → SnapT) (hn3 : n3 ≤ maxLen) (safe : SafeT) (i : Nat) : St := ⟨[(85, .c (.d (eI i))), (84, .c (.d (eI n2))), (83, .c (.d (.sl 1 n2 fun i => [eB (g2 i)]))), (2, .c (.bp 128 1 0)), (3, .c (.bp 192 1 0))], [(128, 1, .box ((eJob j).map .d)), (192, 1, .box ((eCkp ⟨cn, opn, ⟨n1, g1, hn1⟩, ⟨n2, g2, hn2⟩, ⟨n3, g3, hn3⟩, safe⟩).map .d))]⟩
open Classical in
set_option maxRecDepth 100000 in
theorem c_CkpOk (j : JobT) (c : CkpT) : ∃ b, (b = true ↔ CkpOkP j c) ∧ Meets Tryz.prog 31 [xd (eJob j), xd (eCkp c)] ⟨.one (.c (.d (eB b))), [none, none]⟩ := by
  obtain ⟨b, hb⟩ : ∃ b : Bool, (b = true ↔ CkpOkP j c) := ⟨decide (CkpOkP j c), by rw [decide_eq_true_eq]⟩
  refine ⟨b, hb, ?_⟩
  obtain ⟨cn, opn, ⟨n1, g1, hn1⟩, ⟨n2, g2, hn2⟩, ⟨n3, g3, hn3⟩, safe⟩ := c
  refine meets_of (H := []) (EX := EXA) ttok mixed Tryz.func31 rfl (by kernel_rfl) (by decide) ?_
  generalize hA : real = A
  generalize hM : Meets Tryz.prog = M
  cbv
  repeat' first
    | apply And.intro
    | exact True.intro
    | with_reducible rfl
    | exact same_of hA rfl
    | refine br_of hA (fun _ => ?_) (fun _ => ?_)
    | exact imp_of hA id
    | (refine imp_of hA ?_; subst hA; simp only [real, Bool.true_and]; exact id)
    | (refine ind_of hA ?_; decide +kernel)
    | (refine call_ex hA hM (c_JobOkP j) (fun _ _ => ?_); cbv)
    | (refine call_ex hA hM (c_in _ _ _) (fun _ _ => ?_); cbv)
    | (refine call_ex hA hM (c_SafeOk j safe) (fun _ _ => ?_); cbv)
  · rename_i b1 hb1 b2 hb2 b3 hb3 hbad
    subst hA; subst hb3
    simp only [real, bifA, bifB, bifC, bifD, beqB, decide_eq_true_eq, decide_eq_false_iff_not, beqI, bneI, beqIF, bneIF, ne_eq, Classical.not_not, Bool.and_eq_true, Bool.or_eq_true, Bool.not_eq_true', Bool.not_eq_false', Bool.and_eq_false_iff, Bool.or_eq_false_iff, Bool.false_eq_true, and_false, false_and, or_false, false_or, and_true, true_and, not_true_eq_false, not_false_eq_true, true_iff, false_iff, Int.ofNat_eq_natCast, Int.toNat_natCast] at hbad
    have hbad : ((b1 = false ∨ b2 = false) ∨ ¬ (safe.n ≤ cn ∧ cn ≤ 900)) ∨ (opn = true ∧ cn = safe.n) := hbad
    refine congrArg (fun b => XA.one (.c (.d (eB b)))) ?_
    cases b with
    | false => rfl
    | true =>
      exfalso
      have h := hb.1 rfl
      rcases hbad with ((h1 | h1) | h1) | h1
      · have := hb1.2 h.1
        rw [h1] at this; cases this
      · have := hb2.2 h.2.1
        rw [h1] at this; cases this
      · exact h1 h.2.2.1
      · exact h.2.2.2.1 h1
  · rename_i b1 hb1 b2 hb2 b3 hb3 hgood hbad
    subst hA; subst hb3
    simp only [real, bifA, bifB, bifC, bifD, beqB, decide_eq_true_eq, decide_eq_false_iff_not, beqI, bneI, beqIF, bneIF, ne_eq, Classical.not_not, Bool.and_eq_true, Bool.or_eq_true, Bool.not_eq_true', Bool.not_eq_false', Bool.and_eq_false_iff, Bool.or_eq_false_iff, Bool.false_eq_true, and_false, false_and, or_false, false_or, and_true, true_and, not_true_eq_false, not_false_eq_true, true_iff, false_iff, Int.ofNat_eq_natCast, Int.toNat_natCast] at hbad
    have hbad : (¬ (n1 : Int) = j.srcs ∨ ¬ (n2 : Int) = j.tsks) ∨ ¬ (n3 : Int) = j.tsks := hbad
    refine congrArg (fun b => XA.one (.c (.d (eB b)))) ?_
    cases b with
    | false => rfl
    | true =>
      exfalso
      have h := hb.1 rfl
      rcases hbad with (h1 | h1) | h1
      · exact h1 h.2.2.2.2.1
      · exact h1 h.2.2.2.2.2.1
      · exact h1 h.2.2.2.2.2.2.1
  rename_i b1 hb1 b2 hb2 b3 hb3 hgood hgood2
  have hpre : JobOkP j ∧ SafeOkP j safe ∧ (safe.n ≤ cn ∧ cn ≤ 900) ∧ ¬ (opn = true ∧ cn = safe.n) ∧ (n1 : Int) = j.srcs ∧ (n2 : Int) = j.tsks ∧ (n3 : Int) = j.tsks := by
    subst hA; subst hb3
    simp only [real, bifA, bifB, bifC, bifD, beqB, decide_eq_true_eq, decide_eq_false_iff_not, beqI, bneI, beqIF, bneIF, ne_eq, Classical.not_not, Bool.and_eq_true, Bool.or_eq_true, Bool.not_eq_true', Bool.not_eq_false', Bool.and_eq_false_iff, Bool.or_eq_false_iff, Bool.false_eq_true, and_false, false_and, or_false, false_or, and_true, true_and, not_true_eq_false, not_false_eq_true, true_iff, false_iff, Int.ofNat_eq_natCast, Int.toNat_natCast] at hgood hgood2
    have hgood : ((b1 = true ∧ b2 = true) ∧ (safe.n ≤ cn ∧ cn ≤ 900)) ∧ (opn = false ∨ ¬ cn = safe.n) := hgood
    have hgood2 : ((n1 : Int) = j.srcs ∧ (n2 : Int) = j.tsks) ∧ (n3 : Int) = j.tsks := hgood2
    exact ⟨hb1.1 hgood.1.1.1, hb2.1 hgood.1.1.2, hgood.1.2, (fun h => by rcases hgood.2 with q | q; rw [h.1] at q; cases q; exact q h.2), hgood2.1.1, hgood2.1.2, hgood2.2⟩
  clear hgood hgood2
  have htq : n2 = n3 := by
    have e1 := hpre.2.2.2.2.2.1
    rw [← hpre.2.2.2.2.2.2] at e1
    exact Int.ofNat.inj e1
  refine loop_of hA (α := { i : Nat // i ≤ n1 ∧ ∀ k, k < i → SrcP opn (g1 k) }) (fun x => st_Ck0 j cn opn n1 g1 hn1 n2 g2 hn2 n3 g3 hn3 safe x.1) (fun x => n1 - x.1) ⟨0, Nat.zero_le _, fun k h => absurd h (Nat.not_lt_zero k)⟩ ?_ ?_
  · refine cov_of ?_ ?_ ?_
    · cbv; try (subst hA; repeat' first | apply And.intro | exact True.intro | rfl)
    · cbv; try (subst hA; repeat' first | apply And.intro | exact True.intro | rfl)
    · cbv
  rintro ⟨i, hi, hk⟩
  cbv
  repeat' first
    | apply And.intro
    | exact True.intro
    | with_reducible rfl
    | exact same_of hA rfl
    | refine br_of hA (fun _ => ?_) (fun _ => ?_)
    | exact imp_of hA id
    | (refine imp_of hA ?_; subst hA; simp only [real, Bool.true_and]; exact id)
    | (refine ind_of hA ?_; decide +kernel)
    | (refine call_ex hA hM (c_in _ _ _) (fun _ _ => ?_); cbv)
    | (refine inb_of hA fun _ => ?_; subst hA; simp only [real, Bool.and_eq_true, Bool.not_eq_true', Bool.not_eq_false', decide_eq_true_eq, Int.ofNat_eq_natCast, IntKind.wrap_i64] at *; omega)
  · rename_i hlt bq hbq hc
    have hlt' : i < n1 := by subst hA; simp only [real, decide_eq_true_eq, Int.ofNat_eq_natCast] at hlt; omega
    have hq : ¬ (SrcP opn (g1 i)) := by
      subst hA; subst hbq
      have e : g1 (real.nat (Int.ofNat i)) = g1 i := rfl
      rw [e] at hc
      unfold SrcP
      generalize g1 i = x at hc ⊢
      cases opn <;> simp [real, bifA, bifB] at hc ⊢ <;> omega
    refine congrArg (fun b => XA.one (.c (.d (eB b)))) ?_
    cases b with
    | false => rfl
    | true =>
      exfalso
      exact hq ((hb.1 rfl).2.2.2.2.2.2.2.1 i hlt')
  · rename_i hlt bq hbq hc
    have hlt' : i < n1 := by subst hA; simp only [real, decide_eq_true_eq, Int.ofNat_eq_natCast] at hlt; omega
    have hq : SrcP opn (g1 i) := by
      subst hA; subst hbq
      have e : g1 (real.nat (Int.ofNat i)) = g1 i := rfl
      rw [e] at hc
      unfold SrcP
      generalize g1 i = x at hc ⊢
      cases opn <;> simp [real, bifA, bifB] at hc ⊢ <;> omega
    refine ⟨⟨i + 1, by omega, fun k hk' => ?_⟩, by simp only; omega, cov_of ?_ ?_ ?_⟩
    · by_cases e : k = i
      · rw [e]; exact hq
      · exact hk k (by omega)
    · cbv
      subst hA
      repeat' first | apply And.intro | exact True.intro | exact congrArg (fun x => DV.v (.int .i64 x)) (up64 hlt' hn1) | rfl | (intro k hk; exact push_at rfl _ _ _ _ k hk)
    · cbv; try (subst hA; repeat' first | apply And.intro | exact True.intro | rfl)
    · cbv
  rename_i hge
  have hall : ∀ k, k < n1 → SrcP opn (g1 k) := fun k hk' => hk k (by subst hA; simp only [real, decide_eq_false_iff_not, Int.ofNat_eq_natCast] at hge; omega)
  clear hk hi hge
  have hall1 := hall
  clear hall
  refine loop_of hA (α := { i : Nat // i ≤ n2 ∧ ∀ k, k < i → TkP j opn (g2 k) (g3 k) }) (fun x => st_Ck1 j cn opn n1 g1 hn1 n2 g2 hn2 n3 g3 hn3 safe x.1) (fun x => n2 - x.1) ⟨0, Nat.zero_le _, fun k h => absurd h (Nat.not_lt_zero k)⟩ ?_ ?_
  · refine cov_of ?_ ?_ ?_
    · cbv; try (subst hA; repeat' first | apply And.intro | exact True.intro | rfl)
    · cbv; try (subst hA; repeat' first | apply And.intro | exact True.intro | rfl)
    · cbv
  rintro ⟨i, hi, hk⟩
  cbv
  repeat' first
    | apply And.intro
    | exact True.intro
    | with_reducible rfl
    | exact same_of hA rfl
    | refine br_of hA (fun _ => ?_) (fun _ => ?_)
    | exact imp_of hA id
    | (refine imp_of hA ?_; subst hA; simp only [real, Bool.true_and]; exact id)
    | (refine ind_of hA ?_; decide +kernel)
    | (refine call_ex hA hM (c_SnapOk j (g3 (A.nat (Int.ofNat i)))) (fun _ _ => ?_); cbv)
    | (refine call_ex hA hM (c_empty (g3 (A.nat (Int.ofNat i)))) (fun _ _ => ?_); cbv)
    | (refine inb_of hA fun _ => ?_; subst hA; simp only [real, Bool.and_eq_true, Bool.not_eq_true', Bool.not_eq_false', decide_eq_true_eq, Int.ofNat_eq_natCast, IntKind.wrap_i64] at *; omega)
  · rename_i hlt b1 hb1 b2 hb2 hc
    have hlt' : i < n2 := by subst hA; simp only [real, decide_eq_true_eq, Int.ofNat_eq_natCast] at hlt; omega
    have hq : ¬ (TkP j opn (g2 i) (g3 i)) := by
      subst hA
      have hb1 : b1 = true ↔ SnapOkP j (g3 i) := hb1
      have hb2 : b2 = true ↔ EmptyP (g3 i) := hb2
      rw [tk_of (t := g2 i) (opn := opn) hb1 hb2]
      have e : g2 (real.nat (Int.ofNat i)) = g2 i := rfl
      rw [e] at hc
      generalize g2 i = t at hc ⊢
      cases t <;> cases opn <;> cases b1 <;> cases b2 <;> simp [real] at hc ⊢
    refine congrArg (fun b => XA.one (.c (.d (eB b)))) ?_
    cases b with
    | false => rfl
    | true =>
      exfalso
      exact hq ((hb.1 rfl).2.2.2.2.2.2.2.2 i hlt')
  · rename_i hlt b1 hb1 b2 hb2 hc
    have hlt' : i < n2 := by subst hA; simp only [real, decide_eq_true_eq, Int.ofNat_eq_natCast] at hlt; omega
    have hq : TkP j opn (g2 i) (g3 i) := by
      subst hA
      have hb1 : b1 = true ↔ SnapOkP j (g3 i) := hb1
      have hb2 : b2 = true ↔ EmptyP (g3 i) := hb2
      rw [tk_of (t := g2 i) (opn := opn) hb1 hb2]
      have e : g2 (real.nat (Int.ofNat i)) = g2 i := rfl
      rw [e] at hc
      generalize g2 i = t at hc ⊢
      cases t <;> cases opn <;> cases b1 <;> cases b2 <;> simp [real] at hc ⊢
    refine ⟨⟨i + 1, by omega, fun k hk' => ?_⟩, by simp only; omega, cov_of ?_ ?_ ?_⟩
    · by_cases e : k = i
      · rw [e]; exact hq
      · exact hk k (by omega)
    · cbv
      subst hA
      repeat' first | apply And.intro | exact True.intro | exact congrArg (fun x => DV.v (.int .i64 x)) (up64 hlt' hn2) | rfl | (intro k hk; exact push_at rfl _ _ _ _ k hk)
    · cbv; try (subst hA; repeat' first | apply And.intro | exact True.intro | rfl)
    · cbv
  rename_i hge
  have hall : ∀ k, k < n2 → TkP j opn (g2 k) (g3 k) := fun k hk' => hk k (by subst hA; simp only [real, decide_eq_false_iff_not, Int.ofNat_eq_natCast] at hge; omega)
  clear hk hi hge
  exact congrArg (fun b => XA.one (.c (.d (eB b)))) (hb.2 ⟨hpre.1, hpre.2.1, hpre.2.2.1, hpre.2.2.2.1, hpre.2.2.2.2.1, hpre.2.2.2.2.2.1, hpre.2.2.2.2.2.2, hall1, hall⟩).symm
def st_sCk0 (j : JobT) (cn : Int) (opn : Bool) (n1 : Nat) (g1 : Nat → Int) (hn1 : n1 ≤ maxLen) (n2 : Nat) (g2 : Nat → Bool) (hn2 : n2 ≤ maxLen) (n3 : Nat) (g3 : Nat → SnapT) (hn3 : n3 ≤ maxLen) (safe : SafeT) (i : Nat) : St := ⟨[(5, .c (.d (eI i))), (2, .c (.bp 128 1 0)), (3, .c (.bp 192 1 0))], [(128, 1, .box ((eJob j).map .d)), (192, 1, .box ((eCkp ⟨cn, opn, ⟨n1, g1, hn1⟩, ⟨n2, g2, hn2⟩, ⟨n3, g3, hn3⟩, safe⟩).map .d))]⟩
def st_sCk1 (j : JobT) (cn : Int) (opn : Bool) (n1 : Nat) (g1 : Nat → Int) (hn1 : n1 ≤ maxLen) (n2 : Nat) (g2 : Nat → Bool) (hn2 : n2 ≤ maxLen) (n3 : Nat) (g3 : Nat → SnapT) (hn3 : n3 ≤ maxLen) (safe : SafeT) (i : Nat) : St := ⟨[(6, .c (.d (eI i))), (2, .c (.bp 128 1 0)), (3, .c (.bp 192 1 0))], [(128, 1, .box ((eJob j).map .d)), (192, 1, .box ((eCkp ⟨cn, opn, ⟨n1, g1, hn1⟩, ⟨n2, g2, hn2⟩, ⟨n3, g3, hn3⟩, safe⟩).map .d))]⟩
open Classical in
set_option maxRecDepth 100000 in
theorem c_sCkpOk (j : JobT) (c : CkpT) (hbd : bdCkp c) : ∃ b, (b = true ↔ CkpOkP j c) ∧ Meets Tryz.prog 28 [xd (eJob j), xd (eCkp c)] ⟨.one (.c (.d (eB b))), [none, none]⟩ := by
  obtain ⟨b, hb⟩ : ∃ b : Bool, (b = true ↔ CkpOkP j c) := ⟨decide (CkpOkP j c), by rw [decide_eq_true_eq]⟩
  refine ⟨b, hb, ?_⟩
  obtain ⟨cn, opn, ⟨n1, g1, hn1⟩, ⟨n2, g2, hn2⟩, ⟨n3, g3, hn3⟩, safe⟩ := c
  refine meets_of (H := []) (EX := EXA) ttok mixed Tryz.func28 rfl (by kernel_rfl) (by decide) ?_
  generalize hA : real = A
  generalize hM : Meets Tryz.prog = M
  cbv
  repeat' first
    | apply And.intro
    | exact True.intro
    | with_reducible rfl
    | exact same_of hA rfl
    | refine br_of hA (fun _ => ?_) (fun _ => ?_)
    | exact imp_of hA id
    | (refine imp_of hA ?_; subst hA; simp only [real, Bool.true_and]; exact id)
    | (refine ind_of hA ?_; decide +kernel)
    | (refine call_ex hA hM (c_sJobOkP j) (fun _ _ => ?_); cbv)
    | (refine call_ex hA hM (c_l1In _ _ _) (fun _ _ => ?_); cbv)
    | (refine call_ex hA hM (c_l9Safe j safe) (fun _ _ => ?_); cbv)
  · rename_i b1 hb1 b3 hb3 b2 hb2 hbad
    subst hA; subst hb3
    simp only [real, bifA, bifB, bifC, bifD, beqB, decide_eq_true_eq, decide_eq_false_iff_not, beqI, bneI, beqIF, bneIF, ne_eq, Classical.not_not, Bool.and_eq_true, Bool.or_eq_true, Bool.not_eq_true', Bool.not_eq_false', Bool.and_eq_false_iff, Bool.or_eq_false_iff, Bool.false_eq_true, and_false, false_and, or_false, false_or, and_true, true_and, not_true_eq_false, not_false_eq_true, true_iff, false_iff, Int.ofNat_eq_natCast, Int.toNat_natCast] at hbad
    have hbad : ((((((b1 = false ∨ ¬ (safe.n ≤ cn ∧ cn ≤ 900)) ∨ (opn = true ∧ cn = safe.n)) ∨ ¬ (n1 : Int) = j.srcs) ∨ ¬ (n2 : Int) = j.tsks) ∨ ¬ (n3 : Int) = j.tsks) ∨ b2 = false) := hbad
    refine congrArg (fun b => XA.one (.c (.d (eB b)))) ?_
    cases b with
    | false => rfl
    | true =>
      exfalso
      have h := hb.1 rfl
      rcases hbad with (((((h1 | h1) | h1) | h1) | h1) | h1) | h1
      · have := hb1.2 h.1
        rw [h1] at this; cases this
      · exact h1 h.2.2.1
      · exact h.2.2.2.1 h1
      · exact h1 h.2.2.2.2.1
      · exact h1 h.2.2.2.2.2.1
      · exact h1 h.2.2.2.2.2.2.1
      · have := hb2.2 h.2.1
        rw [h1] at this; cases this
  rename_i b1 hb1 b3 hb3 b2 hb2 hgood
  have hpre : JobOkP j ∧ SafeOkP j safe ∧ (safe.n ≤ cn ∧ cn ≤ 900) ∧ ¬ (opn = true ∧ cn = safe.n) ∧ (n1 : Int) = j.srcs ∧ (n2 : Int) = j.tsks ∧ (n3 : Int) = j.tsks := by
    subst hA; subst hb3
    simp only [real, bifA, bifB, bifC, bifD, beqB, decide_eq_true_eq, decide_eq_false_iff_not, beqI, bneI, beqIF, bneIF, ne_eq, Classical.not_not, Bool.and_eq_true, Bool.or_eq_true, Bool.not_eq_true', Bool.not_eq_false', Bool.and_eq_false_iff, Bool.or_eq_false_iff, Bool.false_eq_true, and_false, false_and, or_false, false_or, and_true, true_and, not_true_eq_false, not_false_eq_true, true_iff, false_iff, Int.ofNat_eq_natCast, Int.toNat_natCast] at hgood
    have hgood : ((((((b1 = true ∧ (safe.n ≤ cn ∧ cn ≤ 900)) ∧ (opn = false ∨ ¬ cn = safe.n)) ∧ (n1 : Int) = j.srcs) ∧ (n2 : Int) = j.tsks) ∧ (n3 : Int) = j.tsks) ∧ b2 = true) := hgood
    obtain ⟨⟨⟨⟨⟨⟨g1', g2'⟩, g3'⟩, g4'⟩, g5'⟩, g6'⟩, g7'⟩ := hgood
    exact ⟨hb1.1 g1', hb2.1 g7', g2', (fun h => by rcases g3' with q | q; rw [h.1] at q; cases q; exact q h.2), g4', g5', g6'⟩
  clear hgood
  have htq : n2 = n3 := by
    have e1 := hpre.2.2.2.2.2.1
    rw [← hpre.2.2.2.2.2.2] at e1
    exact Int.ofNat.inj e1
  refine loop_of hA (α := { i : Nat // i ≤ n1 ∧ ∀ k, k < i → SrcP opn (g1 k) }) (fun x => st_sCk0 j cn opn n1 g1 hn1 n2 g2 hn2 n3 g3 hn3 safe x.1) (fun x => n1 - x.1) ⟨0, Nat.zero_le _, fun k h => absurd h (Nat.not_lt_zero k)⟩ ?_ ?_
  · refine cov_of ?_ ?_ ?_
    · cbv; try (subst hA; repeat' first | apply And.intro | exact True.intro | rfl)
    · cbv; try (subst hA; repeat' first | apply And.intro | exact True.intro | rfl)
    · cbv
  rintro ⟨i, hi, hk⟩
  cbv
  repeat' first
    | apply And.intro
    | exact True.intro
    | with_reducible rfl
    | exact same_of hA rfl
    | refine br_of hA (fun _ => ?_) (fun _ => ?_)
    | exact imp_of hA id
    | (refine imp_of hA ?_; subst hA; simp only [real, Bool.true_and]; exact id)
    | (refine ind_of hA ?_; decide +kernel)
    | (refine call_ex hA hM (c_l1In _ _ _) (fun _ _ => ?_); cbv)
    | (refine inb_of hA fun _ => ?_; subst hA; simp only [real, Bool.and_eq_true, Bool.not_eq_true', Bool.not_eq_false', decide_eq_true_eq, Int.ofNat_eq_natCast, IntKind.wrap_i64] at *; omega)
  · rename_i hlt bq hbq hc
    have hlt' : i < n1 := by subst hA; simp only [real, decide_eq_true_eq, Int.ofNat_eq_natCast] at hlt; omega
    have hq : ¬ (SrcP opn (g1 i)) := by
      subst hA; subst hbq
      have e : g1 (real.nat (Int.ofNat i)) = g1 i := rfl
      rw [e] at hc
      unfold SrcP
      generalize g1 i = x at hc ⊢
      cases opn <;> simp [real, bifA, bifB] at hc ⊢ <;> omega
    refine congrArg (fun b => XA.one (.c (.d (eB b)))) ?_
    cases b with
    | false => rfl
    | true =>
      exfalso
      exact hq ((hb.1 rfl).2.2.2.2.2.2.2.1 i hlt')
  · rename_i hlt bq hbq hc
    have hlt' : i < n1 := by subst hA; simp only [real, decide_eq_true_eq, Int.ofNat_eq_natCast] at hlt; omega
    have hq : SrcP opn (g1 i) := by
      subst hA; subst hbq
      have e : g1 (real.nat (Int.ofNat i)) = g1 i := rfl
      rw [e] at hc
      unfold SrcP
      generalize g1 i = x at hc ⊢
      cases opn <;> simp [real, bifA, bifB] at hc ⊢ <;> omega
    refine ⟨⟨i + 1, by omega, fun k hk' => ?_⟩, by simp only; omega, cov_of ?_ ?_ ?_⟩
    · by_cases e : k = i
      · rw [e]; exact hq
      · exact hk k (by omega)
    · cbv
      subst hA
      repeat' first | apply And.intro | exact True.intro | exact congrArg (fun x => DV.v (.int .i64 x)) (up64 hlt' hn1) | rfl | (intro k hk; exact push_at rfl _ _ _ _ k hk)
    · cbv; try (subst hA; repeat' first | apply And.intro | exact True.intro | rfl)
    · cbv
  rename_i hge
  have hall : ∀ k, k < n1 → SrcP opn (g1 k) := fun k hk' => hk k (by subst hA; simp only [real, decide_eq_false_iff_not, Int.ofNat_eq_natCast] at hge; omega)
  clear hk hi hge
  have hall1 := hall
  clear hall
  refine loop_of hA (α := { i : Nat // i ≤ n2 ∧ ∀ k, k < i → TkP j opn (g2 k) (g3 k) }) (fun x => st_sCk1 j cn opn n1 g1 hn1 n2 g2 hn2 n3 g3 hn3 safe x.1) (fun x => n2 - x.1) ⟨0, Nat.zero_le _, fun k h => absurd h (Nat.not_lt_zero k)⟩ ?_ ?_
  · refine cov_of ?_ ?_ ?_
    · cbv; try (subst hA; repeat' first | apply And.intro | exact True.intro | rfl)
    · cbv; try (subst hA; repeat' first | apply And.intro | exact True.intro | rfl)
    · cbv
  rintro ⟨i, hi, hk⟩
  cbv
  repeat' first
    | apply And.intro
    | exact True.intro
    | with_reducible rfl
    | exact same_of hA rfl
    | refine br_of hA (fun _ => ?_) (fun _ => ?_)
    | exact imp_of hA id
    | (refine imp_of hA ?_; subst hA; simp only [real, Bool.true_and]; exact id)
    | (refine ind_of hA ?_; decide +kernel)
    | (refine call_ex hA hM (c_l9Snap j (g3 (A.nat (Int.ofNat i)))) (fun _ _ => ?_); cbv)
    | (refine inb_of hA fun _ => ?_; subst hA; simp only [real, Bool.and_eq_true, Bool.not_eq_true', Bool.not_eq_false', decide_eq_true_eq, Int.ofNat_eq_natCast, IntKind.wrap_i64] at *; omega)
  · rename_i hlt b1 hb1 hc
    have hlt' : i < n2 := by subst hA; simp only [real, decide_eq_true_eq, Int.ofNat_eq_natCast] at hlt; omega
    have hq : ¬ (TkP j opn (g2 i) (g3 i)) := by
      subst hA
      have hb1 : b1 = true ↔ SnapOkP j (g3 i) := hb1
      have hbd3 : (g3 i).op.rows.n ≤ 1048576 ∧ (g3 i).marks.n ≤ 1048576 := hbd.2.2.2.1 i (show i < n3 by omega)
      obtain ⟨b2, hb2⟩ : ∃ b : Bool, (b = true ↔ EmptyP (g3 i)) := ⟨decide (EmptyP (g3 i)), by rw [decide_eq_true_eq]⟩
      have hE : real.bite (real.cmp .neq (g3 i).op.mark 0) true (real.cmp .gtr (real.ar .add .i64 (real.int (g3 i).op.rows.n) (real.int (g3 i).marks.n)) 0) = !b2 := by
        have e : IntKind.i64.wrap (((g3 i).op.rows.n : Int) + ((g3 i).marks.n : Int)) = ((g3 i).op.rows.n : Int) + ((g3 i).marks.n : Int) := IntWalk.i64_in _ (by omega)
        show (bif (g3 i).op.mark != 0 then true else decide (IntKind.i64.wrap (((g3 i).op.rows.n : Int) + ((g3 i).marks.n : Int)) > 0)) = !b2
        rw [e, bifB]
        unfold EmptyP at hb2
        rw [Bool.eq_iff_iff]
        simp only [Bool.or_eq_true, bneI, decide_eq_true_eq, Bool.not_eq_true']
        rw [← Bool.not_eq_true, hb2]
        omega
      have hc : real.bite (real.bite (g2 i) (real.bite (real.bnot opn) true (real.bnot b1)) false) true (real.bite (real.bnot (g2 i)) (real.bite (real.cmp .neq (g3 i).op.mark 0) true (real.cmp .gtr (real.ar .add .i64 (real.int (g3 i).op.rows.n) (real.int (g3 i).marks.n)) 0)) false) = true := hc
      rw [hE] at hc
      rw [tk_of (t := g2 i) (opn := opn) hb1 hb2]
      generalize g2 i = t at hc ⊢
      cases t <;> cases opn <;> cases b1 <;> cases b2 <;> simp [real] at hc ⊢
    refine congrArg (fun b => XA.one (.c (.d (eB b)))) ?_
    cases b with
    | false => rfl
    | true =>
      exfalso
      exact hq ((hb.1 rfl).2.2.2.2.2.2.2.2 i hlt')
  · rename_i hlt b1 hb1 hc
    have hlt' : i < n2 := by subst hA; simp only [real, decide_eq_true_eq, Int.ofNat_eq_natCast] at hlt; omega
    have hq : TkP j opn (g2 i) (g3 i) := by
      subst hA
      have hb1 : b1 = true ↔ SnapOkP j (g3 i) := hb1
      have hbd3 : (g3 i).op.rows.n ≤ 1048576 ∧ (g3 i).marks.n ≤ 1048576 := hbd.2.2.2.1 i (show i < n3 by omega)
      obtain ⟨b2, hb2⟩ : ∃ b : Bool, (b = true ↔ EmptyP (g3 i)) := ⟨decide (EmptyP (g3 i)), by rw [decide_eq_true_eq]⟩
      have hE : real.bite (real.cmp .neq (g3 i).op.mark 0) true (real.cmp .gtr (real.ar .add .i64 (real.int (g3 i).op.rows.n) (real.int (g3 i).marks.n)) 0) = !b2 := by
        have e : IntKind.i64.wrap (((g3 i).op.rows.n : Int) + ((g3 i).marks.n : Int)) = ((g3 i).op.rows.n : Int) + ((g3 i).marks.n : Int) := IntWalk.i64_in _ (by omega)
        show (bif (g3 i).op.mark != 0 then true else decide (IntKind.i64.wrap (((g3 i).op.rows.n : Int) + ((g3 i).marks.n : Int)) > 0)) = !b2
        rw [e, bifB]
        unfold EmptyP at hb2
        rw [Bool.eq_iff_iff]
        simp only [Bool.or_eq_true, bneI, decide_eq_true_eq, Bool.not_eq_true']
        rw [← Bool.not_eq_true, hb2]
        omega
      have hc : real.bite (real.bite (g2 i) (real.bite (real.bnot opn) true (real.bnot b1)) false) true (real.bite (real.bnot (g2 i)) (real.bite (real.cmp .neq (g3 i).op.mark 0) true (real.cmp .gtr (real.ar .add .i64 (real.int (g3 i).op.rows.n) (real.int (g3 i).marks.n)) 0)) false) = false := hc
      rw [hE] at hc
      rw [tk_of (t := g2 i) (opn := opn) hb1 hb2]
      generalize g2 i = t at hc ⊢
      cases t <;> cases opn <;> cases b1 <;> cases b2 <;> simp [real] at hc ⊢
    refine ⟨⟨i + 1, by omega, fun k hk' => ?_⟩, by simp only; omega, cov_of ?_ ?_ ?_⟩
    · by_cases e : k = i
      · rw [e]; exact hq
      · exact hk k (by omega)
    · cbv
      subst hA
      repeat' first | apply And.intro | exact True.intro | exact congrArg (fun x => DV.v (.int .i64 x)) (up64 hlt' hn2) | rfl | (intro k hk; exact push_at rfl _ _ _ _ k hk)
    · cbv; try (subst hA; repeat' first | apply And.intro | exact True.intro | rfl)
    · cbv
  rename_i hge
  have hall : ∀ k, k < n2 → TkP j opn (g2 k) (g3 k) := fun k hk' => hk k (by subst hA; simp only [real, decide_eq_false_iff_not, Int.ofNat_eq_natCast] at hge; omega)
  clear hk hi hge
  exact congrArg (fun b => XA.one (.c (.d (eB b)))) (hb.2 ⟨hpre.1, hpre.2.1, hpre.2.2.1, hpre.2.2.2.1, hpre.2.2.2.2.1, hpre.2.2.2.2.2.1, hpre.2.2.2.2.2.2, hall1, hall⟩).symm
end Go.Rk
