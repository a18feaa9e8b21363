/- The walk over this seat's functions, part 8: what each of them answers, at all data. -/
import Derived.Test.YtmgeaomdilinnaaGreatM1
import Derived.Test.YtmgeaomdilinnaaGreatM2
import Derived.Test.YtmgeaomdilinnaaGreatM3
import Derived.Test.YtmgeaomdilinnaaGreatM4
import Derived.Test.YtmgeaomdilinnaaGreatM5
import Derived.Test.YtmgeaomdilinnaaGreatM6
import Derived.Test.YtmgeaomdilinnaaGreatM7
import Derived.Test.YtmgeaomdilinnaaGreatRows
import Derived.WalkKit
import Derived.ProofKit
import Derived.OpenShut
import Derived.ShutString
import Derived.ChangeOld
import Derived.SizedLaws
import Derived.DataShut
/- Tasks: ok. -/
namespace Go.Rk
set_option linter.unusedSimpArgs false
set_option linter.unusedVariables false
open Go.Proofs
def st_l8In (j : JobT) (n : Nat) (g : Nat → ItmT) (mark : Int) (held : Bool) (i : Nat) : St := ⟨[(5, .c (.d (eI i))), (2, .c (.bp 128 1 0)), (3, .c (.bp 192 1 0))], [(128, 1, .box ((eJob j).map .d)), (192, 1, .box ([.sl 5 n fun i => eItm (g i), eI mark, eB held].map .d))]⟩
open Classical in
set_option maxRecDepth 100000 in
theorem c_l8In (j : JobT) (c : TskInT) : ∃ b, (b = true ↔ InOkP j c) ∧ Meets Tryz.prog 88 [xd (eJob j), xd (eTskIn c)] ⟨.one (.c (.d (eB b))), [none, none]⟩ := by
  obtain ⟨b, hb⟩ : ∃ b : Bool, (b = true ↔ InOkP j c) := ⟨decide (InOkP j c), by rw [decide_eq_true_eq]⟩
  refine ⟨b, hb, ?_⟩
  obtain ⟨⟨n, g, hn⟩, mark, held⟩ := c
  show Meets _ _ [xd (eJob j), xd [.sl 5 n fun i => eItm (g i), eI mark, eB held]] _
  refine meets_of (H := []) (EX := EXA) ttok mixed Tryz.func88 rfl (by kernel_rfl) (by decide) ?_
  generalize hA : real = A
  generalize hM : MeetsB Tryz.prog = M
  cbv
  repeat' first
    | apply And.intro
    | exact True.intro
    | with_reducible rfl
    | exact same_of hA rfl
    | refine br_of hA (fun _ => ?_) (fun _ => ?_)
    | exact imp_of hA id
    | (refine imp_of hA ?_; subst hA; simp only [real, Bool.true_and]; exact id)
    | (refine ind_of hA ?_; decide +kernel)
    | (refine call_ex hA hM (c_l1In _ _ _) (fun _ _ => ?_); cbv)
    | fail
  · rename_i hbad
    subst hA; subst_vars
    refine congrArg (fun b => XA.one (.c (.d (eB b)))) ?_
    simp only [real, bifA, bifB, bifC, bifD, beqB, decide_eq_true_eq, decide_eq_false_iff_not, beqI, bneI, beqIF, bneIF, ne_eq, Bool.and_eq_true, Bool.or_eq_true, Bool.not_eq_true', Bool.not_eq_false', Bool.and_eq_false_iff, Bool.or_eq_false_iff, Bool.false_eq_true, and_false, false_and, or_false, false_or, and_true, true_and, not_true_eq_false, not_false_eq_true, true_iff, false_iff, Int.ofNat_eq_natCast, Int.toNat_natCast] at hbad
    have hbad : (n : Int) > j.room ∨ ¬ (0 ≤ mark ∧ mark ≤ 1000) := hbad
    cases b with
    | false => rfl
    | true =>
      exfalso
      have h := hb.1 rfl
      obtain ⟨h1, h2, h3⟩ := h
      simp only at h1 h2
      omega
  rename_i hgood
  have hpre : (n : Int) ≤ j.room ∧ (0 ≤ mark ∧ mark ≤ 1000) := by
    subst hA; subst_vars
    simp only [real, bifA, bifB, bifC, bifD, beqB, decide_eq_true_eq, decide_eq_false_iff_not, beqI, bneI, beqIF, bneIF, ne_eq, Bool.and_eq_true, Bool.or_eq_true, Bool.not_eq_true', Bool.not_eq_false', Bool.and_eq_false_iff, Bool.or_eq_false_iff, Bool.false_eq_true, and_false, false_and, or_false, false_or, and_true, true_and, not_true_eq_false, not_false_eq_true, true_iff, false_iff, Int.ofNat_eq_natCast, Int.toNat_natCast] at hgood
    have hgood : ¬ (n : Int) > j.room ∧ (0 ≤ mark ∧ mark ≤ 1000) := hgood
    omega
  clear hgood
  refine loop_of hA (α := { i : Nat // i ≤ n ∧ ∀ k, k < i → ItmOkP (g k) }) (fun x => st_l8In j n g mark held x.1) (fun x => n - x.1) ⟨0, Nat.zero_le _, fun k h => absurd h (Nat.not_lt_zero k)⟩ ?_ ?_
  · refine cov_of ?_ ?_ ?_
    · cbv; try (subst hA; repeat' first | apply And.intro | exact True.intro | rfl)
    · cbv; try (subst hA; repeat' first | apply And.intro | exact True.intro | rfl)
    · cbv
  rintro ⟨i, hi, hk⟩
  cbv
  repeat' first
    | apply And.intro
    | exact True.intro
    | with_reducible rfl
    | exact same_of hA rfl
    | refine br_of hA (fun _ => ?_) (fun _ => ?_)
    | exact imp_of hA id
    | (refine imp_of hA ?_; subst hA; simp only [real, Bool.true_and]; exact id)
    | (refine ind_of hA ?_; decide +kernel)
    | (refine call_ex hA hM (c_sItmOkP _) (fun _ _ => ?_); cbv)
    | (refine inb_of hA fun _ => ?_; subst hA; simp only [real, Bool.and_eq_true, Bool.not_eq_true', Bool.not_eq_false', decide_eq_true_eq, Int.ofNat_eq_natCast, IntKind.wrap_i64] at *; omega)
    | fail
  · rename_i hlt bq hbq hc
    have hlt' : i < n := by subst hA; simp only [real, decide_eq_true_eq, Int.ofNat_eq_natCast] at hlt; omega
    have hq : ¬ (ItmOkP (g i)) := by
      subst hA
      simp only [real, Bool.not_eq_true'] at hc
      intro h
      have := hbq.2 h
      rw [hc] at this
      cases this
    refine congrArg (fun b => XA.one (.c (.d (eB b)))) ?_
    cases b with
    | false => rfl
    | true =>
      exfalso
      exact hq ((hb.1 rfl).2.2 i hlt')
  · rename_i hlt bq hbq hc
    have hlt' : i < n := by subst hA; simp only [real, decide_eq_true_eq, Int.ofNat_eq_natCast] at hlt; omega
    have hq : ItmOkP (g i) := by
      subst hA
      simp only [real, Bool.not_eq_false'] at hc
      exact hbq.1 hc
    refine ⟨⟨i + 1, by omega, fun k hk' => ?_⟩, by simp only; omega, cov_of ?_ ?_ ?_⟩
    · by_cases e : k = i
      · rw [e]; exact hq
      · exact hk k (by omega)
    · cbv
      subst hA
      repeat' first | apply And.intro | exact True.intro | exact congrArg (fun x => DV.v (.int .i64 x)) (up64 hlt' hn) | rfl | (intro k hk; exact push_at rfl _ _ _ _ k hk)
    · cbv; try (subst hA; repeat' first | apply And.intro | exact True.intro | rfl)
    · cbv
  rename_i hge
  have hall : ∀ k, k < n → ItmOkP (g k) := fun k hk' => hk k (by subst hA; simp only [real, decide_eq_false_iff_not, Int.ofNat_eq_natCast] at hge; omega)
  clear hk hi hge
  exact congrArg (fun b => XA.one (.c (.d (eB b)))) (hb.2 ⟨hpre.1, hpre.2, hall⟩).symm
def st_l8T0 (m : Int) (n : Nat) (g : Nat → PaneT) (n2 : Nat) (g2 : Nat → LatT) (i : Nat) : St := ⟨[(3, .c (.d (eI i))), (1, .c (.bp 64 1 0))], [(64, 1, .box ([eI m, .sl 9 n fun i => ePane (g i), .sl 7 n2 fun i => eLat (g2 i)].map .d))]⟩
def st_l8T1 (m : Int) (n : Nat) (g : Nat → PaneT) (n2 : Nat) (g2 : Nat → LatT) (i : Nat) : St := ⟨[(4, .c (.d (eI i))), (1, .c (.bp 64 1 0))], [(64, 1, .box ([eI m, .sl 9 n fun i => ePane (g i), .sl 7 n2 fun i => eLat (g2 i)].map .d))]⟩
open Classical in
set_option maxRecDepth 100000 in
theorem c_l8Txn (x : TxnT) : ∃ b, (b = true ↔ TxnOkP x) ∧ Meets Tryz.prog 87 [xd (eTxn x)] ⟨.one (.c (.d (eB b))), [none]⟩ := by
  obtain ⟨b, hb⟩ : ∃ b : Bool, (b = true ↔ TxnOkP x) := ⟨decide (TxnOkP x), by rw [decide_eq_true_eq]⟩
  refine ⟨b, hb, ?_⟩
  obtain ⟨m, ⟨n, g, hn⟩, ⟨n2, g2, hn2⟩⟩ := x
  show Meets _ _ [xd [eI m, .sl 9 n fun i => ePane (g i), .sl 7 n2 fun i => eLat (g2 i)]] _
  refine meets_of (H := []) (EX := EXA) ttok mixed Tryz.func87 rfl (by kernel_rfl) (by decide) ?_
  generalize hA : real = A
  generalize hM : MeetsB Tryz.prog = M
  cbv
  repeat' first
    | apply And.intro
    | exact True.intro
    | with_reducible rfl
    | exact same_of hA rfl
    | refine br_of hA (fun _ => ?_) (fun _ => ?_)
    | exact imp_of hA id
    | (refine imp_of hA ?_; subst hA; simp only [real, Bool.true_and]; exact id)
    | (refine ind_of hA ?_; decide +kernel)
    | (refine call_ex hA hM (c_l1In _ _ _) (fun _ _ => ?_); cbv)
    | fail
  · rename_i hbad
    subst hA; subst_vars
    refine congrArg (fun b => XA.one (.c (.d (eB b)))) ?_
    simp only [real, bifA, bifB, bifC, bifD, beqB, decide_eq_true_eq, decide_eq_false_iff_not, beqI, bneI, beqIF, bneIF, ne_eq, Bool.and_eq_true, Bool.or_eq_true, Bool.not_eq_true', Bool.not_eq_false', Bool.and_eq_false_iff, Bool.or_eq_false_iff, Bool.false_eq_true, and_false, false_and, or_false, false_or, and_true, true_and, not_true_eq_false, not_false_eq_true, true_iff, false_iff, Int.ofNat_eq_natCast, Int.toNat_natCast] at hbad
    have hbad : (¬ (0 ≤ m ∧ m ≤ 900) ∨ (n : Int) > 1500) ∨ (n2 : Int) > 1500 := hbad
    cases b with
    | false => rfl
    | true =>
      exfalso
      have h := hb.1 rfl
      obtain ⟨h1, h2, h3, h4⟩ := h
      simp only at h1 h2 h3
      omega
  rename_i hgood
  have hpre : (0 ≤ m ∧ m ≤ 900) ∧ (n : Int) ≤ 1500 ∧ (n2 : Int) ≤ 1500 := by
    subst hA; subst_vars
    simp only [real, bifA, bifB, bifC, bifD, beqB, decide_eq_true_eq, decide_eq_false_iff_not, beqI, bneI, beqIF, bneIF, ne_eq, Bool.and_eq_true, Bool.or_eq_true, Bool.not_eq_true', Bool.not_eq_false', Bool.and_eq_false_iff, Bool.or_eq_false_iff, Bool.false_eq_true, and_false, false_and, or_false, false_or, and_true, true_and, not_true_eq_false, not_false_eq_true, true_iff, false_iff, Int.ofNat_eq_natCast, Int.toNat_natCast] at hgood
    omega
  clear hgood
  refine loop_of hA (α := { i : Nat // i ≤ n ∧ ∀ k, k < i → PaneOkP (g k) }) (fun x => st_l8T0 m n g n2 g2 x.1) (fun x => n - x.1) ⟨0, Nat.zero_le _, fun k h => absurd h (Nat.not_lt_zero k)⟩ ?_ ?_
  · refine cov_of ?_ ?_ ?_
    · cbv; try (subst hA; repeat' first | apply And.intro | exact True.intro | rfl)
    · cbv; try (subst hA; repeat' first | apply And.intro | exact True.intro | rfl)
    · cbv
  rintro ⟨i, hi, hk⟩
  cbv
  repeat' first
    | apply And.intro
    | exact True.intro
    | with_reducible rfl
    | exact same_of hA rfl
    | refine br_of hA (fun _ => ?_) (fun _ => ?_)
    | exact imp_of hA id
    | (refine imp_of hA ?_; subst hA; simp only [real, Bool.true_and]; exact id)
    | (refine ind_of hA ?_; decide +kernel)
    | (refine call_ex hA hM (c_sPanOk _) (fun _ _ => ?_); cbv)
    | (refine inb_of hA fun _ => ?_; subst hA; simp only [real, Bool.and_eq_true, Bool.not_eq_true', Bool.not_eq_false', decide_eq_true_eq, Int.ofNat_eq_natCast, IntKind.wrap_i64] at *; omega)
    | fail
  · rename_i hlt bq hbq hc
    have hlt' : i < n := by subst hA; simp only [real, decide_eq_true_eq, Int.ofNat_eq_natCast] at hlt; omega
    have hq : ¬ (PaneOkP (g i)) := by
      subst hA
      simp only [real, Bool.not_eq_true'] at hc
      intro h
      have := hbq.2 h
      rw [hc] at this
      cases this
    refine congrArg (fun b => XA.one (.c (.d (eB b)))) ?_
    cases b with
    | false => rfl
    | true =>
      exfalso
      exact hq ((hb.1 rfl).2.2.2.1 i hlt')
  · rename_i hlt bq hbq hc
    have hlt' : i < n := by subst hA; simp only [real, decide_eq_true_eq, Int.ofNat_eq_natCast] at hlt; omega
    have hq : PaneOkP (g i) := by
      subst hA
      simp only [real, Bool.not_eq_false'] at hc
      exact hbq.1 hc
    refine ⟨⟨i + 1, by omega, fun k hk' => ?_⟩, by simp only; omega, cov_of ?_ ?_ ?_⟩
    · by_cases e : k = i
      · rw [e]; exact hq
      · exact hk k (by omega)
    · cbv
      subst hA
      repeat' first | apply And.intro | exact True.intro | exact congrArg (fun x => DV.v (.int .i64 x)) (up64 hlt' hn) | rfl | (intro k hk; exact push_at rfl _ _ _ _ k hk)
    · cbv; try (subst hA; repeat' first | apply And.intro | exact True.intro | rfl)
    · cbv
  rename_i hge
  have hall : ∀ k, k < n → PaneOkP (g k) := fun k hk' => hk k (by subst hA; simp only [real, decide_eq_false_iff_not, Int.ofNat_eq_natCast] at hge; omega)
  clear hk hi hge
  have hall1 := hall
  clear hall
  refine loop_of hA (α := { i : Nat // i ≤ n2 ∧ ∀ k, k < i → LatOkP (g2 k) }) (fun x => st_l8T1 m n g n2 g2 x.1) (fun x => n2 - x.1) ⟨0, Nat.zero_le _, fun k h => absurd h (Nat.not_lt_zero k)⟩ ?_ ?_
  · refine cov_of ?_ ?_ ?_
    · cbv; try (subst hA; repeat' first | apply And.intro | exact True.intro | rfl)
    · cbv; try (subst hA; repeat' first | apply And.intro | exact True.intro | rfl)
    · cbv
  rintro ⟨i, hi, hk⟩
  cbv
  repeat' first
    | apply And.intro
    | exact True.intro
    | with_reducible rfl
    | exact same_of hA rfl
    | refine br_of hA (fun _ => ?_) (fun _ => ?_)
    | exact imp_of hA id
    | (refine imp_of hA ?_; subst hA; simp only [real, Bool.true_and]; exact id)
    | (refine ind_of hA ?_; decide +kernel)
    | (refine call_ex hA hM (c_sLatOk _) (fun _ _ => ?_); cbv)
    | (refine inb_of hA fun _ => ?_; subst hA; simp only [real, Bool.and_eq_true, Bool.not_eq_true', Bool.not_eq_false', decide_eq_true_eq, Int.ofNat_eq_natCast, IntKind.wrap_i64] at *; omega)
    | fail
  · rename_i hlt bq hbq hc
    have hlt' : i < n2 := by subst hA; simp only [real, decide_eq_true_eq, Int.ofNat_eq_natCast] at hlt; omega
    have hq : ¬ (LatOkP (g2 i)) := by
      subst hA
      simp only [real, Bool.not_eq_true'] at hc
      intro h
      have := hbq.2 h
      rw [hc] at this
      cases this
    refine congrArg (fun b => XA.one (.c (.d (eB b)))) ?_
    cases b with
    | false => rfl
    | true =>
      exfalso
      exact hq ((hb.1 rfl).2.2.2.2 i hlt')
  · rename_i hlt bq hbq hc
    have hlt' : i < n2 := by subst hA; simp only [real, decide_eq_true_eq, Int.ofNat_eq_natCast] at hlt; omega
    have hq : LatOkP (g2 i) := by
      subst hA
      simp only [real, Bool.not_eq_false'] at hc
      exact hbq.1 hc
    refine ⟨⟨i + 1, by omega, fun k hk' => ?_⟩, by simp only; omega, cov_of ?_ ?_ ?_⟩
    · by_cases e : k = i
      · rw [e]; exact hq
      · exact hk k (by omega)
    · cbv
      subst hA
      repeat' first | apply And.intro | exact True.intro | exact congrArg (fun x => DV.v (.int .i64 x)) (up64 hlt' hn2) | rfl | (intro k hk; exact push_at rfl _ _ _ _ k hk)
    · cbv; try (subst hA; repeat' first | apply And.intro | exact True.intro | rfl)
    · cbv
  rename_i hge
  have hall : ∀ k, k < n2 → LatOkP (g2 k) := fun k hk' => hk k (by subst hA; simp only [real, decide_eq_false_iff_not, Int.ofNat_eq_natCast] at hge; omega)
  clear hk hi hge
  exact congrArg (fun b => XA.one (.c (.d (eB b)))) (hb.2 ⟨hpre.1, hpre.2.1, hpre.2.2, hall1, hall⟩).symm
def st_sTskOk (j : JobT) (n : Nat) (g : Nat → TskInT) (hn : n ≤ maxLen) (op : OpStT) (wall : Int) (pend : TxnT) (i : Nat) : St := ⟨[(5, .c (.d (eI i))), (2, .c (.bp 128 1 0)), (3, .c (.bp 192 1 0))], [(128, 1, .box ((eJob j).map .d)), (192, 1, .box ((eTsk ⟨⟨n, g, hn⟩, op, wall, pend⟩).map .d))]⟩
open Classical in
set_option maxRecDepth 100000 in
theorem c_sTskOk (j : JobT) (t : TskT) : ∃ b, (b = true ↔ TskOkP j t) ∧ Meets Tryz.prog 30 [xd (eJob j), xd (eTsk t)] ⟨.one (.c (.d (eB b))), [none, none]⟩ := by
  obtain ⟨b, hb⟩ : ∃ b : Bool, (b = true ↔ TskOkP j t) := ⟨decide (TskOkP j t), by rw [decide_eq_true_eq]⟩
  refine ⟨b, hb, ?_⟩
  obtain ⟨x, hx⟩ := lowP_ex 1000 t.ins.n (fun i => (t.ins.g i).mark)
  have hlow := c_sTskLow t x hx
  obtain ⟨c, hc, hheld⟩ := c_sTskHeld t
  obtain ⟨⟨n, g, hn⟩, op, wall, pend⟩ := t
  have hx : LowP 1000 n (fun i => (g i).mark) x := hx
  have hc : c = ((cntB (fun i => (g i).held) n : Nat) : Int) := hc
  refine meets_of (H := []) (EX := EXA) ttok mixed Tryz.func30 rfl (by kernel_rfl) (by decide) ?_
  generalize hA : real = A
  generalize hM : MeetsB Tryz.prog = M
  cbv
  repeat' first
    | apply And.intro
    | exact True.intro
    | with_reducible rfl
    | exact same_of hA rfl
    | refine br_of hA (fun _ => ?_) (fun _ => ?_)
    | exact imp_of hA id
    | (refine imp_of hA ?_; subst hA; simp only [real, Bool.true_and]; exact id)
    | (refine ind_of hA ?_; decide +kernel)
    | (refine call_ex hA hM (c_l1In _ _ _) (fun _ _ => ?_); cbv)
    | (refine call_ex hA hM (c_l8Txn pend) (fun _ _ => ?_); cbv)
    | (refine call_ex hA hM (c_sOpOk j op) (fun _ _ => ?_); cbv)
    | fail
  · rename_i b1 hb1 b2 hb2 b3 hb3 hbad
    subst hA; subst hb2
    refine congrArg (fun b => XA.one (.c (.d (eB b)))) ?_
    simp only [real, bifA, bifB, bifC, bifD, beqB, decide_eq_true_eq, decide_eq_false_iff_not, beqI, bneI, beqIF, bneIF, ne_eq, Classical.not_not, Bool.and_eq_true, Bool.or_eq_true, Bool.not_eq_true', Bool.not_eq_false', Bool.and_eq_false_iff, Bool.or_eq_false_iff, Bool.false_eq_true, and_false, false_and, or_false, false_or, and_true, true_and, not_true_eq_false, not_false_eq_true, true_iff, false_iff, Int.ofNat_eq_natCast, Int.toNat_natCast] at hbad
    have hbad : (((b1 = false ∨ ¬ (n : Int) = j.srcs) ∨ ¬ (0 ≤ wall ∧ wall ≤ 900)) ∨ b3 = false) ∨ ¬ pend.n = 0 := hbad
    cases b with
    | false => rfl
    | true =>
      exfalso
      obtain ⟨h1, h2, h3, h4, h5, _⟩ := hb.1 rfl
      rw [hb1.2 h1, hb3.2 h4] at hbad
      simp only at h2 h3 h5
      simp only [reduceCtorEq, false_or, or_false] at hbad
      omega
  rename_i b1 hb1 b2 hb2 b3 hb3 hgood
  have hpre : OpOkP j op ∧ (n : Int) = j.srcs ∧ (0 ≤ wall ∧ wall ≤ 900) ∧ TxnOkP pend ∧ pend.n = 0 := by
    subst hA; subst hb2
    simp only [real, bifA, bifB, bifC, bifD, beqB, decide_eq_true_eq, decide_eq_false_iff_not, beqI, bneI, beqIF, bneIF, ne_eq, Classical.not_not, Bool.and_eq_true, Bool.or_eq_true, Bool.not_eq_true', Bool.not_eq_false', Bool.and_eq_false_iff, Bool.or_eq_false_iff, Bool.false_eq_true, and_false, false_and, or_false, false_or, and_true, true_and, not_true_eq_false, not_false_eq_true, true_iff, false_iff, Int.ofNat_eq_natCast, Int.toNat_natCast] at hgood
    have hgood : (((b1 = true ∧ (n : Int) = j.srcs) ∧ (0 ≤ wall ∧ wall ≤ 900)) ∧ b3 = true) ∧ pend.n = 0 := hgood
    exact ⟨hb1.1 hgood.1.1.1.1, hgood.1.1.1.2, hgood.1.1.2, hb3.1 hgood.1.2, hgood.2⟩
  clear hgood
  refine loop_of hA (α := { i : Nat // i ≤ n ∧ ∀ k, k < i → InOkP j (g k) }) (fun x => st_sTskOk j n g hn op wall pend x.1) (fun x => n - x.1) ⟨0, Nat.zero_le _, fun k h => absurd h (Nat.not_lt_zero k)⟩ ?_ ?_
  · refine cov_of ?_ ?_ ?_
    · cbv; try (subst hA; repeat' first | apply And.intro | exact True.intro | rfl)
    · cbv; try (subst hA; repeat' first | apply And.intro | exact True.intro | rfl)
    · cbv
  rintro ⟨i, hi, hk⟩
  cbv
  repeat' first
    | apply And.intro
    | exact True.intro
    | with_reducible rfl
    | exact same_of hA rfl
    | refine br_of hA (fun _ => ?_) (fun _ => ?_)
    | exact imp_of hA id
    | (refine imp_of hA ?_; subst hA; simp only [real, Bool.true_and]; exact id)
    | (refine ind_of hA ?_; decide +kernel)
    | (refine call_ex hA hM (c_l8In j (g (A.nat (Int.ofNat i)))) (fun _ _ => ?_); cbv)
    | (refine inb_of hA fun _ => ?_; subst hA; simp only [real, Bool.and_eq_true, Bool.not_eq_true', Bool.not_eq_false', decide_eq_true_eq, Int.ofNat_eq_natCast, IntKind.wrap_i64] at *; omega)
    | fail
  · rename_i hlt bq hbq hc
    have hlt' : i < n := by subst hA; simp only [real, decide_eq_true_eq, Int.ofNat_eq_natCast] at hlt; omega
    have hq : ¬ (InOkP j (g i)) := by
      subst hA
      simp only [real, Bool.not_eq_true'] at hc
      intro h
      have := hbq.2 h
      rw [hc] at this
      cases this
    refine congrArg (fun b => XA.one (.c (.d (eB b)))) ?_
    cases b with
    | false => rfl
    | true =>
      exfalso
      exact hq ((hb.1 rfl).2.2.2.2.2.1 i hlt')
  · rename_i hlt bq hbq hc
    have hlt' : i < n := by subst hA; simp only [real, decide_eq_true_eq, Int.ofNat_eq_natCast] at hlt; omega
    have hq : InOkP j (g i) := by
      subst hA
      simp only [real, Bool.not_eq_false'] at hc
      exact hbq.1 hc
    refine ⟨⟨i + 1, by omega, fun k hk' => ?_⟩, by simp only; omega, cov_of ?_ ?_ ?_⟩
    · by_cases e : k = i
      · rw [e]; exact hq
      · exact hk k (by omega)
    · cbv
      subst hA
      repeat' first | apply And.intro | exact True.intro | exact congrArg (fun x => DV.v (.int .i64 x)) (up64 hlt' hn) | rfl | (intro k hk; exact push_at rfl _ _ _ _ k hk)
    · cbv; try (subst hA; repeat' first | apply And.intro | exact True.intro | rfl)
    · cbv
  rename_i hge
  have hall : ∀ k, k < n → InOkP j (g k) := fun k hk' => hk k (by subst hA; simp only [real, decide_eq_false_iff_not, Int.ofNat_eq_natCast] at hge; omega)
  clear hk hi hge
  repeat' first
    | apply And.intro
    | exact True.intro
    | with_reducible rfl
    | exact same_of hA rfl
    | refine br_of hA (fun _ => ?_) (fun _ => ?_)
    | exact imp_of hA id
    | (refine imp_of hA ?_; subst hA; simp only [real, Bool.true_and]; exact id)
    | (refine ind_of hA ?_; decide +kernel)
    | (refine call_of hA hM _ hheld ?_; cbv)
    | (refine call_of hA hM _ hlow ?_; cbv)
    | fail
  refine congrArg (fun b => XA.one (.c (.d (eB b)))) (Bool.eq_iff_iff.2 ?_)
  rw [hb]
  subst hA
  simp only [real, bifA, bifB, bifC, bifD, beqB, decide_eq_true_eq, decide_eq_false_iff_not, beqI, bneI, beqIF, bneIF, ne_eq, Bool.and_eq_true, Bool.or_eq_true, Bool.not_eq_true', Bool.not_eq_false', Bool.and_eq_false_iff, Bool.or_eq_false_iff, Bool.false_eq_true, and_false, false_and, or_false, false_or, and_true, true_and, not_true_eq_false, not_false_eq_true, true_iff, false_iff, Int.ofNat_eq_natCast, Int.toNat_natCast]
  constructor
  · rintro ⟨h1, h2⟩
    have h1 : c < (n : Int) := h1
    have h2 : op.mark = x := h2
    exact ⟨hpre.1, hpre.2.1, hpre.2.2.1, hpre.2.2.2.1, hpre.2.2.2.2, hall, (show cntB (fun i => (g i).held) n < n by have h9 := h1; rw [hc] at h9; exact Int.ofNat_lt.1 h9), (show LowP 1000 n (fun i => (g i).mark) op.mark by rw [h2]; exact hx)⟩
  · intro h
    have h1 : cntB (fun i => (g i).held) n < n := h.2.2.2.2.2.2.1
    exact ⟨(show c < (n : Int) by rw [hc]; exact Int.ofNat_lt.2 h1), lowP_one h.2.2.2.2.2.2.2 hx⟩
open Classical in
set_option maxRecDepth 100000 in
theorem c_notItm (x : ItmT) : ∃ b, (b = true ↔ ¬ ItmOkP x) ∧ Meets Tryz.prog 154 [xd (eItm x)] ⟨.one (.c (.d (eB b))), [none]⟩ := by
  obtain ⟨b, hb⟩ : ∃ b : Bool, (b = true ↔ ¬ ItmOkP x) := ⟨decide (¬ ItmOkP x), by rw [decide_eq_true_eq]⟩
  refine ⟨b, hb, ?_⟩
  refine meets_of (H := []) (EX := EXA) ttok mixed Tryz.func154 rfl (by kernel_rfl) (by decide) ?_
  generalize hA : real = A
  generalize hM : MeetsB Tryz.prog = M
  cbv
  repeat' first
    | apply And.intro
    | exact True.intro
    | with_reducible rfl
    | exact same_of hA rfl
    | refine br_of hA (fun _ => ?_) (fun _ => ?_)
    | exact imp_of hA id
    | (refine imp_of hA ?_; subst hA; simp only [real, Bool.true_and]; exact id)
    | (refine ind_of hA ?_; decide +kernel)
    | (refine call_ex hA hM (c_ItmOkP x) (fun _ _ => ?_); cbv)
    | fail
  rename_i b1 hb1
  refine congrArg (fun b => XA.one (.c (.d (eB b)))) (Bool.eq_iff_iff.2 ?_)
  subst hA
  rw [hb, ← hb1]
  simp [real]
open Classical in
set_option maxRecDepth 100000 in
theorem c_InOk (j : JobT) (c : TskInT) : ∃ b, (b = true ↔ InOkP j c) ∧ Meets Tryz.prog 100 [xd (eTskIn c), xd (eJob j)] ⟨.one (.c (.d (eB b))), [none, none]⟩ := by
  obtain ⟨b, hb⟩ : ∃ b : Bool, (b = true ↔ InOkP j c) := ⟨decide (InOkP j c), by rw [decide_eq_true_eq]⟩
  refine ⟨b, hb, ?_⟩
  have hcon := c_ContainsItm0 c.queue.n c.queue.hn c.queue.g 154 _ c_notItm
  refine meets_of (H := []) (EX := EXA) ttok mixed Tryz.func100 rfl (by kernel_rfl) (by decide) ?_
  generalize hA : real = A
  generalize hM : MeetsB Tryz.prog = M
  cbv
  repeat' first
    | apply And.intro
    | exact True.intro
    | with_reducible rfl
    | exact same_of hA rfl
    | refine br_of hA (fun _ => ?_) (fun _ => ?_)
    | exact imp_of hA id
    | (refine imp_of hA ?_; subst hA; simp only [real, Bool.true_and]; exact id)
    | (refine ind_of hA ?_; decide +kernel)
    | (refine call_ex hA hM (c_isTime _) (fun _ _ => ?_); cbv)
    | (refine call_ex hA hM hcon (fun _ _ => ?_); cbv)
    | fail
  rename_i b1 hb1 b2 hb2
  refine congrArg (fun b => XA.one (.c (.d (eB b)))) (Bool.eq_iff_iff.2 ?_)
  have e2 := nex hb2
  subst hA; subst hb1
  rw [hb]
  simp only [real, bifA, bifB, bifC, bifD, beqB, decide_eq_true_eq, decide_eq_false_iff_not, beqI, bneI, beqIF, bneIF, ne_eq, Bool.and_eq_true, Bool.or_eq_true, Bool.not_eq_true', Bool.not_eq_false', Bool.and_eq_false_iff, Bool.or_eq_false_iff, Bool.false_eq_true, and_false, false_and, or_false, false_or, and_true, true_and, not_true_eq_false, not_false_eq_true, true_iff, false_iff, Int.ofNat_eq_natCast, Int.toNat_natCast]
  rw [e2]
  exact ⟨fun h => ⟨h.1.1, h.1.2, h.2⟩, fun h => ⟨⟨h.1, h.2.1⟩, h.2.2⟩⟩
open Classical in
set_option maxRecDepth 100000 in
theorem c_notPan (p : PaneT) : ∃ b, (b = true ↔ ¬ PaneOkP p) ∧ Meets Tryz.prog 189 [xd (ePane p)] ⟨.one (.c (.d (eB b))), [none]⟩ := by
  obtain ⟨b, hb⟩ : ∃ b : Bool, (b = true ↔ ¬ PaneOkP p) := ⟨decide (¬ PaneOkP p), by rw [decide_eq_true_eq]⟩
  refine ⟨b, hb, ?_⟩
  refine meets_of (H := []) (EX := EXA) ttok mixed Tryz.func189 rfl (by kernel_rfl) (by decide) ?_
  generalize hA : real = A
  generalize hM : MeetsB Tryz.prog = M
  cbv
  repeat' first
    | apply And.intro
    | exact True.intro
    | with_reducible rfl
    | exact same_of hA rfl
    | refine br_of hA (fun _ => ?_) (fun _ => ?_)
    | exact imp_of hA id
    | (refine imp_of hA ?_; subst hA; simp only [real, Bool.true_and]; exact id)
    | (refine ind_of hA ?_; decide +kernel)
    | (refine call_ex hA hM (c_PanOk p) (fun _ _ => ?_); cbv)
    | fail
  rename_i b1 hb1
  refine congrArg (fun b => XA.one (.c (.d (eB b)))) (Bool.eq_iff_iff.2 ?_)
  subst hA
  rw [hb, ← hb1]
  simp [real]
open Classical in
set_option maxRecDepth 100000 in
theorem c_notLat (l : LatT) : ∃ b, (b = true ↔ ¬ LatOkP l) ∧ Meets Tryz.prog 191 [xd (eLat l)] ⟨.one (.c (.d (eB b))), [none]⟩ := by
  obtain ⟨b, hb⟩ : ∃ b : Bool, (b = true ↔ ¬ LatOkP l) := ⟨decide (¬ LatOkP l), by rw [decide_eq_true_eq]⟩
  refine ⟨b, hb, ?_⟩
  refine meets_of (H := []) (EX := EXA) ttok mixed Tryz.func191 rfl (by kernel_rfl) (by decide) ?_
  generalize hA : real = A
  generalize hM : MeetsB Tryz.prog = M
  cbv
  repeat' first
    | apply And.intro
    | exact True.intro
    | with_reducible rfl
    | exact same_of hA rfl
    | refine br_of hA (fun _ => ?_) (fun _ => ?_)
    | exact imp_of hA id
    | (refine imp_of hA ?_; subst hA; simp only [real, Bool.true_and]; exact id)
    | (refine ind_of hA ?_; decide +kernel)
    | (refine call_ex hA hM (c_LatOk l) (fun _ _ => ?_); cbv)
    | fail
  rename_i b1 hb1
  refine congrArg (fun b => XA.one (.c (.d (eB b)))) (Bool.eq_iff_iff.2 ?_)
  subst hA
  rw [hb, ← hb1]
  simp [real]
open Classical in
set_option maxRecDepth 100000 in
theorem c_told (ps : Sl PaneT) (ls : Sl LatT) (m : Int) : ∃ b, (b = true ↔ ToldP m ps ls) ∧ Meets Tryz.prog 158 [.c (.d (.sl 9 ps.n fun i => ePane (ps.g i))), .c (.d (.sl 7 ls.n fun i => eLat (ls.g i))), .c (.d (eI m))] ⟨.one (.c (.d (eB b))), [none, none, none]⟩ := by
  obtain ⟨b, hb⟩ : ∃ b : Bool, (b = true ↔ ToldP m ps ls) := ⟨decide (ToldP m ps ls), by rw [decide_eq_true_eq]⟩
  refine ⟨b, hb, ?_⟩
  have hcp := c_ContainsPane0 ps.n ps.hn ps.g 189 _ c_notPan
  have hcl := c_ContainsLat0 ls.n ls.hn ls.g 191 _ c_notLat
  refine meets_of (H := []) (EX := EXA) ttok mixed Tryz.func158 rfl (by kernel_rfl) (by decide) ?_
  generalize hA : real = A
  generalize hM : MeetsB Tryz.prog = M
  cbv
  repeat' first
    | apply And.intro
    | exact True.intro
    | with_reducible rfl
    | exact same_of hA rfl
    | refine br_of hA (fun _ => ?_) (fun _ => ?_)
    | exact imp_of hA id
    | (refine imp_of hA ?_; subst hA; simp only [real, Bool.true_and]; exact id)
    | (refine ind_of hA ?_; decide +kernel)
    | (refine call_ex hA hM hcp (fun _ _ => ?_); cbv)
    | (refine call_ex hA hM hcl (fun _ _ => ?_); cbv)
    | fail
  rename_i b1 hb1 b2 hb2
  refine congrArg (fun b => XA.one (.c (.d (eB b)))) (Bool.eq_iff_iff.2 ?_)
  have e1 := nex hb1
  have e2 := nex hb2
  subst hA
  rw [hb]
  simp only [real, bifA, bifB, bifC, bifD, beqB, decide_eq_true_eq, decide_eq_false_iff_not, beqI, bneI, beqIF, bneIF, ne_eq, Bool.and_eq_true, Bool.or_eq_true, Bool.not_eq_true', Bool.not_eq_false', Bool.and_eq_false_iff, Bool.or_eq_false_iff, Bool.false_eq_true, and_false, false_and, or_false, false_or, and_true, true_and, not_true_eq_false, not_false_eq_true, true_iff, false_iff, Int.ofNat_eq_natCast, Int.toNat_natCast]
  rw [e1, e2]
  exact ⟨fun h => ⟨h.1.1.1, h.1.1.2, h.1.2, h.2⟩, fun h => ⟨⟨⟨h.1, h.2.1⟩, h.2.2.1⟩, h.2.2.2⟩⟩
open Classical in
set_option maxRecDepth 100000 in
theorem c_TxnOk (x : TxnT) : ∃ b, (b = true ↔ TxnOkP x) ∧ Meets Tryz.prog 104 [xd (eTxn x)] ⟨.one (.c (.d (eB b))), [none]⟩ := by
  obtain ⟨b, hb⟩ : ∃ b : Bool, (b = true ↔ TxnOkP x) := ⟨decide (TxnOkP x), by rw [decide_eq_true_eq]⟩
  refine ⟨b, hb, ?_⟩
  refine meets_of (H := []) (EX := EXA) ttok mixed Tryz.func104 rfl (by kernel_rfl) (by decide) ?_
  generalize hA : real = A
  generalize hM : MeetsB Tryz.prog = M
  cbv
  repeat' first
    | apply And.intro
    | exact True.intro
    | with_reducible rfl
    | exact same_of hA rfl
    | refine br_of hA (fun _ => ?_) (fun _ => ?_)
    | exact imp_of hA id
    | (refine imp_of hA ?_; subst hA; simp only [real, Bool.true_and]; exact id)
    | (refine ind_of hA ?_; decide +kernel)
    | (refine call_ex hA hM (c_in _ _ _) (fun _ _ => ?_); cbv)
    | (refine call_ex hA hM (c_told x.panes x.lates _) (fun _ _ => ?_); cbv)
    | fail
  rename_i b1 hb1 b2 hb2
  refine congrArg (fun b => XA.one (.c (.d (eB b)))) (Bool.eq_iff_iff.2 ?_)
  subst hA; subst hb1
  rw [hb]
  simp only [real, bifA, bifB, bifC, bifD, beqB, decide_eq_true_eq, decide_eq_false_iff_not, beqI, bneI, beqIF, bneIF, ne_eq, Bool.and_eq_true, Bool.or_eq_true, Bool.not_eq_true', Bool.not_eq_false', Bool.and_eq_false_iff, Bool.or_eq_false_iff, Bool.false_eq_true, and_false, false_and, or_false, false_or, and_true, true_and, not_true_eq_false, not_false_eq_true, true_iff, false_iff, Int.ofNat_eq_natCast, Int.toNat_natCast]
  rw [hb2]
  exact Iff.rfl
open Classical in
set_option maxRecDepth 100000 in
theorem c_notIn (j : JobT) (c : TskInT) : ∃ b, (b = true ↔ ¬ InOkP j c) ∧ Meets Tryz.prog 99 [xd (eTskIn c), .c (.d (.p (eJob j)))] ⟨.one (.c (.d (eB b))), [none, none]⟩ := by
  obtain ⟨b, hb⟩ : ∃ b : Bool, (b = true ↔ ¬ InOkP j c) := ⟨decide (¬ InOkP j c), by rw [decide_eq_true_eq]⟩
  refine ⟨b, hb, ?_⟩
  refine meets_of (H := []) (EX := EXA) ttok mixed Tryz.func99 rfl (by kernel_rfl) (by decide) ?_
  generalize hA : real = A
  generalize hM : MeetsB Tryz.prog = M
  cbv
  repeat' first
    | apply And.intro
    | exact True.intro
    | with_reducible rfl
    | exact same_of hA rfl
    | refine br_of hA (fun _ => ?_) (fun _ => ?_)
    | exact imp_of hA id
    | (refine imp_of hA ?_; subst hA; simp only [real, Bool.true_and]; exact id)
    | (refine ind_of hA ?_; decide +kernel)
    | (refine call_ex hA hM (c_InOk j c) (fun _ _ => ?_); cbv)
    | fail
  rename_i b1 hb1
  refine congrArg (fun b => XA.one (.c (.d (eB b)))) (Bool.eq_iff_iff.2 ?_)
  subst hA
  rw [hb, ← hb1]
  simp [real]
open Classical in
set_option maxRecDepth 100000 in
theorem c_TskOk (j : JobT) (t : TskT) (hbd : t.ins.n ≤ 1048576) : ∃ b, (b = true ↔ TskOkP j t) ∧ Meets Tryz.prog 37 [xd (eJob j), xd (eTsk t)] ⟨.one (.c (.d (eB b))), [none, none]⟩ := by
  obtain ⟨b, hb⟩ : ∃ b : Bool, (b = true ↔ TskOkP j t) := ⟨decide (TskOkP j t), by rw [decide_eq_true_eq]⟩
  refine ⟨b, hb, ?_⟩
  obtain ⟨x, hx⟩ := lowP_ex 1000 t.ins.n (fun i => (t.ins.g i).mark)
  have hlow := c_TskLow t hbd x hx
  obtain ⟨c, hc, hheld⟩ := c_TskHeld t
  have hcon := c_ContainsTskIn1 t.ins.n t.ins.hn t.ins.g 99 (.p (eJob j)) _ (c_notIn j)
  refine meets_of (H := []) (EX := EXA) ttok mixed Tryz.func37 rfl (by kernel_rfl) (by decide) ?_
  generalize hA : real = A
  generalize hM : MeetsB Tryz.prog = M
  cbv
  repeat' first
    | apply And.intro
    | exact True.intro
    | with_reducible rfl
    | exact same_of hA rfl
    | refine br_of hA (fun _ => ?_) (fun _ => ?_)
    | exact imp_of hA id
    | (refine imp_of hA ?_; subst hA; simp only [real, Bool.true_and]; exact id)
    | (refine ind_of hA ?_; decide +kernel)
    | (refine call_of hA hM _ hheld ?_; cbv)
    | (refine call_of hA hM _ hlow ?_; cbv)
    | (refine call_ex hA hM (c_in _ _ _) (fun _ _ => ?_); cbv)
    | (refine call_ex hA hM (c_OpOk j t.op) (fun _ _ => ?_); cbv)
    | (refine call_ex hA hM hcon (fun _ _ => ?_); cbv)
    | (refine call_ex hA hM (c_TxnOk t.pend) (fun _ _ => ?_); cbv)
    | fail
  · rename_i b1 hb1 b2 hb2 hbad
    refine congrArg (fun b => XA.one (.c (.d (eB b)))) ?_
    subst hA
    simp only [real, bifA, bifB, bifC, bifD, beqB, decide_eq_true_eq, decide_eq_false_iff_not, beqI, bneI, beqIF, bneIF, ne_eq, Classical.not_not, Bool.and_eq_true, Bool.or_eq_true, Bool.not_eq_true', Bool.not_eq_false', Bool.and_eq_false_iff, Bool.or_eq_false_iff, Bool.false_eq_true, and_false, false_and, or_false, false_or, and_true, true_and, not_true_eq_false, not_false_eq_true, true_iff, false_iff, Int.ofNat_eq_natCast, Int.toNat_natCast] at hbad
    have hbad : (b1 = false ∨ ¬ (t.ins.n : Int) = j.srcs) ∨ b2 = true := hbad
    cases b with
    | false => rfl
    | true =>
      exfalso
      have h := hb.1 rfl
      rcases hbad with (h1 | h1) | h1
      · have := hb1.2 h.1
        rw [h1] at this; cases this
      · exact h1 h.2.1
      · obtain ⟨i, hi, hh⟩ := hb2.1 h1
        exact hh (h.2.2.2.2.2.1 i hi)
  rename_i b1 hb1 b2 hb2 hgood b3 hb3 b4 hb4
  refine congrArg (fun b => XA.one (.c (.d (eB b)))) (Bool.eq_iff_iff.2 ?_)
  have e2 := nex hb2
  subst hA; subst hb3
  rw [hb]
  simp only [real, bifA, bifB, bifC, bifD, beqB, decide_eq_true_eq, decide_eq_false_iff_not, beqI, bneI, beqIF, bneIF, ne_eq, Classical.not_not, Bool.and_eq_true, Bool.or_eq_true, Bool.not_eq_true', Bool.not_eq_false', Bool.and_eq_false_iff, Bool.or_eq_false_iff, Bool.false_eq_true, and_false, false_and, or_false, false_or, and_true, true_and, not_true_eq_false, not_false_eq_true, true_iff, false_iff, Int.ofNat_eq_natCast, Int.toNat_natCast] at hgood
  have hgood : (b1 = true ∧ (t.ins.n : Int) = j.srcs) ∧ b2 = false := hgood
  simp only [real, bifA, bifB, bifC, bifD, beqB, decide_eq_true_eq, decide_eq_false_iff_not, beqI, bneI, beqIF, bneIF, ne_eq, Bool.and_eq_true, Bool.or_eq_true, Bool.not_eq_true', Bool.not_eq_false', Bool.and_eq_false_iff, Bool.or_eq_false_iff, Bool.false_eq_true, and_false, false_and, or_false, false_or, and_true, true_and, not_true_eq_false, not_false_eq_true, true_iff, false_iff, Int.ofNat_eq_natCast, Int.toNat_natCast]
  rw [hb4]
  constructor
  · rintro ⟨⟨⟨⟨h1, h2⟩, h3⟩, h4⟩, h5⟩
    have h1 : c < (t.ins.n : Int) := h1
    have h3 : t.op.mark = x := h3
    exact ⟨hb1.1 hgood.1.1, hgood.1.2, h2, h5, h4, e2.1 hgood.2, (show cntB (fun i => (t.ins.g i).held) t.ins.n < t.ins.n by have h9 := h1; rw [hc] at h9; exact Int.ofNat_lt.1 h9), (show LowP 1000 t.ins.n (fun i => (t.ins.g i).mark) t.op.mark by rw [h3]; exact hx)⟩
  · intro h
    have h1 : cntB (fun i => (t.ins.g i).held) t.ins.n < t.ins.n := h.2.2.2.2.2.2.1
    exact ⟨⟨⟨⟨(show c < (t.ins.n : Int) by rw [hc]; exact Int.ofNat_lt.2 h1), h.2.2.1⟩, lowP_one h.2.2.2.2.2.2.2 hx⟩, h.2.2.2.2.1⟩, h.2.2.2.1⟩
end Go.Rk
/- Tasks: room. -/
namespace Go.Rk
set_option linter.unusedSimpArgs false
set_option linter.unusedVariables false
open Go.Proofs
open Classical in
set_option maxRecDepth 100000 in
theorem c_has (t : TskT) (c : Int) : ∃ b, (b = true ↔ 0 ≤ c ∧ c < (t.ins.n : Int)) ∧ Meets Tryz.prog 39 [xd (eTsk t), .c (.d (eI c))] ⟨.one (.c (.d (eB b))), [none, none]⟩ := by
  obtain ⟨b, hb⟩ : ∃ b : Bool, (b = true ↔ 0 ≤ c ∧ c < (t.ins.n : Int)) := ⟨decide (0 ≤ c ∧ c < (t.ins.n : Int)), by rw [decide_eq_true_eq]⟩
  refine ⟨b, hb, ?_⟩
  have hn := t.ins.hn
  have hm : maxLen = 9223372036854775807 := by decide
  rw [hm] at hn
  refine meets_of (H := []) (EX := EXA) ttok mixed Tryz.func39 rfl (by kernel_rfl) (by decide) ?_
  generalize hA : real = A
  generalize hM : MeetsB Tryz.prog = M
  cbv
  repeat' first
    | apply And.intro
    | exact True.intro
    | with_reducible rfl
    | exact same_of hA rfl
    | refine br_of hA (fun _ => ?_) (fun _ => ?_)
    | exact imp_of hA id
    | (refine imp_of hA ?_; subst hA; simp only [real, Bool.true_and]; exact id)
    | (refine ind_of hA ?_; decide +kernel)
    | (refine call_ex hA hM (c_in _ _ _) (fun _ _ => ?_); cbv)
    | fail
  rename_i b1 hb1
  refine congrArg (fun b => XA.one (.c (.d (eB b)))) (Bool.eq_iff_iff.2 ?_)
  subst hA; subst hb1
  rw [hb, decide_eq_true_eq]
  have e : IntKind.i64.wrap ((t.ins.n : Int) - 1) = t.ins.n - 1 := IntWalk.i64_in _ (by omega)
  show 0 ≤ c ∧ c ≤ IntKind.i64.wrap ((t.ins.n : Int) - 1) ↔ (0 ≤ c ∧ c < (t.ins.n : Int))
  rw [e]
  exact and_congr Iff.rfl Int.le_sub_one_iff
set_option maxRecDepth 100000 in
theorem c_room (j : JobT) (t : TskT) (c : Int) (h : 0 ≤ c ∧ c < (t.ins.n : Int)) (b : Bool) (hb : b = decide (((t.ins.g c.toNat).queue.n : Int) < j.room)) : Meets Tryz.prog 41 [xd (eTsk t), xd (eJob j), .c (.d (eI c))] ⟨.one (.c (.d (eB b))), [none, none, none]⟩ := by
  refine meets_of (H := []) (EX := EXA) ttok mixed Tryz.func41 rfl (by kernel_rfl) (by decide) ?_
  generalize hA : real = A
  generalize hM : MeetsB Tryz.prog = M
  cbv
  repeat' first
    | apply And.intro
    | exact True.intro
    | with_reducible rfl
    | exact same_of hA rfl
    | refine br_of hA (fun _ => ?_) (fun _ => ?_)
    | exact imp_of hA id
    | (refine imp_of hA ?_; subst hA; simp only [real, Bool.true_and]; exact id)
    | (refine ind_of hA ?_; decide +kernel)
    | (refine inb_of hA fun _ => ?_; exact h)
    | fail
  subst hA
  refine congrArg (fun b => XA.one (.c (.d (eB b)))) ?_
  rw [hb]
  rfl
end Go.Rk
/- Marks of checkpoints and of tasks, as a whole. -/
namespace Go.Rk
set_option linter.unusedSimpArgs false
set_option linter.unusedVariables false
theorem posS_shift (len : Nat → Int) (s t : Int) : ∀ i, posS len (s + t) i = posS len s i + t
  | 0 => rfl
  | i + 1 => by show posS len (s + t) i + len i = posS len s i + len i + t; rw [posS_shift len s t i]; omega
theorem posS_ge {len : Nat → Int} (h : ∀ i, 0 ≤ len i) (s : Int) (i : Nat) : s ≤ posS len s i := posS_mono (len := len) (s := s) (n := i) (fun i _ => h i) (Nat.zero_le i) (Nat.le_refl i)
theorem lenTskIn_pos (x : TskInT) : 0 ≤ lenTskIn x := by unfold lenTskIn; omega
theorem szN_eq {n : Nat} {l : Int} (h : 0 ≤ szN n l) : szN n l = l - n := by
  unfold szN at h ⊢
  split
  · rename_i h1; rw [if_pos h1] at h; omega
  · rfl
theorem szLoop_pos {f : Nat → Int → Int} {len : Nat → Int} {l s : Int} {n : Nat} (hf : ∀ i, i < n → ∀ l, 0 ≤ l → 0 ≤ f i l → len i ≤ 2 + 13 * (l - f i l)) :
    ∀ k, k ≤ n → 0 ≤ szLoop f l k → posS len s k ≤ s + 2 * (k : Int) + 13 * (l - szLoop f l k)
  | 0, _, _ => by show s ≤ s + 2 * 0 + 13 * (l - l); omega
  | k + 1, hk, h => by
    unfold szLoop at h ⊢
    by_cases c : szLoop f l k < 0
    · rw [if_pos c] at h; omega
    · rw [if_neg c] at h ⊢
      have h1 := szLoop_pos (l := l) (s := s) hf k (by omega) (by omega)
      have h2 := hf k (by omega) (szLoop f l k) (by omega) h
      show posS len s k + len k ≤ _
      have : ((k + 1 : Nat) : Int) = (k : Int) + 1 := rfl
      omega
theorem szS_pos {f : Nat → Int → Int} {len : Nat → Int} {l : Int} {n : Nat} (s : Int) (hf : ∀ i, i < n → ∀ l, 0 ≤ l → 0 ≤ f i l → len i ≤ 2 + 13 * (l - f i l)) (h : 0 ≤ szS f n l) : posS len s n ≤ s + 13 * (l - szS f n l) := by
  unfold szS at h ⊢
  by_cases c : szN n l < 0
  · rw [if_pos c] at h; omega
  · rw [if_neg c] at h ⊢
    have h1 := szLoop_pos (s := s) hf n (Nat.le_refl n) h
    have h2 := szN_eq (show 0 ≤ szN n l by omega)
    omega
structure CkpM (s : Int) (x : CkpT) where
  f1 : Nat → Int
  f2 : Nat → Bool
  f3 : Nat → SnapT
  f4 : Nat → Int
  f5 : Nat → SnapT
  p3 : Nat → Int
  p5 : Nat → Int
  k1 : Int
  k2 : Int
  k3 : Int
  k4 : Int
  k5 : Int
  h1 : ∀ i, f1 i = mkint (s + 1 * (i : Int))
  hk1 : k1 = s + 1 * (x.src.n : Int)
  h2 : ∀ i, f2 i = mkbool (k1 + 1 * (i : Int))
  hk2 : k2 = k1 + 1 * (x.tsk.n : Int)
  q0 : p3 0 = k2
  q1 : ∀ i, i < x.snaps.n → p3 (i + 1) = p3 i + lenSnap (x.snaps.g i)
  q2 : ∀ i, i ≤ x.snaps.n → 0 ≤ p3 i ∧ p3 i ≤ 50000000
  hk3 : k3 = p3 x.snaps.n
  h3 : ∀ i, f3 i = mkSnap (p3 i) (x.snaps.g i)
  h4 : ∀ i, f4 i = mkint (k3 + 1 * (i : Int))
  hk4 : k4 = k3 + 1 * (x.safe.at_.n : Int)
  r0 : p5 0 = k4
  r1 : ∀ i, i < x.safe.snaps.n → p5 (i + 1) = p5 i + lenSnap (x.safe.snaps.g i)
  r2 : ∀ i, i ≤ x.safe.snaps.n → 0 ≤ p5 i ∧ p5 i ≤ 50000000
  hk5 : k5 = p5 x.safe.snaps.n
  h5 : ∀ i, f5 i = mkSnap (p5 i) (x.safe.snaps.g i)
  b0 : 0 ≤ s ∧ s ≤ 50000000
  b1 : 0 ≤ k1 ∧ k1 ≤ 50000000
  b2 : 0 ≤ k2 ∧ k2 ≤ 50000000
  b3 : 0 ≤ k3 ∧ k3 ≤ 50000000
  b4 : 0 ≤ k4 ∧ k4 ≤ 50000000
  b5 : 0 ≤ k5 ∧ k5 ≤ 50000000
def CkpM.out {s : Int} {x : CkpT} (M : CkpM s x) : CkpT := ⟨x.n, x.opn, ⟨x.src.n, M.f1, x.src.hn⟩, ⟨x.tsk.n, M.f2, x.tsk.hn⟩, ⟨x.snaps.n, M.f3, x.snaps.hn⟩, ⟨x.safe.n, ⟨x.safe.at_.n, M.f4, x.safe.at_.hn⟩, ⟨x.safe.snaps.n, M.f5, x.safe.snaps.hn⟩⟩⟩
end Go.Rk
/- Marks of nests: mtsk. -/
namespace Go.Rk
set_option linter.unusedSimpArgs false
set_option linter.unusedVariables false
open Go.Proofs
set_option maxRecDepth 100000
set_option maxHeartbeats 2000000
def st_mTskIn (n i : Nat) (k : Int) (R : Nat → List DV) : St := ⟨[(5, .c (.d (eI i))), (1, .c (.d (eI k))), (0, .c (.nown 0 n 1))], [(0, 1, .nest 3 n R none)]⟩
def EXMTskIn : FuncId → List Nat × Bool := fun f => bif nbeq f 112 then ([0], false) else ([], false)
theorem marks_TskIn (s : Int) (n : Nat) (hn : n ≤ 1048576) (rd : Nat → TskInT) (hbd : ∀ i, i < n → bdTskIn (rd i)) (pos : Nat → Int) (hp0 : pos 0 = s) (hps : ∀ i, i < n → pos (i + 1) = pos i + lenTskIn (rd i)) (hpb : ∀ i, i ≤ n → 0 ≤ pos i ∧ pos i ≤ 50000000) (x : Int) (hx : x = pos n) (GM : Nat → TskInT) (hGM : ∀ i, GM i = mkTskIn (pos i) (rd i)) :
    Meets Tryz.prog 46 [.c (.nown 3 n fun i => eTskIn (rd i)), .c (.d (eI s))] ⟨.one (.c (.d (eI x))), [some (.nown 3 n fun i => eTskIn (GM i)), none]⟩ := by
  have hn2 : n ≤ maxLen := Nat.le_trans hn (by decide)
  refine meets_of (H := [4, 7, 9]) (EX := EXMTskIn) ttok mixed Tryz.func46 rfl (by kernel_rfl) (by decide) ?_
  generalize hA : real = A
  generalize hM : MeetsB Tryz.prog = M
  cbv
  repeat' first
    | apply And.intro
    | exact True.intro
    | with_reducible rfl
    | exact same_of hA rfl
    | refine br_of hA (fun _ => ?_) (fun _ => ?_)
    | exact imp_of hA id
    | (refine imp_of hA ?_; subst hA; simp only [real, Bool.true_and]; exact id)
    | (refine ind_of hA ?_; decide +kernel)
    | fail
  refine loop_of hA (α := { q : Nat × Int × (Nat → List DV) // q.1 ≤ n ∧ q.2.1 = pos q.1 ∧ (∀ j, j < q.1 → q.2.2 j = eTskIn (GM j)) ∧ ∀ j, q.1 ≤ j → q.2.2 j = eTskIn (rd j) }) (fun y => st_mTskIn n y.1.1 y.1.2.1 y.1.2.2) (fun y => n - y.1.1) ⟨(0, s, fun i => eTskIn (rd i)), Nat.zero_le _, hp0.symm, fun j h => absurd h (Nat.not_lt_zero j), fun _ _ => rfl⟩ ?_ ?_
  · refine cov_of ?_ ?_ ?_
    · (subst hA; repeat' first | exact True.intro | exact rfl |  apply And.intro | (intro _ _; rfl) | (intro _ _ _; rfl) | exact .inr (le_of_nble rfl) | exact .inl rfl | exact .inr (Nat.le_refl _))
    · (subst hA; repeat' first | exact True.intro | exact rfl |  apply And.intro | (intro _ _; rfl) | (intro _ _ _; rfl) | exact .inr (le_of_nble rfl) | exact .inl rfl | exact .inr (Nat.le_refl _))
    · (subst hA; repeat' first | exact True.intro | exact rfl |  apply And.intro | (intro _ _; rfl) | (intro _ _ _; rfl) | exact .inr (le_of_nble rfl) | exact .inl rfl | exact .inr (Nat.le_refl _))
  rintro ⟨⟨i, k, R⟩, hi, hk, hR, hS⟩
  have hi : i ≤ n := hi
  have hk : k = pos i := hk
  have hR : ∀ j, j < i → R j = eTskIn (GM j) := hR
  have hS : ∀ j, i ≤ j → R j = eTskIn (rd j) := hS
  have hkb := hpb i hi
  rw [← hk] at hkb
  cbv
  repeat' first
    | apply And.intro
    | exact True.intro
    | with_reducible rfl
    | exact same_of hA rfl
    | refine br_of hA (fun _ => ?_) (fun _ => ?_)
    | exact imp_of hA id
    | (refine imp_of hA ?_; subst hA; simp only [real, Bool.true_and]; exact id)
    | (refine ind_of hA ?_; decide +kernel)
    | fail
  · rename_i hlt
    have hlt' : i < n := by subst hA; simp only [real, decide_eq_true_eq, Int.ofNat_eq_natCast] at hlt; omega
    have hb1 : (rd i).queue.n ≤ 1048576 := hbd i hlt'
    have hnext := hps i hlt'
    have hkb2 := hpb (i + 1) hlt'
    have hgm := hGM i
    rw [← hk] at hgm hnext
    have hb3 : (maxLen : Nat) = 9223372036854775807 := by decide
    have hnext : pos (i + 1) = k + (5 * ((rd i).queue.n : Int) + 2) := hnext
    obtain ⟨k1, hk1⟩ : ∃ z : Int, z = k + 5 * ((rd i).queue.n : Int) := ⟨_, rfl⟩
    obtain ⟨k2, hk2⟩ : ∃ z : Int, z = k1 + 1 := ⟨_, rfl⟩
    obtain ⟨k3, hk3⟩ : ∃ z : Int, z = k2 + 1 := ⟨_, rfl⟩
    have w1 : IntKind.i64.wrap (k1 + 1) = k2 := by rw [IntWalk.i64_in _ (by omega)]; omega
    have w2 : IntKind.i64.wrap (k2 + 1) = k3 := by rw [IntWalk.i64_in _ (by omega)]; omega
    obtain ⟨G1, hG1⟩ : ∃ r : Nat → ItmT, r = fun (q : Nat) => mkItm (k + 5 * (q : Int)) := ⟨_, rfl⟩
    have m1 := marks_Itm k (by omega) (rd i).queue.n (by omega) (rd i).queue.g k1 hk1 G1 (fun q => by rw [hG1])
    have hnew : eTskIn (GM i) = [.sl 5 (rd i).queue.n fun q => eItm (G1 q), eI k1, eB (mkbool k2)] := by
      rw [hgm, hG1, hk2, hk1]
      rfl
    refine stop_of hA ⟨[(5, .c (.d (eI i))), (1, .c (.d (eI k))), (0, .c (.nown 0 n 1))], [(0, 1, .nest 3 n R (some (i, [.own 9000 0 (rd i).queue.n 1, .d (eI (rd i).mark), .d (eB (rd i).held)]))), (9000, 1, .arr 5 (rd i).queue.n fun q => eItm ((rd i).queue.g q))]⟩
      (cov_open 0 9000 1 i (fun _ => false) [.sl 5 (rd i).queue.n fun q => eItm ((rd i).queue.g q), eI (rd i).mark, eB (rd i).held] rfl hlt' (hS i (Nat.le_refl _)) ⟨.inr (flatR fun _ => flat_Itm _), trivial, trivial, trivial⟩ rfl (cov_of ?_ ?_ ?_)) ?_
    · (subst hA; repeat' first | exact True.intro | exact rfl |  apply And.intro | (intro _ _; rfl) | (intro _ _ _; rfl) | exact .inr (le_of_nble rfl) | exact .inl rfl | exact .inr (Nat.le_refl _))
    · (subst hA; repeat' first | exact True.intro | exact rfl |  apply And.intro | (intro _ _; rfl) | (intro _ _ _; rfl) | exact .inr (le_of_nble rfl) | exact .inl rfl | exact .inr (Nat.le_refl _))
    · (subst hA; repeat' first | exact True.intro | exact rfl |  apply And.intro | (intro _ _; rfl) | (intro _ _ _; rfl) | exact .inr (le_of_nble rfl) | exact .inl rfl | exact .inr (Nat.le_refl _))
    cbv
    repeat' first
      | apply And.intro
      | exact True.intro
      | with_reducible rfl
      | exact same_of hA rfl
      | refine br_of hA (fun _ => ?_) (fun _ => ?_)
      | exact imp_of hA id
      | (refine imp_of hA ?_; subst hA; simp only [real, Bool.true_and]; exact id)
      | (refine ind_of hA ?_; decide +kernel)
      | (refine inb_of hA fun _ => ?_; subst hA; simp only [real, decide_eq_true_eq, Int.ofNat_eq_natCast] at *; omega)
      | (refine same_of hA ?_; subst hA; rfl)
      | (refine call_of2 hA hM _ m1 (by subst hA; rfl) ?_; cbv)
      | fail
    refine stop_of hA ⟨[(5, .c (.d (eI i))), (1, .c (.d (eI k2))), (0, .c (.nown 0 n 1))], [(0, 1, .nest 3 n R (some (i, [.own 9000 0 (rd i).queue.n 1, .d (eI k1), .d (eB (rd i).held)]))), (9000, 1, .arr 5 (rd i).queue.n fun q => eItm (G1 q))]⟩ (cov_of ?_ ?_ ?_) ?_
    · (subst hA; repeat' first | exact True.intro | exact rfl | exact congrArg (fun x => DV.v (.int .i64 x)) w1 |  apply And.intro | (intro _ _; rfl) | (intro _ _ _; rfl) | exact .inr (le_of_nble rfl) | exact .inl rfl | exact .inr (Nat.le_refl _))
    · (subst hA; repeat' first | exact True.intro | exact rfl | exact congrArg (fun x => DV.v (.int .i64 x)) w1 |  apply And.intro | (intro _ _; rfl) | (intro _ _ _; rfl) | exact .inr (le_of_nble rfl) | exact .inl rfl | exact .inr (Nat.le_refl _))
    · (subst hA; repeat' first | exact True.intro | exact rfl | exact congrArg (fun x => DV.v (.int .i64 x)) w1 |  apply And.intro | (intro _ _; rfl) | (intro _ _ _; rfl) | exact .inr (le_of_nble rfl) | exact .inl rfl | exact .inr (Nat.le_refl _))
    cbv
    repeat' first
      | apply And.intro
      | exact True.intro
      | with_reducible rfl
      | exact same_of hA rfl
      | refine br_of hA (fun _ => ?_) (fun _ => ?_)
      | exact imp_of hA id
      | (refine imp_of hA ?_; subst hA; simp only [real, Bool.true_and]; exact id)
      | (refine ind_of hA ?_; decide +kernel)
      | (refine inb_of hA fun _ => ?_; subst hA; simp only [real, decide_eq_true_eq, Int.ofNat_eq_natCast] at *; omega)
      | (refine same_of hA ?_; subst hA; rfl)
      | (subst hA; exact fun _ => (by decide : (3 : Int) ≠ 0))
      | fail
    refine ⟨⟨(i + 1, k3, fun j => if j = i then [.sl 5 (rd i).queue.n fun q => eItm (G1 q), eI k1, eB (mkbool k2)] else R j), hlt', by (show k3 = pos (i + 1)); omega, fun j hj => ?_, fun j hj => ?_⟩, by simp only; omega,
      cov_close 0 (fun j => if j = i then [.sl 5 (rd i).queue.n fun q => eItm (G1 q), eI k1, eB (mkbool k2)] else R j) [.sl 5 (rd i).queue.n fun q => eItm (G1 q), eI k1, eB (mkbool k2)] [(9000, 1)] rfl ?_ rfl (if_pos rfl) (fun _ _ hq => if_neg hq) (cov_of ?_ ?_ ?_)⟩
    · simp only at hj ⊢
      by_cases e : j = i
      · rw [if_pos e, e, hnew]
      · rw [if_neg e]; exact hR j (by omega)
    · simp only at hj ⊢
      rw [if_neg (by omega)]; exact hS j (by omega)
    · subst hA; exact (close_own rfl (fun _ _ => rfl) (flatR fun _ => flat_Itm _) (close_v (close_v close_end)))
    · (subst hA; repeat' first | exact True.intro | exact rfl | exact congrArg (fun x => DV.v (.int .i64 x)) (up64 hlt' hn2) | exact congrArg (fun x => DV.v (.int .i64 x)) w2 |  apply And.intro | (intro _ _; rfl) | (intro _ _ _; rfl) | exact .inr (le_of_nble rfl) | exact .inl rfl | exact .inr (Nat.le_refl _))
    · (subst hA; repeat' first | exact True.intro | exact rfl | exact congrArg (fun x => DV.v (.int .i64 x)) (up64 hlt' hn2) | exact congrArg (fun x => DV.v (.int .i64 x)) w2 |  apply And.intro | (intro _ _; rfl) | (intro _ _ _; rfl) | exact .inr (le_of_nble rfl) | exact .inl rfl | exact .inr (Nat.le_refl _))
    · (subst hA; repeat' first | exact True.intro | exact rfl | exact congrArg (fun x => DV.v (.int .i64 x)) (up64 hlt' hn2) | exact congrArg (fun x => DV.v (.int .i64 x)) w2 |  apply And.intro | (intro _ _; rfl) | (intro _ _ _; rfl) | exact .inr (le_of_nble rfl) | exact .inl rfl | exact .inr (Nat.le_refl _))
  · rename_i hge
    have hin : i = n := by
      subst hA
      have : ¬ ((i : Int) < (n : Int)) := of_decide_eq_false hge
      omega
    subst hin
    have hkx : k = x := by rw [hk, hx]
    subst hkx
    refine stop_of hA ⟨[(1, .c (.d (eI k)))], [(0, 1, .nest 3 i (fun q => eTskIn (GM q)) none)]⟩ (cov_of ?_ ?_ ?_) ?_
    · cbv
    · cbv
      first
        | exact ⟨fun q hq _ => hR q hq, trivial⟩
        | exact ⟨fun q hq => hR q hq, trivial⟩
    · (subst hA; repeat' first | exact True.intro | exact rfl |  apply And.intro | (intro _ _; rfl) | (intro _ _ _; rfl) | exact .inr (le_of_nble rfl) | exact .inl rfl | exact .inr (Nat.le_refl _))
    · cbv
      repeat' first
        | apply And.intro
        | exact True.intro
        | with_reducible rfl
        | exact same_of hA rfl
        | refine br_of hA (fun _ => ?_) (fun _ => ?_)
        | exact imp_of hA id
        | (refine imp_of hA ?_; subst hA; simp only [real, Bool.true_and]; exact id)
        | (refine ind_of hA ?_; decide +kernel)
        | fail
def st_hTskIn (n : Nat) (GM : Nat → TskInT) (i : Nat) (k : Int) : St := ⟨[(5, .c (.d (eI i))), (1, .c (.d (eI k))), (0, .c (.d (.sl 3 n fun i => eTskIn (GM i))))], []⟩
theorem helds_TskIn (s : Int) (n : Nat) (hn : n ≤ 1048576) (rd : Nat → TskInT) (hbd : ∀ i, i < n → bdTskIn (rd i)) (pos : Nat → Int) (hp0 : pos 0 = s) (hps : ∀ i, i < n → pos (i + 1) = pos i + lenTskIn (rd i)) (hpb : ∀ i, i ≤ n → 0 ≤ pos i ∧ pos i ≤ 50000000) (x : Int) (hx : x = pos n) (GM : Nat → TskInT) (hGM : ∀ i, GM i = mkTskIn (pos i) (rd i)) :
    Meets Tryz.prog 49 [.c (.d (.sl 3 n fun i => eTskIn (GM i))), .c (.d (eI s))] ⟨.one (.c (.d (eI x))), [none, none]⟩ := by
  have hn2 : n ≤ maxLen := Nat.le_trans hn (by decide)
  refine meets_of (H := [4, 10]) (EX := EXA) ttok mixed Tryz.func49 rfl (by kernel_rfl) (by decide) ?_
  generalize hA : real = A
  generalize hM : MeetsB Tryz.prog = M
  cbv
  repeat' first
    | apply And.intro
    | exact True.intro
    | with_reducible rfl
    | exact same_of hA rfl
    | refine br_of hA (fun _ => ?_) (fun _ => ?_)
    | exact imp_of hA id
    | (refine imp_of hA ?_; subst hA; simp only [real, Bool.true_and]; exact id)
    | (refine ind_of hA ?_; decide +kernel)
    | fail
  refine loop_of hA (α := { q : Nat × Int // q.1 ≤ n ∧ q.2 = pos q.1 }) (fun y => st_hTskIn n GM y.1.1 y.1.2) (fun y => n - y.1.1) ⟨(0, s), Nat.zero_le _, hp0.symm⟩ ?_ ?_
  · refine cov_of ?_ ?_ ?_
    · (subst hA; repeat' first | exact True.intro | exact rfl |  apply And.intro | (intro _ _; rfl) | (intro _ _ _; rfl) | exact .inr (le_of_nble rfl) | exact .inl rfl | exact .inr (Nat.le_refl _))
    · (subst hA; repeat' first | exact True.intro | exact rfl |  apply And.intro | (intro _ _; rfl) | (intro _ _ _; rfl) | exact .inr (le_of_nble rfl) | exact .inl rfl | exact .inr (Nat.le_refl _))
    · (subst hA; repeat' first | exact True.intro | exact rfl |  apply And.intro | (intro _ _; rfl) | (intro _ _ _; rfl) | exact .inr (le_of_nble rfl) | exact .inl rfl | exact .inr (Nat.le_refl _))
  rintro ⟨⟨i, k⟩, hi, hk⟩
  have hi : i ≤ n := hi
  have hk : k = pos i := hk
  have hkb := hpb i hi
  have hgm := hGM i
  rw [← hk] at hkb hgm
  have hb3 : (maxLen : Nat) = 9223372036854775807 := by decide
  have hnb : ∀ {A : Ar} (v : Int), 0 ≤ v → real = A → A.cmp .lss v 0 = true → False := fun v hv hA h => by subst hA; exact absurd (of_decide_eq_true h) (Int.not_lt.2 hv)
  have e0 : 5 * ((rd i).queue.n : Int) ≥ 0 := by omega
  obtain ⟨k1, hk1⟩ : ∃ z : Int, z = k + 5 * ((rd i).queue.n : Int) := ⟨_, rfl⟩
  obtain ⟨k2, hk2⟩ : ∃ z : Int, z = k1 + 1 := ⟨_, rfl⟩
  obtain ⟨k3, hk3⟩ : ∃ z : Int, z = k2 + 1 := ⟨_, rfl⟩
  have hp1 : 0 ≤ k1 := by omega
  have en : (GM i).queue.n = (rd i).queue.n := by rw [hgm]; rfl
  have hbad0 : ∀ {A : Ar}, real = A → A.cmp .neq (GM (A.nat (Int.ofNat i))).mark k1 = true → False := fun hA h => by
    subst hA
    have h : ((GM i).mark != k1) = true := h
    rw [hgm, hk1] at h
    simp [mkTskIn] at h
  have hbad1 : ∀ {A : Ar}, real = A → A.bnot (A.beq (GM (A.nat (Int.ofNat i))).held (A.cmp .eql (A.ar .rem .i64 k2 3) 0)) = true → False := fun hA h => by
    subst hA
    have h : (!((GM i).held == mkbool k2)) = true := h
    rw [hgm, hk2, hk1] at h
    simp [mkTskIn] at h
  cbv
  repeat' first
    | exact (hbad0 hA (by assumption)).elim
    | exact (hbad1 hA (by assumption)).elim
    | apply And.intro
    | exact True.intro
    | with_reducible rfl
    | exact same_of hA rfl
    | refine br_of hA (fun _ => ?_) (fun _ => ?_)
    | exact imp_of hA id
    | (refine imp_of hA ?_; subst hA; simp only [real, Bool.true_and]; exact id)
    | (refine ind_of hA ?_; decide +kernel)
    | (refine inb_of hA fun _ => ?_; subst hA; simp only [real, decide_eq_true_eq, Int.ofNat_eq_natCast] at *; omega)
    | fail
  · rename_i hlt
    have hlt' : i < n := by subst hA; simp only [real, decide_eq_true_eq, Int.ofNat_eq_natCast] at hlt; omega
    have hb1 : (rd i).queue.n ≤ 1048576 := hbd i hlt'
    have hnext := hps i hlt'
    have hkb2 := hpb (i + 1) hlt'
    rw [← hk] at hnext
    have hnext : pos (i + 1) = k + (5 * ((rd i).queue.n : Int) + 2) := hnext
    have hk1 : k1 = k + 5 * ((rd i).queue.n : Int) := hk1
    have w1 : IntKind.i64.wrap (k1 + 1) = k2 := by rw [IntWalk.i64_in _ (by omega)]; omega
    have w2 : IntKind.i64.wrap (k2 + 1) = k3 := by rw [IntWalk.i64_in _ (by omega)]; omega
    have m1 := helds_Itm k (by omega) (GM i).queue.n (by rw [en]; omega) k1 (by rw [en]; exact hk1) (GM i).queue.g (fun q => by rw [hgm]; rfl)
    refine stop_of hA ⟨[(5, .c (.d (eI i))), (1, .c (.d (eI k))), (0, .c (.d (.sl 3 n fun i => eTskIn (GM i))))], []⟩ (cov_of ?_ ?_ ?_) ?_
    · (subst hA; repeat' first | exact True.intro | exact rfl |  apply And.intro | (intro _ _; rfl) | (intro _ _ _; rfl) | exact .inr (le_of_nble rfl) | exact .inl rfl | exact .inr (Nat.le_refl _))
    · (subst hA; repeat' first | exact True.intro | exact rfl |  apply And.intro | (intro _ _; rfl) | (intro _ _ _; rfl) | exact .inr (le_of_nble rfl) | exact .inl rfl | exact .inr (Nat.le_refl _))
    · (subst hA; repeat' first | exact True.intro | exact rfl |  apply And.intro | (intro _ _; rfl) | (intro _ _ _; rfl) | exact .inr (le_of_nble rfl) | exact .inl rfl | exact .inr (Nat.le_refl _))
    cbv
    repeat' first
      | exact (hbad0 hA (by assumption)).elim
      | exact (hbad1 hA (by assumption)).elim
      | exact (hnb k1 hp1 hA (by assumption)).elim
      | apply And.intro
      | exact True.intro
      | with_reducible rfl
      | exact same_of hA rfl
      | refine br_of hA (fun _ => ?_) (fun _ => ?_)
      | exact imp_of hA id
      | (refine imp_of hA ?_; subst hA; simp only [real, Bool.true_and]; exact id)
      | (refine ind_of hA ?_; decide +kernel)
      | (refine inb_of hA fun _ => ?_; subst hA; simp only [real, decide_eq_true_eq, Int.ofNat_eq_natCast] at *; omega)
      | (refine call_of2 hA hM _ m1 (by subst hA; rfl) ?_; cbv)
      | fail
    refine stop_of hA ⟨[(5, .c (.d (eI i))), (1, .c (.d (eI k2))), (0, .c (.d (.sl 3 n fun i => eTskIn (GM i))))], []⟩ (cov_of ?_ ?_ ?_) ?_
    · (subst hA; repeat' first | exact True.intro | exact rfl | exact congrArg (fun x => DV.v (.int .i64 x)) w1 |  apply And.intro | (intro _ _; rfl) | (intro _ _ _; rfl) | exact .inr (le_of_nble rfl) | exact .inl rfl | exact .inr (Nat.le_refl _))
    · (subst hA; repeat' first | exact True.intro | exact rfl | exact congrArg (fun x => DV.v (.int .i64 x)) w1 |  apply And.intro | (intro _ _; rfl) | (intro _ _ _; rfl) | exact .inr (le_of_nble rfl) | exact .inl rfl | exact .inr (Nat.le_refl _))
    · (subst hA; repeat' first | exact True.intro | exact rfl | exact congrArg (fun x => DV.v (.int .i64 x)) w1 |  apply And.intro | (intro _ _; rfl) | (intro _ _ _; rfl) | exact .inr (le_of_nble rfl) | exact .inl rfl | exact .inr (Nat.le_refl _))
    cbv
    repeat' first
      | exact (hbad0 hA (by assumption)).elim
      | exact (hbad1 hA (by assumption)).elim
      | exact (hnb k1 hp1 hA (by assumption)).elim
      | apply And.intro
      | exact True.intro
      | with_reducible rfl
      | exact same_of hA rfl
      | refine br_of hA (fun _ => ?_) (fun _ => ?_)
      | exact imp_of hA id
      | (refine imp_of hA ?_; subst hA; simp only [real, Bool.true_and]; exact id)
      | (refine ind_of hA ?_; decide +kernel)
      | (refine inb_of hA fun _ => ?_; subst hA; simp only [real, decide_eq_true_eq, Int.ofNat_eq_natCast] at *; omega)
      | (subst hA; exact fun _ => (by decide : (3 : Int) ≠ 0))
      | fail
    refine ⟨⟨(i + 1, k3), hlt', by (show k3 = pos (i + 1)); omega⟩, by simp only; omega, cov_of ?_ ?_ ?_⟩
    · (subst hA; repeat' first | exact True.intro | exact rfl | exact congrArg (fun x => DV.v (.int .i64 x)) (up64 hlt' hn2) | exact congrArg (fun x => DV.v (.int .i64 x)) w2 |  apply And.intro | (intro _ _; rfl) | (intro _ _ _; rfl) | exact .inr (le_of_nble rfl) | exact .inl rfl | exact .inr (Nat.le_refl _))
    · (subst hA; repeat' first | exact True.intro | exact rfl | exact congrArg (fun x => DV.v (.int .i64 x)) (up64 hlt' hn2) | exact congrArg (fun x => DV.v (.int .i64 x)) w2 |  apply And.intro | (intro _ _; rfl) | (intro _ _ _; rfl) | exact .inr (le_of_nble rfl) | exact .inl rfl | exact .inr (Nat.le_refl _))
    · (subst hA; repeat' first | exact True.intro | exact rfl | exact congrArg (fun x => DV.v (.int .i64 x)) (up64 hlt' hn2) | exact congrArg (fun x => DV.v (.int .i64 x)) w2 |  apply And.intro | (intro _ _; rfl) | (intro _ _ _; rfl) | exact .inr (le_of_nble rfl) | exact .inl rfl | exact .inr (Nat.le_refl _))
  · rename_i hge
    have hin : i = n := by
      subst hA
      have : ¬ ((i : Int) < (n : Int)) := of_decide_eq_false hge
      omega
    subst hin
    exact congrArg (fun x => XA.one (.c (.d (eI x)))) (by rw [hk, hx])
end Go.Rk
/- Marks of tasks, as a whole. -/
namespace Go.Rk
set_option linter.unusedSimpArgs false
set_option linter.unusedVariables false
def lenT (s : Sl TskInT) : Int := posS (fun i => lenTskIn (s.g i)) 0 s.n
theorem lenT_pos (s : Sl TskInT) : 0 ≤ lenT s := posS_ge (fun i => lenTskIn_pos _) 0 _
def totTsk (x : TskT) : Int := lenT x.ins + 13 * (x.op.rows.n : Int) + 9 * (x.pend.panes.n : Int) + 7 * (x.pend.lates.n : Int)
theorem szTskIn_pos (x : TskInT) (l : Int) (h : 0 ≤ szTskIn x l) : lenTskIn x ≤ 2 + 13 * (l - szTskIn x l) := by
  unfold szTskIn at h ⊢
  have h2 := szN_eq h
  unfold lenTskIn
  omega
theorem totTsk_le {x : TskT} (h : 0 ≤ szTsk x 1048576) : totTsk x ≤ 13631488 := by
  unfold szTsk szOpSt szTxn at h
  dsimp only at h
  by_cases c1 : szS (fun i l => szTskIn (x.ins.g i) l) x.ins.n 1048576 < 0
  · rw [if_pos c1] at h; omega
  rw [if_neg c1] at h
  have e1 : posS (fun i => lenTskIn (x.ins.g i)) 0 x.ins.n ≤ 0 + 13 * (1048576 - szS (fun i l => szTskIn (x.ins.g i) l) x.ins.n 1048576) := szS_pos (len := fun i => lenTskIn (x.ins.g i)) 0 (fun i _ l _ h => szTskIn_pos (x.ins.g i) l h) (by omega)
  generalize szS (fun i l => szTskIn (x.ins.g i) l) x.ins.n 1048576 = l1 at *
  by_cases c2 : szN x.op.rows.n l1 < 0
  · rw [if_pos c2] at h; omega
  rw [if_neg c2] at h
  have e2 := szN_eq (show 0 ≤ szN x.op.rows.n l1 by omega)
  generalize szN x.op.rows.n l1 = l2 at *
  by_cases c3 : szN x.pend.panes.n l2 < 0
  · rw [if_pos c3] at h; omega
  rw [if_neg c3] at h
  have e3 := szN_eq (show 0 ≤ szN x.pend.panes.n l2 by omega)
  generalize szN x.pend.panes.n l2 = l3 at *
  have e4 := szN_eq h
  unfold totTsk lenT
  omega
structure TskM (s : Int) (x : TskT) where
  f1 : Nat → TskInT
  f2 : Nat → RowT
  f3 : Nat → PaneT
  f4 : Nat → LatT
  p1 : Nat → Int
  k1 : Int
  k2 : Int
  k3 : Int
  k4 : Int
  q0 : p1 0 = s
  q1 : ∀ i, i < x.ins.n → p1 (i + 1) = p1 i + lenTskIn (x.ins.g i)
  q2 : ∀ i, i ≤ x.ins.n → 0 ≤ p1 i ∧ p1 i ≤ 50000000
  hk1 : k1 = p1 x.ins.n
  h1 : ∀ i, f1 i = mkTskIn (p1 i) (x.ins.g i)
  h2 : ∀ i, f2 i = mkRow (k1 + 13 * (i : Int))
  hk2 : k2 = k1 + 13 * (x.op.rows.n : Int)
  h3 : ∀ i, f3 i = mkPane (k2 + 9 * (i : Int))
  hk3 : k3 = k2 + 9 * (x.pend.panes.n : Int)
  h4 : ∀ i, f4 i = mkLat (k3 + 7 * (i : Int))
  hk4 : k4 = k3 + 7 * (x.pend.lates.n : Int)
  b0 : 0 ≤ s ∧ s ≤ 50000000
  b1 : 0 ≤ k1 ∧ k1 ≤ 50000000
  b2 : 0 ≤ k2 ∧ k2 ≤ 50000000
  b3 : 0 ≤ k3 ∧ k3 ≤ 50000000
  b4 : 0 ≤ k4 ∧ k4 ≤ 50000000
def TskM.out {s : Int} {x : TskT} (M : TskM s x) : TskT := ⟨⟨x.ins.n, M.f1, x.ins.hn⟩, ⟨x.op.mark, ⟨x.op.rows.n, M.f2, x.op.rows.hn⟩⟩, x.wall, ⟨x.pend.n, ⟨x.pend.panes.n, M.f3, x.pend.panes.hn⟩, ⟨x.pend.lates.n, M.f4, x.pend.lates.hn⟩⟩⟩
theorem tskM_ex (s : Int) (x : TskT) (hs : 0 ≤ s ∧ s ≤ 1000) (h : totTsk x ≤ 40000000) : Nonempty (TskM s x) := by
  have n1 := lenT_pos x.ins
  unfold totTsk at h
  have hp : ∀ (z : Sl TskInT) (k : Int), 0 ≤ k → k + lenT z ≤ 50000000 → ∀ i, i ≤ z.n → 0 ≤ posS (fun i => lenTskIn (z.g i)) k i ∧ posS (fun i => lenTskIn (z.g i)) k i ≤ 50000000 := fun z k h0 h1 i hi => by
    have a := posS_ge (len := fun i => lenTskIn (z.g i)) (fun i => lenTskIn_pos _) k i
    have b := posS_mono (len := fun i => lenTskIn (z.g i)) (s := k) (n := z.n) (fun i _ => lenTskIn_pos _) hi (Nat.le_refl _)
    have c := posS_shift (fun i => lenTskIn (z.g i)) 0 k z.n
    rw [Int.zero_add] at c
    unfold lenT at h1
    omega
  have e3 : posS (fun i => lenTskIn (x.ins.g i)) s x.ins.n = lenT x.ins + s := by
    have c := posS_shift (fun i => lenTskIn (x.ins.g i)) 0 s x.ins.n
    rw [Int.zero_add] at c
    exact c
  let k1 : Int := posS (fun i => lenTskIn (x.ins.g i)) s x.ins.n
  let k2 : Int := k1 + 13 * (x.op.rows.n : Int)
  let k3 : Int := k2 + 9 * (x.pend.panes.n : Int)
  have h1 : k1 = lenT x.ins + s := e3
  exact ⟨⟨fun i => mkTskIn (posS (fun i => lenTskIn (x.ins.g i)) s i) (x.ins.g i), fun i => mkRow (k1 + 13 * (i : Int)), fun i => mkPane (k2 + 9 * (i : Int)), fun i => mkLat (k3 + 7 * (i : Int)), posS (fun i => lenTskIn (x.ins.g i)) s, k1, k2, k3, k3 + 7 * (x.pend.lates.n : Int),
    rfl, fun _ _ => rfl, hp _ _ (by omega) (by omega), rfl, fun _ => rfl, fun _ => rfl, rfl, fun _ => rfl, rfl, fun _ => rfl, rfl, by omega, by omega, by omega, by omega, by omega⟩⟩
end Go.Rk
/- Marks of nests: ttsk. -/
namespace Go.Rk
set_option linter.unusedSimpArgs false
set_option linter.unusedVariables false
open Go.Proofs
set_option maxRecDepth 100000
set_option maxHeartbeats 2000000
theorem helds_TOp {s : Int} {x : TskT} (Q : TskM s x) (hb : bdTsk x) : Meets Tryz.prog 50 [.agg [.d (eI x.op.mark), .d (.sl 13 x.op.rows.n fun i => eRow (Q.f2 i))], .c (.d (eI Q.k1))] ⟨.one (.c (.d (eI Q.k2))), [none, none]⟩ := by
  have hnb : ∀ {A : Ar} (v : Int), 0 ≤ v → real = A → A.cmp .lss v 0 = true → False := fun v hv hA h => by subst hA; exact absurd (of_decide_eq_true h) (Int.not_lt.2 hv)
  have c4 := helds_Row Q.k1 ⟨Q.b1.1, by have := Q.b1.2; omega⟩ x.op.rows.n (by have h : x.op.rows.n ≤ 1048576 := hb.2.2.1; omega) Q.k2 Q.hk2 Q.f2 Q.h2
  refine meets_of (H := []) (EX := EXA) ttok mixed Tryz.func50 rfl (by kernel_rfl) (by decide) ?_
  generalize hA : real = A
  generalize hM : MeetsB Tryz.prog = M
  cbv
  repeat' first
    | exact (hnb _ Q.b2.1 hA (by assumption)).elim
    | apply And.intro
    | exact True.intro
    | with_reducible rfl
    | exact same_of hA rfl
    | refine br_of hA (fun _ => ?_) (fun _ => ?_)
    | exact imp_of hA id
    | (refine imp_of hA ?_; subst hA; simp only [real, Bool.true_and]; exact id)
    | (refine ind_of hA ?_; decide +kernel)
    | (refine call_of2 hA hM _ c4 (by subst hA; rfl) ?_; cbv)
    | fail
theorem helds_TTxn {s : Int} {x : TskT} (Q : TskM s x) (hb : bdTsk x) : Meets Tryz.prog 51 [xd (eTxn Q.out.pend), .c (.d (eI Q.k2))] ⟨.one (.c (.d (eI Q.k4))), [none, none]⟩ := by
  have hnb : ∀ {A : Ar} (v : Int), 0 ≤ v → real = A → A.cmp .lss v 0 = true → False := fun v hv hA h => by subst hA; exact absurd (of_decide_eq_true h) (Int.not_lt.2 hv)
  have c4 := helds_Pane Q.k2 ⟨Q.b2.1, by have := Q.b2.2; omega⟩ x.pend.panes.n (by have h : x.pend.panes.n ≤ 1048576 := hb.2.2.2.1; omega) Q.k3 Q.hk3 Q.f3 Q.h3
  have c5 := helds_Lat Q.k3 ⟨Q.b3.1, by have := Q.b3.2; omega⟩ x.pend.lates.n (by have h : x.pend.lates.n ≤ 1048576 := hb.2.2.2.2; omega) Q.k4 Q.hk4 Q.f4 Q.h4
  refine meets_of (H := []) (EX := EXA) ttok mixed Tryz.func51 rfl (by kernel_rfl) (by decide) ?_
  generalize hA : real = A
  generalize hM : MeetsB Tryz.prog = M
  cbv
  repeat' first
    | exact (hnb _ Q.b3.1 hA (by assumption)).elim
    | exact (hnb _ Q.b4.1 hA (by assumption)).elim
    | apply And.intro
    | exact True.intro
    | with_reducible rfl
    | exact same_of hA rfl
    | refine br_of hA (fun _ => ?_) (fun _ => ?_)
    | exact imp_of hA id
    | (refine imp_of hA ?_; subst hA; simp only [real, Bool.true_and]; exact id)
    | (refine ind_of hA ?_; decide +kernel)
    | (refine call_of2 hA hM _ c4 (by subst hA; rfl) ?_; cbv)
    | (refine call_of2 hA hM _ c5 (by subst hA; rfl) ?_; cbv)
    | fail
theorem helds_Tsk {s : Int} {x : TskT} (Q : TskM s x) (hb : bdTsk x) : Meets Tryz.prog 15 [xd (eTsk Q.out), .c (.d (eI s))] ⟨.one (.c (.d (eI Q.k4))), [none, none]⟩ := by
  have hnb : ∀ {A : Ar} (v : Int), 0 ≤ v → real = A → A.cmp .lss v 0 = true → False := fun v hv hA h => by subst hA; exact absurd (of_decide_eq_true h) (Int.not_lt.2 hv)
  have c1 := helds_TskIn s x.ins.n hb.1 x.ins.g hb.2.1 Q.p1 Q.q0 Q.q1 Q.q2 Q.k1 Q.hk1 Q.f1 Q.h1
  have c2 := helds_TOp Q hb
  have c3 := helds_TTxn Q hb
  refine meets_of (H := []) (EX := EXA) ttok mixed Tryz.func15 rfl (by kernel_rfl) (by decide) ?_
  generalize hA : real = A
  generalize hM : MeetsB Tryz.prog = M
  cbv
  repeat' first
    | exact (hnb _ Q.b1.1 hA (by assumption)).elim
    | exact (hnb _ Q.b2.1 hA (by assumption)).elim
    | exact (hnb _ Q.b4.1 hA (by assumption)).elim
    | apply And.intro
    | exact True.intro
    | with_reducible rfl
    | exact same_of hA rfl
    | refine br_of hA (fun _ => ?_) (fun _ => ?_)
    | exact imp_of hA id
    | (refine imp_of hA ?_; subst hA; simp only [real, Bool.true_and]; exact id)
    | (refine ind_of hA ?_; decide +kernel)
    | (refine call_of2 hA hM _ c1 (by subst hA; rfl) ?_; cbv)
    | (refine call_of2 hA hM _ c2 (by subst hA; rfl) ?_; cbv)
    | (refine call_of2 hA hM _ c3 (by subst hA; rfl) ?_; cbv)
    | fail
def EXTOx : FuncId → List Nat × Bool := fun f => bif nbeq f 1 then ([9101], false) else bif nbeq f 113 then ([0], false) else ([], false)
def EXTTx : FuncId → List Nat × Bool := fun f => bif nbeq f 1 then ([9201], false) else bif nbeq f 114 then ([0], false) else bif nbeq f 115 then ([0], false) else ([], false)
def EXTKx : FuncId → List Nat × Bool := fun f => bif nbeq f 1 then ([9001], false) else bif nbeq f 46 then ([0], false) else bif nbeq f 47 then ([99], false) else bif nbeq f 48 then ([99], false) else ([], false)
theorem k_tmarkopx {s : Int} {x : TskT} (Q : TskM s x) (hb : bdTsk x) : MeetsO Tryz.prog 47 [.agg [.d (eI x.op.mark), .own 2370 0 x.op.rows.n 1], .c (.d (eI Q.k1))]
    [(2370, 1, .arr 13 x.op.rows.n fun i => eRow (x.op.rows.g i))] (.c (.d (eI Q.k2))) [(2370, 1, .arr 13 x.op.rows.n fun i => eRow (Q.f2 i)), (9229, 1, .dead)] := by
  refine inl_of (EX := EXTOx) ttok mixed Tryz.func47 rfl (by kernel_rfl) (by decide) (by kernel_rfl) rfl rfl ?_
  have c4 := marks_Row Q.k1 ⟨Q.b1.1, by have := Q.b1.2; omega⟩ x.op.rows.n (by have h : x.op.rows.n ≤ 1048576 := hb.2.2.1; omega) x.op.rows.g Q.k2 Q.hk2 Q.f2 Q.h2
  generalize hA : real = A
  generalize hM : MeetsB Tryz.prog = M9
  cbv
  repeat' first
    | apply And.intro
    | exact True.intro
    | with_reducible rfl
    | exact same_of hA rfl
    | refine br_of hA (fun _ => ?_) (fun _ => ?_)
    | exact imp_of hA id
    | (refine imp_of hA ?_; subst hA; simp only [real, Bool.true_and]; exact id)
    | (refine ind_of hA ?_; decide +kernel)
    | (refine call_of hA hM _ c4 ?_; cbv)
    | (intro _ _; rfl)
    | (intro _ _ _; rfl)
    | fail
theorem k_tmarktx {s : Int} {x : TskT} (Q : TskM s x) (hb : bdTsk x) : MeetsO Tryz.prog 48 [.agg [.d (eI x.pend.n), .own 2373 0 x.pend.panes.n 1, .own 2374 0 x.pend.lates.n 1], .c (.d (eI Q.k2))]
    [(2373, 1, .arr 9 x.pend.panes.n fun i => ePane (x.pend.panes.g i)), (2374, 1, .arr 7 x.pend.lates.n fun i => eLat (x.pend.lates.g i))] (.c (.d (eI Q.k4))) [(2373, 1, .arr 9 x.pend.panes.n fun i => ePane (Q.f3 i)), (2374, 1, .arr 7 x.pend.lates.n fun i => eLat (Q.f4 i)), (9329, 1, .dead)] := by
  refine inl_of (EX := EXTTx) ttok mixed Tryz.func48 rfl (by kernel_rfl) (by decide) (by kernel_rfl) rfl rfl ?_
  have c4 := marks_Pane Q.k2 ⟨Q.b2.1, by have := Q.b2.2; omega⟩ x.pend.panes.n (by have h : x.pend.panes.n ≤ 1048576 := hb.2.2.2.1; omega) x.pend.panes.g Q.k3 Q.hk3 Q.f3 Q.h3
  have c5 := marks_Lat Q.k3 ⟨Q.b3.1, by have := Q.b3.2; omega⟩ x.pend.lates.n (by have h : x.pend.lates.n ≤ 1048576 := hb.2.2.2.2; omega) x.pend.lates.g Q.k4 Q.hk4 Q.f4 Q.h4
  generalize hA : real = A
  generalize hM : MeetsB Tryz.prog = M9
  cbv
  repeat' first
    | apply And.intro
    | exact True.intro
    | with_reducible rfl
    | exact same_of hA rfl
    | refine br_of hA (fun _ => ?_) (fun _ => ?_)
    | exact imp_of hA id
    | (refine imp_of hA ?_; subst hA; simp only [real, Bool.true_and]; exact id)
    | (refine ind_of hA ?_; decide +kernel)
    | (refine call_of hA hM _ c4 ?_; cbv)
    | (refine call_of hA hM _ c5 ?_; cbv)
    | (intro _ _; rfl)
    | (intro _ _ _; rfl)
    | fail
theorem k_tmarkx {s : Int} {x : TskT} (Q : TskM s x) (hb : bdTsk x) : MeetsO Tryz.prog 14 [.agg [.nown 2368 x.ins.n 1, .d (eI x.op.mark), .own 2370 0 x.op.rows.n 1, .d (eI x.wall), .d (eI x.pend.n), .own 2373 0 x.pend.panes.n 1, .own 2374 0 x.pend.lates.n 1], .c (.d (eI s))]
    [(2368, 1, .nest 3 x.ins.n (fun i => eTskIn (x.ins.g i)) none), (2370, 1, .arr 13 x.op.rows.n fun i => eRow (x.op.rows.g i)), (2373, 1, .arr 9 x.pend.panes.n fun i => ePane (x.pend.panes.g i)), (2374, 1, .arr 7 x.pend.lates.n fun i => eLat (x.pend.lates.g i))] (.c (.d (eI Q.k4))) [(2368, 1, .nest 3 x.ins.n (fun i => eTskIn (Q.f1 i)) none), (2370, 1, .arr 13 x.op.rows.n fun i => eRow (Q.f2 i)), (2373, 1, .arr 9 x.pend.panes.n fun i => ePane (Q.f3 i)), (2374, 1, .arr 7 x.pend.lates.n fun i => eLat (Q.f4 i)), (9129, 1, .dead), (9229, 1, .dead), (9329, 1, .dead)] := by
  refine inl_of (EX := EXTKx) ttok mixed Tryz.func14 rfl (by kernel_rfl) (by decide) (by kernel_rfl) rfl rfl ?_
  have c1 := marks_TskIn s x.ins.n hb.1 x.ins.g hb.2.1 Q.p1 Q.q0 Q.q1 Q.q2 Q.k1 Q.hk1 Q.f1 Q.h1
  have c2 := k_tmarkopx Q hb
  have c3 := k_tmarktx Q hb
  generalize hA : real = A
  generalize hM : MeetsB Tryz.prog = M9
  cbv
  repeat' first
    | apply And.intro
    | exact True.intro
    | with_reducible rfl
    | exact same_of hA rfl
    | refine br_of hA (fun _ => ?_) (fun _ => ?_)
    | exact imp_of hA id
    | (refine imp_of hA ?_; subst hA; simp only [real, Bool.true_and]; exact id)
    | (refine ind_of hA ?_; decide +kernel)
    | (refine call_of hA hM _ c1 ?_; cbv)
    | (refine inl_call hA _ _ _ ⟨fun _ => (by rw [← hM]; exact c2), (by cbv; repeat' first | apply And.intro | exact True.intro | rfl | exact .inr trivial | exact .inl trivial), ?_⟩; cbv)
    | (refine inl_call hA _ _ _ ⟨fun _ => (by rw [← hM]; exact c3), (by cbv; repeat' first | apply And.intro | exact True.intro | rfl | exact .inr trivial | exact .inl trivial), ?_⟩; cbv)
    | (intro _ _; rfl)
    | (intro _ _ _; rfl)
    | fail
def EXTOg : FuncId → List Nat × Bool := fun f => bif nbeq f 1 then ([9401], false) else bif nbeq f 113 then ([0], false) else ([], false)
def EXTTg : FuncId → List Nat × Bool := fun f => bif nbeq f 1 then ([9501], false) else bif nbeq f 114 then ([0], false) else bif nbeq f 115 then ([0], false) else ([], false)
def EXTKg : FuncId → List Nat × Bool := fun f => bif nbeq f 1 then ([9301], false) else bif nbeq f 46 then ([0], false) else bif nbeq f 47 then ([99], false) else bif nbeq f 48 then ([99], false) else ([], false)
theorem k_tmarkopg {s : Int} {x : TskT} (Q : TskM s x) (hb : bdTsk x) : MeetsO Tryz.prog 47 [.agg [.d (eI x.op.mark), .own 2882 0 x.op.rows.n 1], .c (.d (eI Q.k1))]
    [(2882, 1, .arr 13 x.op.rows.n fun i => eRow (x.op.rows.g i))] (.c (.d (eI Q.k2))) [(2882, 1, .arr 13 x.op.rows.n fun i => eRow (Q.f2 i)), (9529, 1, .dead)] := by
  refine inl_of (EX := EXTOg) ttok mixed Tryz.func47 rfl (by kernel_rfl) (by decide) (by kernel_rfl) rfl rfl ?_
  have c4 := marks_Row Q.k1 ⟨Q.b1.1, by have := Q.b1.2; omega⟩ x.op.rows.n (by have h : x.op.rows.n ≤ 1048576 := hb.2.2.1; omega) x.op.rows.g Q.k2 Q.hk2 Q.f2 Q.h2
  generalize hA : real = A
  generalize hM : MeetsB Tryz.prog = M9
  cbv
  repeat' first
    | apply And.intro
    | exact True.intro
    | with_reducible rfl
    | exact same_of hA rfl
    | refine br_of hA (fun _ => ?_) (fun _ => ?_)
    | exact imp_of hA id
    | (refine imp_of hA ?_; subst hA; simp only [real, Bool.true_and]; exact id)
    | (refine ind_of hA ?_; decide +kernel)
    | (refine call_of hA hM _ c4 ?_; cbv)
    | (intro _ _; rfl)
    | (intro _ _ _; rfl)
    | fail
theorem k_tmarktg {s : Int} {x : TskT} (Q : TskM s x) (hb : bdTsk x) : MeetsO Tryz.prog 48 [.agg [.d (eI x.pend.n), .own 2885 0 x.pend.panes.n 1, .own 2886 0 x.pend.lates.n 1], .c (.d (eI Q.k2))]
    [(2885, 1, .arr 9 x.pend.panes.n fun i => ePane (x.pend.panes.g i)), (2886, 1, .arr 7 x.pend.lates.n fun i => eLat (x.pend.lates.g i))] (.c (.d (eI Q.k4))) [(2885, 1, .arr 9 x.pend.panes.n fun i => ePane (Q.f3 i)), (2886, 1, .arr 7 x.pend.lates.n fun i => eLat (Q.f4 i)), (9629, 1, .dead)] := by
  refine inl_of (EX := EXTTg) ttok mixed Tryz.func48 rfl (by kernel_rfl) (by decide) (by kernel_rfl) rfl rfl ?_
  have c4 := marks_Pane Q.k2 ⟨Q.b2.1, by have := Q.b2.2; omega⟩ x.pend.panes.n (by have h : x.pend.panes.n ≤ 1048576 := hb.2.2.2.1; omega) x.pend.panes.g Q.k3 Q.hk3 Q.f3 Q.h3
  have c5 := marks_Lat Q.k3 ⟨Q.b3.1, by have := Q.b3.2; omega⟩ x.pend.lates.n (by have h : x.pend.lates.n ≤ 1048576 := hb.2.2.2.2; omega) x.pend.lates.g Q.k4 Q.hk4 Q.f4 Q.h4
  generalize hA : real = A
  generalize hM : MeetsB Tryz.prog = M9
  cbv
  repeat' first
    | apply And.intro
    | exact True.intro
    | with_reducible rfl
    | exact same_of hA rfl
    | refine br_of hA (fun _ => ?_) (fun _ => ?_)
    | exact imp_of hA id
    | (refine imp_of hA ?_; subst hA; simp only [real, Bool.true_and]; exact id)
    | (refine ind_of hA ?_; decide +kernel)
    | (refine call_of hA hM _ c4 ?_; cbv)
    | (refine call_of hA hM _ c5 ?_; cbv)
    | (intro _ _; rfl)
    | (intro _ _ _; rfl)
    | fail
theorem k_tmarkg {s : Int} {x : TskT} (Q : TskM s x) (hb : bdTsk x) : MeetsO Tryz.prog 14 [.agg [.nown 2880 x.ins.n 1, .d (eI x.op.mark), .own 2882 0 x.op.rows.n 1, .d (eI x.wall), .d (eI x.pend.n), .own 2885 0 x.pend.panes.n 1, .own 2886 0 x.pend.lates.n 1], .c (.d (eI s))]
    [(2880, 1, .nest 3 x.ins.n (fun i => eTskIn (x.ins.g i)) none), (2882, 1, .arr 13 x.op.rows.n fun i => eRow (x.op.rows.g i)), (2885, 1, .arr 9 x.pend.panes.n fun i => ePane (x.pend.panes.g i)), (2886, 1, .arr 7 x.pend.lates.n fun i => eLat (x.pend.lates.g i))] (.c (.d (eI Q.k4))) [(2880, 1, .nest 3 x.ins.n (fun i => eTskIn (Q.f1 i)) none), (2882, 1, .arr 13 x.op.rows.n fun i => eRow (Q.f2 i)), (2885, 1, .arr 9 x.pend.panes.n fun i => ePane (Q.f3 i)), (2886, 1, .arr 7 x.pend.lates.n fun i => eLat (Q.f4 i)), (9429, 1, .dead), (9529, 1, .dead), (9629, 1, .dead)] := by
  refine inl_of (EX := EXTKg) ttok mixed Tryz.func14 rfl (by kernel_rfl) (by decide) (by kernel_rfl) rfl rfl ?_
  have c1 := marks_TskIn s x.ins.n hb.1 x.ins.g hb.2.1 Q.p1 Q.q0 Q.q1 Q.q2 Q.k1 Q.hk1 Q.f1 Q.h1
  have c2 := k_tmarkopg Q hb
  have c3 := k_tmarktg Q hb
  generalize hA : real = A
  generalize hM : MeetsB Tryz.prog = M9
  cbv
  repeat' first
    | apply And.intro
    | exact True.intro
    | with_reducible rfl
    | exact same_of hA rfl
    | refine br_of hA (fun _ => ?_) (fun _ => ?_)
    | exact imp_of hA id
    | (refine imp_of hA ?_; subst hA; simp only [real, Bool.true_and]; exact id)
    | (refine ind_of hA ?_; decide +kernel)
    | (refine call_of hA hM _ c1 ?_; cbv)
    | (refine inl_call hA _ _ _ ⟨fun _ => (by rw [← hM]; exact c2), (by cbv; repeat' first | apply And.intro | exact True.intro | rfl | exact .inr trivial | exact .inl trivial), ?_⟩; cbv)
    | (refine inl_call hA _ _ _ ⟨fun _ => (by rw [← hM]; exact c3), (by cbv; repeat' first | apply And.intro | exact True.intro | rfl | exact .inr trivial | exact .inl trivial), ?_⟩; cbv)
    | (intro _ _; rfl)
    | (intro _ _ _; rfl)
    | fail
end Go.Rk
/- Tasks at their beginning, in plain words. -/
namespace Go.Rk
set_option linter.unusedSimpArgs false
set_option linter.unusedVariables false
def zItm : ItmT := ⟨0, 0, 0, 0, 0⟩
/-- A task of an operator and marks. -/
def tskT (s : OpStT) (ms : Sl Int) : TskT := ⟨⟨ms.n, fun i => ⟨⟨0, fun _ => zItm, Nat.zero_le _⟩, ms.g i, false⟩, ms.hn⟩, s, 0, ⟨0, ⟨0, fun _ => zPan, Nat.zero_le _⟩, ⟨0, fun _ => zLat, Nat.zero_le _⟩⟩⟩
def tskZ : TskT := tskT ⟨0, ⟨0, fun _ => zRow, Nat.zero_le _⟩⟩ ⟨0, fun _ => 0, Nat.zero_le _⟩
theorem le_tskZ : ALe (.one (.agg [.d (.v nilS), .d (eI 0), .d (.v nilS), .d (eI 0), .d (eI 0), .d (.v nilS), .d (.v nilS)])) (.one (xd (eTsk tskZ))) :=
  ⟨dle_nil 3 _, DLe.rfl, dle_nil 13 _, DLe.rfl, DLe.rfl, dle_nil 9 _, dle_nil 7 _, trivial⟩
end Go.Rk
/- A new task: how long it is, and its own form. -/
namespace Go.Rk
set_option linter.unusedSimpArgs false
set_option linter.unusedVariables false
theorem lenT_new (s : OpStT) (ms : Sl Int) : lenT (tskT s ms).ins = 2 * (ms.n : Int) := by
  have e : ∀ k : Nat, posS (fun i => lenTskIn ((tskT s ms).ins.g i)) 0 k = 2 * (k : Int) := fun k => by
    induction k with
    | zero => rfl
    | succ k ih =>
      show posS (fun i => lenTskIn ((tskT s ms).ins.g i)) 0 k + (5 * ((0 : Nat) : Int) + 2) = _
      rw [ih]; omega
  exact e _
theorem tskT_bd (s : OpStT) (ms : Sl Int) (hs : bdOpSt s) (hm : ms.n ≤ 1048576) : bdTsk (tskT s ms) ∧ totTsk (tskT s ms) ≤ 40000000 := by
  have hs : s.rows.n ≤ 1048576 := hs
  refine ⟨⟨hm, fun _ _ => Nat.zero_le _, hs, Nat.zero_le _, Nat.zero_le _⟩, ?_⟩
  have := lenT_new s ms
  show lenT (tskT s ms).ins + 13 * (s.rows.n : Int) + 9 * ((0 : Nat) : Int) + 7 * ((0 : Nat) : Int) ≤ _
  omega
theorem own_tskZ : ALe (.one (.agg [.d (.v nilS), .d (eI 0), .d (.v nilS), .d (eI 0), .d (eI 0), .d (.v nilS), .d (.v nilS)]))
    (.one (.agg [.nown 3 tskZ.ins.n fun i => eTskIn (tskZ.ins.g i), .d (eI tskZ.op.mark), .own 13 tskZ.op.rows.n fun i => eRow (tskZ.op.rows.g i), .d (eI tskZ.wall), .d (eI tskZ.pend.n), .own 9 tskZ.pend.panes.n fun i => ePane (tskZ.pend.panes.g i), .own 7 tskZ.pend.lates.n fun i => eLat (tskZ.pend.lates.g i)])) := by
  refine ⟨⟨rfl, rfl⟩, DLe.rfl, ⟨rfl, rfl⟩, DLe.rfl, DLe.rfl, ⟨rfl, rfl⟩, ⟨rfl, rfl⟩, trivial⟩
end Go.Rk
/- What putting a record into a channel comes to, in plain words. -/
namespace Go.Rk
set_option linter.unusedSimpArgs false
set_option linter.unusedVariables false
theorem close_ownE {so : Nat → Nat × HO} {l v sz n n' : Nat} {rw rw' : Nat → List DV} {r : List CV} {s : List DV} {ls : List (Nat × Nat)} (hn : n' = n) (ho : so l = (v, .arr sz n' rw')) (he : ∀ i, i < n → rw' i = rw i) (hf : FlatR n rw) (h : closeOk so r s ls) :
    closeOk so (.own l 0 n' v :: r) (.sl sz n rw :: s) ((l, v) :: ls) := by
  subst hn
  exact close_own ho he hf h
def putI (c : TskInT) (x : ItmT) (h : c.queue.n + 1 ≤ maxLen) : TskInT := ⟨⟨c.queue.n + 1, fun p => if p < c.queue.n then c.queue.g p else x, h⟩, c.mark, c.held⟩
def putT (t : TskT) (k : Nat) (x : ItmT) (h : (t.ins.g k).queue.n + 1 ≤ maxLen) : TskT := ⟨⟨t.ins.n, fun i => if i = k then putI (t.ins.g k) x h else t.ins.g i, t.ins.hn⟩, t.op, t.wall, t.pend⟩
theorem room_small {j : JobT} {t : TskT} (h : TskOkP j t) {k : Nat} (hk : ((t.ins.g k).queue.n : Int) < j.room) : (t.ins.g k).queue.n + 1 ≤ 1000 := by
  have h1 := h.1.1
  unfold JobOkP at h1
  omega
theorem room_max {j : JobT} {t : TskT} (h : TskOkP j t) {k : Nat} (hk : ((t.ins.g k).queue.n : Int) < j.room) : (t.ins.g k).queue.n + 1 ≤ maxLen := Nat.le_trans (room_small h hk) (by decide)
open Classical in
noncomputable def putP (j : JobT) (t : TskT) (c : Int) (x : ItmT) : TskT × Bool :=
  if h : TskOkP j t ∧ ItmOkP x ∧ (0 ≤ c ∧ c < (t.ins.n : Int)) then (if hr : ((t.ins.g c.toNat).queue.n : Int) < j.room then (putT t c.toNat x (room_max h.1 hr), true) else (t, false)) else (tskZ, false)
theorem posS_one {len len' : Nat → Int} {k : Nat} {d : Int} (hk : len' k = len k + d) (ho : ∀ i, i ≠ k → len' i = len i) (s : Int) : ∀ m, posS len' s m = posS len s m + (if k < m then d else 0)
  | 0 => by rw [if_neg (Nat.not_lt_zero k)]; show s = s + 0; omega
  | m + 1 => by
    show posS len' s m + len' m = posS len s m + len m + _
    rw [posS_one hk ho s m]
    by_cases e : m = k
    · subst e
      rw [hk, if_neg (Nat.lt_irrefl m), if_pos (Nat.lt_succ_self m)]; omega
    · rw [ho m e]
      by_cases c : k < m
      · rw [if_pos c, if_pos (by omega)]; omega
      · rw [if_neg c, if_neg (by omega)]; omega
theorem putT_tot (t : TskT) (k : Nat) (x : ItmT) (h : (t.ins.g k).queue.n + 1 ≤ maxLen) : totTsk (putT t k x h) ≤ totTsk t + 5 := by
  have e : lenT (putT t k x h).ins ≤ lenT t.ins + 5 := by
    show posS (fun i => lenTskIn (if i = k then putI (t.ins.g k) x h else t.ins.g i)) 0 t.ins.n ≤ posS (fun i => lenTskIn (t.ins.g i)) 0 t.ins.n + 5
    rw [posS_one (len := fun i => lenTskIn (t.ins.g i)) (len' := fun i => lenTskIn (if i = k then putI (t.ins.g k) x h else t.ins.g i)) (k := k) (d := 5) ?_ ?_ 0 t.ins.n]
    · split <;> omega
    · simp only [if_true]
      show 5 * (((t.ins.g k).queue.n + 1 : Nat) : Int) + 2 = 5 * ((t.ins.g k).queue.n : Int) + 2 + 5
      omega
    · intro i hi
      simp only [if_neg hi]
  show lenT (putT t k x h).ins + 13 * (t.op.rows.n : Int) + 9 * (t.pend.panes.n : Int) + 7 * (t.pend.lates.n : Int) ≤ lenT t.ins + 13 * (t.op.rows.n : Int) + 9 * (t.pend.panes.n : Int) + 7 * (t.pend.lates.n : Int) + 5
  omega
theorem put_bd {j : JobT} {t : TskT} {c : Int} {x : ItmT} {y : TskT × Bool} (hb : bdTsk t) (ht : totTsk t ≤ 13631488) (hy : y = putP j t c x) : bdTsk y.1 ∧ totTsk y.1 ≤ 40000000 := by
  subst hy
  unfold putP
  by_cases h : TskOkP j t ∧ ItmOkP x ∧ (0 ≤ c ∧ c < (t.ins.n : Int))
  · rw [dif_pos h]
    by_cases hr : ((t.ins.g c.toNat).queue.n : Int) < j.room
    · rw [dif_pos hr]
      refine ⟨⟨hb.1, fun i hi => ?_, hb.2.2⟩, by have := putT_tot t c.toNat x (room_max h.1 hr); show totTsk (putT t c.toNat x (room_max h.1 hr)) ≤ _; omega⟩
      show bdTskIn (if i = c.toNat then putI (t.ins.g c.toNat) x _ else t.ins.g i)
      split
      · exact Nat.le_trans (room_small h.1 hr) (by decide)
      · exact hb.2.1 i hi
    · rw [dif_neg hr]; exact ⟨hb, by show totTsk t ≤ _; omega⟩
  · rw [dif_neg h]
    exact tskT_bd _ _ (Nat.zero_le _) (Nat.zero_le _)
theorem room_le {j : JobT} {t : TskT} (h : TskOkP j t) {k : Nat} (hk : k < t.ins.n) : ((t.ins.g k).queue.n : Int) ≤ j.room := (h.2.2.2.2.2.1 k hk).1
end Go.Rk
/- Tasks: copied. -/
namespace Go.Rk
set_option linter.unusedSimpArgs false
set_option linter.unusedVariables false
open Go.Proofs
set_option maxRecDepth 100000
set_option maxHeartbeats 2000000
theorem c_TxnC (x : TxnT) (hb : bdTxn x) : Meets Tryz.prog 106 [xd (eTxn x)] ⟨.one (.agg [.d (eI x.n), .own 9 x.panes.n fun i => ePane (x.panes.g i), .own 7 x.lates.n fun i => eLat (x.lates.g i)]), [none]⟩ := by
  have hb1 : x.panes.n ≤ 1048576 := hb.1
  have hb2 : x.lates.n ≤ 1048576 := hb.2
  refine meets_of (H := []) (EX := EXA) ttok mixed Tryz.func106 rfl (by kernel_rfl) (by decide) ?_
  generalize hA : real = A
  generalize hM : MeetsB Tryz.prog = M
  cbv
  repeat' first
    | apply And.intro
    | exact True.intro
    | with_reducible rfl
    | exact same_of hA rfl
    | refine br_of hA (fun _ => ?_) (fun _ => ?_)
    | exact imp_of hA id
    | (refine imp_of hA ?_; subst hA; simp only [real, Bool.true_and]; exact id)
    | (refine ind_of hA ?_; decide +kernel)
    | (refine call_of hA hM _ (c_ClonePane x.panes.n (Nat.le_trans hb1 (by decide)) x.panes.g) ?_; cbv)
    | (refine call_of hA hM _ (c_CloneLat x.lates.n (Nat.le_trans hb2 (by decide)) x.lates.g) ?_; cbv)
    | fail
def st_tc (t : TskT) (i : Nat) : St := ⟨[(18, .c (.d (eI i))), (17, .c (.d (eI t.ins.n))), (16, .c (.d (.sl 3 t.ins.n fun i => eTskIn (t.ins.g i)))), (3, .c (.bp 192 1 0)), (2, .c (.bp 128 1 0))], [(192, 1, .box [.nown 8000 i 1, .d (eI t.op.mark), .own 513 0 t.op.rows.n 1, .d (eI t.wall), .d (eI t.pend.n), .own 833 0 t.pend.panes.n 1, .own 834 0 t.pend.lates.n 1]), (513, 1, .arr 13 t.op.rows.n fun i => eRow (t.op.rows.g i)), (833, 1, .arr 9 t.pend.panes.n fun i => ePane (t.pend.panes.g i)), (834, 1, .arr 7 t.pend.lates.n fun i => eLat (t.pend.lates.g i)), (8000, 1, .nest 3 i (fun j => eTskIn (t.ins.g j)) none), (128, 1, .box [.d (.v nilS), .d (eI 0), .d (.v nilS), .d (eI 0), .d (eI 0), .d (.v nilS), .d (.v nilS)])]⟩
theorem c_TskC (t : TskT) (hb : bdTsk t) : Meets Tryz.prog 40 [xd (eTsk t)] ⟨.one (.agg [.nown 3 t.ins.n fun i => eTskIn (t.ins.g i), .d (eI t.op.mark), .own 13 t.op.rows.n fun i => eRow (t.op.rows.g i), .d (eI t.wall), .d (eI t.pend.n), .own 9 t.pend.panes.n fun i => ePane (t.pend.panes.g i), .own 7 t.pend.lates.n fun i => eLat (t.pend.lates.g i)]), [none]⟩ := by
  have hbr : t.op.rows.n ≤ 1048576 := hb.2.2.1
  have hn : t.ins.n ≤ 1048576 := hb.1
  have hn2 : t.ins.n ≤ maxLen := t.ins.hn
  have c1 := c_copied t.op.mark t.op.rows.n (Nat.le_trans hbr (by decide)) t.op.rows.g
  have c2 := c_TxnC t.pend hb.2.2.2
  refine meets_of (H := []) (EX := EXA) ttok mixed Tryz.func40 rfl (by kernel_rfl) (by decide) ?_
  generalize hA : real = A
  generalize hM : MeetsB Tryz.prog = M
  cbv
  repeat' first
    | apply And.intro
    | exact True.intro
    | with_reducible rfl
    | exact same_of hA rfl
    | refine br_of hA (fun _ => ?_) (fun _ => ?_)
    | exact imp_of hA id
    | (refine imp_of hA ?_; subst hA; simp only [real, Bool.true_and]; exact id)
    | (refine ind_of hA ?_; decide +kernel)
    | (refine call_of hA hM _ c1 ?_; cbv)
    | (refine call_of hA hM _ c2 ?_; cbv)
    | (refine call_of2 hA hM _ c1 (by (subst hA; first | rfl | (simp only [sub0r]; done) | (simp only [sub0r]; rfl))) ?_; cbv)
    | (refine call_of2 hA hM _ c2 (by (subst hA; first | rfl | (simp only [sub0r]; done) | (simp only [sub0r]; rfl))) ?_; cbv)
    | fail
  refine loop_of hA (α := { i : Nat // i ≤ t.ins.n }) (fun x => st_tc t x.1) (fun x => t.ins.n - x.1) ⟨0, Nat.zero_le _⟩ ?_ ?_
  · refine cov_promCN 192 8000 1 3 (fun j => eTskIn (t.ins.g j)) [] [.d (eI t.op.mark), .own 513 0 t.op.rows.n 1, .d (eI t.wall), .d (eI t.pend.n), .own 833 0 t.pend.panes.n 1, .own 834 0 t.pend.lates.n 1] rfl rfl rfl (cov_of ?_ ?_ ?_)
    · (subst hA; repeat' first | exact True.intro | exact rfl |  apply And.intro | (intro _ _; rfl) | (intro _ _ _; rfl) | (intro q hq; exact absurd hq (Nat.not_lt_zero q)))
    · (subst hA; repeat' first | exact True.intro | exact rfl |  apply And.intro | (intro _ _; rfl) | (intro _ _ _; rfl) | (intro q hq; exact absurd hq (Nat.not_lt_zero q)))
    · (subst hA; repeat' first | exact True.intro | exact rfl |  apply And.intro | (intro _ _; rfl) | (intro _ _ _; rfl) | (intro q hq; exact absurd hq (Nat.not_lt_zero q)) | exact .inr (le_of_nble rfl) | exact .inl rfl | exact .inr (Nat.le_refl _))
  rintro ⟨i, hi⟩
  have hi : i ≤ t.ins.n := hi
  cbv
  repeat' first
    | apply And.intro
    | exact True.intro
    | with_reducible rfl
    | exact same_of hA rfl
    | refine br_of hA (fun _ => ?_) (fun _ => ?_)
    | exact imp_of hA id
    | (refine imp_of hA ?_; subst hA; simp only [real, Bool.true_and]; exact id)
    | (refine ind_of hA ?_; decide +kernel)
    | (refine inb_of hA fun _ => ?_; have hlt9 : i < t.ins.n := (by first | exact lt2_of hA (by assumption) | exact lt_of hA (by assumption)); exact ⟨Int.natCast_nonneg i, Int.ofNat_lt.2 hlt9⟩)
    | (refine inb_lt hA ?_; exact (by first | exact lt2_of hA (by assumption) | exact lt_of hA (by assumption)))
    | (refine room_add2 hA (Nat.le_trans (Nat.succ_le_of_lt (by first | exact lt2_of hA (by assumption) | exact lt_of hA (by assumption))) (Nat.le_trans hn (by decide))) (by decide))
    | (refine room_of2 hA (Nat.le_trans (Nat.succ_le_of_lt (by first | exact lt2_of hA (by assumption) | exact lt_of hA (by assumption))) (Nat.le_trans hn (by decide))) (by decide))
    | exact room_add2 hA (by omega) (by decide)
    | exact room_of2 hA (by omega) (by decide)
    | (have hl9 : i < t.ins.n := (by first | exact lt2_of hA (by assumption) | exact lt_of hA (by assumption)); subst hA; exact room_z rfl (Nat.le_trans (hb.2.1 i hl9) (by decide)) (by decide))
    | (have hl9 : i < t.ins.n := (by first | exact lt2_of hA (by assumption) | exact lt_of hA (by assumption)); subst hA; exact room_add2 rfl (Nat.le_trans (hb.2.1 i hl9) (by decide)) (by decide))
    | (have hl9 : i < t.ins.n := (by first | exact lt2_of hA (by assumption) | exact lt_of hA (by assumption)); subst hA; exact room_of2 rfl (Nat.le_trans (hb.2.1 i hl9) (by decide)) (by decide))
    | (refine call_of2 hA hM _ (c_CloneItm (t.ins.g i).queue.n (Nat.le_trans (hb.2.1 i (by first | exact lt2_of hA (by assumption) | exact lt_of hA (by assumption))) (by decide)) (t.ins.g i).queue.g) (by subst hA; rfl) ?_; cbv)
    | (refine same_of hA ?_; subst hA; rfl)
    | fail
  · rename_i hlt
    have hlt' : i < t.ins.n := (by first | exact lt2_of hA (by assumption) | exact lt_of hA (by assumption))
    refine ⟨⟨i + 1, hlt'⟩, by simp only; omega, cov_close 8000 (fun j => eTskIn (t.ins.g j)) (eTskIn (t.ins.g i)) [(1664, 1)] rfl ?_ rfl rfl (fun k _ _ => rfl) (cov_of ?_ ?_ ?_)⟩
    · subst hA; exact (close_own rfl (fun _ _ => rfl) (flatR fun _ => flat_Itm _) (close_v (close_v close_end)))
    · (subst hA; repeat' first | exact True.intro | exact rfl | exact congrArg (fun x => DV.v (.int .i64 x)) (up64 hlt' hn2) |  apply And.intro | (intro _ _; rfl) | (intro _ _ _; rfl) | (intro q hq; exact absurd hq (Nat.not_lt_zero q)))
    · (subst hA; repeat' first | exact True.intro | exact rfl | exact congrArg (fun x => DV.v (.int .i64 x)) (up64 hlt' hn2) |  apply And.intro | (intro _ _; rfl) | (intro _ _ _; rfl) | (intro q hq; exact absurd hq (Nat.not_lt_zero q)))
    · (subst hA; repeat' first | exact True.intro | exact rfl | exact congrArg (fun x => DV.v (.int .i64 x)) (up64 hlt' hn2) |  apply And.intro | (intro _ _; rfl) | (intro _ _ _; rfl) | (intro q hq; exact absurd hq (Nat.not_lt_zero q)) | exact .inr (le_of_nble rfl) | exact .inl rfl | exact .inr (Nat.le_refl _))
  · rename_i hge
    have hin : i = t.ins.n := by
      subst hA
      have : ¬ ((i : Int) < (t.ins.n : Int)) := of_decide_eq_false hge
      omega
    subst hin
    rfl
theorem c_sTxnC (x : TxnT) (hb : bdTxn x) : Meets Tryz.prog 92 [xd (eTxn x)] ⟨.one (.agg [.d (eI x.n), .own 9 x.panes.n fun i => ePane (x.panes.g i), .own 7 x.lates.n fun i => eLat (x.lates.g i)]), [none]⟩ := by
  have hb1 : x.panes.n ≤ 1048576 := hb.1
  have hb2 : x.lates.n ≤ 1048576 := hb.2
  refine meets_of (H := []) (EX := EXA) ttok mixed Tryz.func92 rfl (by kernel_rfl) (by decide) ?_
  generalize hA : real = A
  generalize hM : MeetsB Tryz.prog = M
  cbv
  repeat' first
    | apply And.intro
    | exact True.intro
    | with_reducible rfl
    | exact same_of hA rfl
    | refine br_of hA (fun _ => ?_) (fun _ => ?_)
    | exact imp_of hA id
    | (refine imp_of hA ?_; subst hA; simp only [real, Bool.true_and]; exact id)
    | (refine ind_of hA ?_; decide +kernel)
    | exact room_z hA (Nat.le_trans hb1 (by decide)) (by decide)
    | exact room_add2 hA (Nat.le_trans hb1 (by decide)) (by decide)
    | exact room_of2 hA (Nat.le_trans hb1 (by decide)) (by decide)
    | exact room_z hA (Nat.le_trans hb2 (by decide)) (by decide)
    | exact room_add2 hA (Nat.le_trans hb2 (by decide)) (by decide)
    | exact room_of2 hA (Nat.le_trans hb2 (by decide)) (by decide)
    | fail
  all_goals (subst hA
             have e0 : ∀ k, real.add 0 k = k := fun k => Nat.zero_add k
             have ea : ∀ (z row : Nat → List DV), real.app 0 z row = row := fun z row => funext fun i => by
               show (if i < 0 then z i else row (i - 0)) = row i
               rw [if_neg (Nat.not_lt_zero i)]; rfl
             simp only [e0, ea]
             first | done | rfl)
def st_stc (t : TskT) (i : Nat) : St := ⟨[(4, .c (.d (eI i))), (1, .c (.bp 64 1 0)), (3, .c (.bp 192 1 0)), (2, .c (.bp 128 1 0))], [(192, 1, .box [.nown 8000 i 1, .d (eI t.op.mark), .own 513 0 t.op.rows.n 1, .d (eI t.wall), .d (eI t.pend.n), .own 833 0 t.pend.panes.n 1, .own 834 0 t.pend.lates.n 1]), (513, 1, .arr 13 t.op.rows.n fun i => eRow (t.op.rows.g i)), (833, 1, .arr 9 t.pend.panes.n fun i => ePane (t.pend.panes.g i)), (834, 1, .arr 7 t.pend.lates.n fun i => eLat (t.pend.lates.g i)), (8000, 1, .nest 3 i (fun j => eTskIn (t.ins.g j)) none), (128, 1, .box [.d (.v nilS), .d (eI 0), .d (.v nilS), .d (eI 0), .d (eI 0), .d (.v nilS), .d (.v nilS)]), (64, 1, .box ((eTsk t).map .d))]⟩
theorem c_sTskC (t : TskT) (hb : bdTsk t) : Meets Tryz.prog 33 [xd (eTsk t)] ⟨.one (.agg [.nown 3 t.ins.n fun i => eTskIn (t.ins.g i), .d (eI t.op.mark), .own 13 t.op.rows.n fun i => eRow (t.op.rows.g i), .d (eI t.wall), .d (eI t.pend.n), .own 9 t.pend.panes.n fun i => ePane (t.pend.panes.g i), .own 7 t.pend.lates.n fun i => eLat (t.pend.lates.g i)]), [none]⟩ := by
  have hbr : t.op.rows.n ≤ 1048576 := hb.2.2.1
  have hn : t.ins.n ≤ 1048576 := hb.1
  have hn2 : t.ins.n ≤ maxLen := t.ins.hn
  have c1 := c_sCopy t.op.mark t.op.rows.n (Nat.le_trans hbr (by decide)) t.op.rows.g
  have c2 := c_sTxnC t.pend hb.2.2.2
  refine meets_of (H := []) (EX := EXA) ttok mixed Tryz.func33 rfl (by kernel_rfl) (by decide) ?_
  generalize hA : real = A
  generalize hM : MeetsB Tryz.prog = M
  cbv
  repeat' first
    | apply And.intro
    | exact True.intro
    | with_reducible rfl
    | exact same_of hA rfl
    | refine br_of hA (fun _ => ?_) (fun _ => ?_)
    | exact imp_of hA id
    | (refine imp_of hA ?_; subst hA; simp only [real, Bool.true_and]; exact id)
    | (refine ind_of hA ?_; decide +kernel)
    | (refine call_of hA hM _ c1 ?_; cbv)
    | (refine call_of hA hM _ c2 ?_; cbv)
    | (refine call_of2 hA hM _ c1 (by (subst hA; first | rfl | (simp only [sub0r]; done) | (simp only [sub0r]; rfl))) ?_; cbv)
    | (refine call_of2 hA hM _ c2 (by (subst hA; first | rfl | (simp only [sub0r]; done) | (simp only [sub0r]; rfl))) ?_; cbv)
    | fail
  refine loop_of hA (α := { i : Nat // i ≤ t.ins.n }) (fun x => st_stc t x.1) (fun x => t.ins.n - x.1) ⟨0, Nat.zero_le _⟩ ?_ ?_
  · refine cov_promCN 192 8000 1 3 (fun j => eTskIn (t.ins.g j)) [] [.d (eI t.op.mark), .own 513 0 t.op.rows.n 1, .d (eI t.wall), .d (eI t.pend.n), .own 833 0 t.pend.panes.n 1, .own 834 0 t.pend.lates.n 1] rfl rfl rfl (cov_of ?_ ?_ ?_)
    · (subst hA; repeat' first | exact True.intro | exact rfl |  apply And.intro | (intro _ _; rfl) | (intro _ _ _; rfl) | (intro q hq; exact absurd hq (Nat.not_lt_zero q)))
    · (subst hA; repeat' first | exact True.intro | exact rfl |  apply And.intro | (intro _ _; rfl) | (intro _ _ _; rfl) | (intro q hq; exact absurd hq (Nat.not_lt_zero q)))
    · (subst hA; repeat' first | exact True.intro | exact rfl |  apply And.intro | (intro _ _; rfl) | (intro _ _ _; rfl) | (intro q hq; exact absurd hq (Nat.not_lt_zero q)) | exact .inr (le_of_nble rfl) | exact .inl rfl | exact .inr (Nat.le_refl _))
  rintro ⟨i, hi⟩
  have hi : i ≤ t.ins.n := hi
  cbv
  repeat' first
    | apply And.intro
    | exact True.intro
    | with_reducible rfl
    | exact same_of hA rfl
    | refine br_of hA (fun _ => ?_) (fun _ => ?_)
    | exact imp_of hA id
    | (refine imp_of hA ?_; subst hA; simp only [real, Bool.true_and]; exact id)
    | (refine ind_of hA ?_; decide +kernel)
    | (refine inb_of hA fun _ => ?_; have hlt9 : i < t.ins.n := (by first | exact lt2_of hA (by assumption) | exact lt_of hA (by assumption)); exact ⟨Int.natCast_nonneg i, Int.ofNat_lt.2 hlt9⟩)
    | (refine inb_lt hA ?_; exact (by first | exact lt2_of hA (by assumption) | exact lt_of hA (by assumption)))
    | (refine room_add2 hA (Nat.le_trans (Nat.succ_le_of_lt (by first | exact lt2_of hA (by assumption) | exact lt_of hA (by assumption))) (Nat.le_trans hn (by decide))) (by decide))
    | (refine room_of2 hA (Nat.le_trans (Nat.succ_le_of_lt (by first | exact lt2_of hA (by assumption) | exact lt_of hA (by assumption))) (Nat.le_trans hn (by decide))) (by decide))
    | exact room_add2 hA (by omega) (by decide)
    | exact room_of2 hA (by omega) (by decide)
    | (have hl9 : i < t.ins.n := (by first | exact lt2_of hA (by assumption) | exact lt_of hA (by assumption)); subst hA; exact room_z rfl (Nat.le_trans (hb.2.1 i hl9) (by decide)) (by decide))
    | (have hl9 : i < t.ins.n := (by first | exact lt2_of hA (by assumption) | exact lt_of hA (by assumption)); subst hA; exact room_add2 rfl (Nat.le_trans (hb.2.1 i hl9) (by decide)) (by decide))
    | (have hl9 : i < t.ins.n := (by first | exact lt2_of hA (by assumption) | exact lt_of hA (by assumption)); subst hA; exact room_of2 rfl (Nat.le_trans (hb.2.1 i hl9) (by decide)) (by decide))
    | (refine same_of hA ?_; subst hA; rfl)
    | fail
  · rename_i hlt
    have hlt' : i < t.ins.n := (by first | exact lt2_of hA (by assumption) | exact lt_of hA (by assumption))
    refine ⟨⟨i + 1, hlt'⟩, by simp only; omega, cov_close 8000 (fun j => eTskIn (t.ins.g j)) (eTskIn (t.ins.g i)) [(1856, 2)] rfl ?_ rfl rfl (fun k _ _ => rfl) (cov_of ?_ ?_ ?_)⟩
    · subst hA; exact (close_ownE (Nat.zero_add _) rfl (fun q _ => (show (if q < 0 then _ else eItm ((t.ins.g i).queue.g (q - 0))) = _ by rw [if_neg (Nat.not_lt_zero q)]; rfl)) (flatR fun _ => flat_Itm _) (close_v (close_v close_end)))
    · (subst hA; repeat' first | exact True.intro | exact rfl | exact congrArg (fun x => DV.v (.int .i64 x)) (up64 hlt' hn2) |  apply And.intro | (intro _ _; rfl) | (intro _ _ _; rfl) | (intro q hq; exact absurd hq (Nat.not_lt_zero q)))
    · (subst hA; repeat' first | exact True.intro | exact rfl | exact congrArg (fun x => DV.v (.int .i64 x)) (up64 hlt' hn2) |  apply And.intro | (intro _ _; rfl) | (intro _ _ _; rfl) | (intro q hq; exact absurd hq (Nat.not_lt_zero q)))
    · (subst hA; repeat' first | exact True.intro | exact rfl | exact congrArg (fun x => DV.v (.int .i64 x)) (up64 hlt' hn2) |  apply And.intro | (intro _ _; rfl) | (intro _ _ _; rfl) | (intro q hq; exact absurd hq (Nat.not_lt_zero q)) | exact .inr (le_of_nble rfl) | exact .inl rfl | exact .inr (Nat.le_refl _))
  · rename_i hge
    have hin : i = t.ins.n := by
      subst hA
      have : ¬ ((i : Int) < (t.ins.n : Int)) := of_decide_eq_false hge
      omega
    subst hin
    rfl
end Go.Rk
/- Tasks: put. -/
namespace Go.Rk
set_option linter.unusedSimpArgs false
set_option linter.unusedVariables false
open Go.Proofs
set_option maxRecDepth 100000
set_option maxHeartbeats 2000000
def EXPut : FuncId → List Nat × Bool := fun f => bif nbeq f 1 then ([9601], false) else ([], false)
theorem k_put (t : TskT) (x : ItmT) (k : Nat) (hk : k < t.ins.n) (hq : (t.ins.g k).queue.n + 1 ≤ 1000) : MeetsO Tryz.prog 42 [.c (.bp 640 1 0), .c (.d (eI (k : Int))), .agg [.d (eI x.kind), .d (eI x.t), .d (eI x.key), .d (eI x.v), .d (eI x.n)]]
    [(640, 1, .box [.nown 1792 t.ins.n 1, .d (eI t.op.mark), .own 1794 0 t.op.rows.n 1, .d (eI t.wall), .d (eI t.pend.n), .own 1797 0 t.pend.panes.n 1, .own 1798 0 t.pend.lates.n 1]), (1792, 1, .nest 3 t.ins.n (fun i => eTskIn (t.ins.g i)) (some (k, [.own 9000 0 (t.ins.g k).queue.n 1, .d (eI (t.ins.g k).mark), .d (eB (t.ins.g k).held)]))), (9000, 1, .arr 5 (t.ins.g k).queue.n fun p => eItm ((t.ins.g k).queue.g p)), (1794, 1, .arr 13 t.op.rows.n fun i => eRow (t.op.rows.g i)), (1797, 1, .arr 9 t.pend.panes.n fun i => ePane (t.pend.panes.g i)), (1798, 1, .arr 7 t.pend.lates.n fun i => eLat (t.pend.lates.g i))] (.tup []) [(640, 1, .box [.nown 1792 t.ins.n 1, .d (eI t.op.mark), .own 1794 0 t.op.rows.n 1, .d (eI t.wall), .d (eI t.pend.n), .own 1797 0 t.pend.panes.n 1, .own 1798 0 t.pend.lates.n 1]), (1792, 1, .nest 3 t.ins.n (fun i => eTskIn (t.ins.g i)) (some (k, [.own 9000 0 ((t.ins.g k).queue.n + 1) 2, .d (eI (t.ins.g k).mark), .d (eB (t.ins.g k).held)]))), (9000, 2, .arr 5 ((t.ins.g k).queue.n + 1) fun p => eItm (if p < (t.ins.g k).queue.n then (t.ins.g k).queue.g p else x)), (1794, 1, .arr 13 t.op.rows.n fun i => eRow (t.op.rows.g i)), (1797, 1, .arr 9 t.pend.panes.n fun i => ePane (t.pend.panes.g i)), (1798, 1, .arr 7 t.pend.lates.n fun i => eLat (t.pend.lates.g i)), (9921, 1, .dead), (10881, 1, .dead)] := by
  refine inl_of (EX := EXPut) ttok mixed Tryz.func42 rfl (by kernel_rfl) (by decide) (by kernel_rfl) rfl rfl ?_
  generalize hA : real = A
  generalize hM : MeetsB Tryz.prog = M9
  cbv
  repeat' first
    | apply And.intro
    | exact True.intro
    | with_reducible rfl
    | exact same_of hA rfl
    | refine br_of hA (fun _ => ?_) (fun _ => ?_)
    | exact imp_of hA id
    | (refine imp_of hA ?_; subst hA; simp only [real, Bool.true_and]; exact id)
    | (refine ind_of hA ?_; decide +kernel)
    | (refine inb_of hA fun _ => ⟨Int.natCast_nonneg k, Int.ofNat_lt.2 hk⟩)
    | (subst hA; exact room_add2 rfl (Nat.le_trans hq (by decide)) (by decide))
    | (intro _ _; rfl)
    | (intro _ _ _; rfl)
    | (refine same_of hA ?_; subst hA; rfl)
    | (subst hA; rfl)
    | (intro q hq9; subst hA; exact push_if (A := real) eItm rfl (t.ins.g k).queue.n (t.ins.g k).queue.g x _ q hq9)
    | fail
def EXTP : FuncId → List Nat × Bool := fun f => bif nbeq f 42 then ([99], false) else ([], false)
theorem c_TskPut (j : JobT) (t : TskT) (hb : bdTsk t) (c : Int) (x : ItmT) (y : TskT × Bool) (hy : y = putP j t c x) : Meets Tryz.prog 12 [xd (eJob j), xd (eTsk t), .c (.d (eI c)), xd (eItm x)] ⟨.tup [.agg [.nown 3 y.1.ins.n fun i => eTskIn (y.1.ins.g i), .d (eI y.1.op.mark), .own 13 y.1.op.rows.n fun i => eRow (y.1.op.rows.g i), .d (eI y.1.wall), .d (eI y.1.pend.n), .own 9 y.1.pend.panes.n fun i => ePane (y.1.pend.panes.g i), .own 7 y.1.pend.lates.n fun i => eLat (y.1.pend.lates.g i)], .c (.d (eB y.2))], [none, none, none, none]⟩ := by
  have hnL : (t.ins.n : Int) ≤ 1048576 := by have := hb.1; omega
  have hcp := c_TskC t hb
  obtain ⟨b1, h1, m1⟩ := c_TskOk j t hb.1
  obtain ⟨b2, h2, m2⟩ := c_ItmOkP x
  by_cases hok : TskOkP j t ∧ ItmOkP x ∧ (0 ≤ c ∧ c < (t.ins.n : Int))
  · obtain ⟨k, rfl⟩ : ∃ k : Nat, c = (k : Int) := Int.eq_ofNat_of_zero_le hok.2.2.1
    have hk : k < t.ins.n := by have := hok.2.2.2; omega
    obtain rfl : b1 = true := h1.2 hok.1
    obtain rfl : b2 = true := h2.2 hok.2.1
    have hrl := room_le hok.1 hk
    obtain ⟨b3, h3, m3⟩ := c_has t (k : Int)
    obtain rfl : b3 = true := h3.2 hok.2.2
    by_cases hr : ((t.ins.g (k : Int).toNat).queue.n : Int) < j.room
    · have hmx := room_max hok.1 hr
      have hmq := room_small hok.1 hr
      have ey : y = (putT t k x hmx, true) := by rw [hy]; unfold putP; rw [dif_pos hok, dif_pos hr]; rfl
      subst ey
      have hr : ((t.ins.g k).queue.n : Int) < j.room := hr
      have hmx : (t.ins.g k).queue.n + 1 ≤ maxLen := hmx
      have hmq : (t.ins.g k).queue.n + 1 ≤ 1000 := hmq
      have mr := c_room j t (k : Int) hok.2.2 true (by rw [decide_eq_true]; exact hr)
      refine meets_of (H := [6, 7]) (EX := EXTP) ttok mixed Tryz.func12 rfl (by kernel_rfl) (by decide) ?_
      generalize hA : real = A
      generalize hM : MeetsB Tryz.prog = M
      cbv
      repeat' first
        | exact absurd (show false = true by subst hA; assumption) (by decide)
        | exact absurd (show true = false by subst hA; assumption) (by decide)
        | apply And.intro
        | exact True.intro
        | with_reducible rfl
        | exact same_of hA rfl
        | refine br_of hA (fun _ => ?_) (fun _ => ?_)
        | exact imp_of hA id
        | (refine imp_of hA ?_; subst hA; simp only [real, Bool.true_and]; exact id)
        | (refine ind_of hA ?_; decide +kernel)
        | (refine call_of hA hM _ m1 ?_; cbv)
        | (refine call_of hA hM _ m2 ?_; cbv)
        | (refine call_of hA hM _ hcp ?_; cbv)
        | (refine call_of hA hM _ m3 ?_; cbv)
        | (refine call_of2 hA hM _ mr (by (subst hA; first | rfl | (simp only [sub0r]; done) | (simp only [sub0r]; rfl))) ?_; cbv)
        | fail
      refine stop_of hA ⟨[(2, .c (.d (eI (k : Int)))), (4, .c (.bp 256 1 0)), (7, .c (.bp 448 1 0)), (8, .c (.bp 512 1 0)), (10, .c (.bp 640 1 0))], [(256, 1, .box [.d (eI j.srcs), .d (eI j.tsks), .d (eI j.kind), .d (eI j.size), .d (eI j.step), .d (eI j.late), .d (eI j.tell), .d (eB j.piece), .d (eI j.least), .d (eI j.room)]), (448, 1, .box [.d (eI x.kind), .d (eI x.t), .d (eI x.key), .d (eI x.v), .d (eI x.n)]), (512, 1, .box [.d (.v nilS), .d (eI 0), .d (.v nilS), .d (eI 0), .d (eI 0), .d (.v nilS), .d (.v nilS)]), (640, 1, .box [.nown 1792 t.ins.n 1, .d (eI t.op.mark), .own 1794 0 t.op.rows.n 1, .d (eI t.wall), .d (eI t.pend.n), .own 1797 0 t.pend.panes.n 1, .own 1798 0 t.pend.lates.n 1]), (1794, 1, .arr 13 t.op.rows.n fun i => eRow (t.op.rows.g i)), (1797, 1, .arr 9 t.pend.panes.n fun i => ePane (t.pend.panes.g i)), (1798, 1, .arr 7 t.pend.lates.n fun i => eLat (t.pend.lates.g i)), (1792, 1, .nest 3 t.ins.n (fun i => eTskIn (t.ins.g i)) (some (k, [.own 9000 0 (t.ins.g k).queue.n 1, .d (eI (t.ins.g k).mark), .d (eB (t.ins.g k).held)]))), (9000, 1, .arr 5 (t.ins.g k).queue.n fun p => eItm ((t.ins.g k).queue.g p))]⟩ (cov_open 1792 9000 1 k (fun _ => false) [.sl 5 (t.ins.g k).queue.n fun p => eItm ((t.ins.g k).queue.g p), eI (t.ins.g k).mark, eB (t.ins.g k).held] rfl hk rfl ⟨.inr (flatR fun _ => flat_Itm _), trivial, trivial, trivial⟩ rfl (cov_of ?_ ?_ ?_)) ?_
      · (subst hA; repeat' first | exact True.intro | exact rfl |  apply And.intro | (intro _ _; rfl) | (intro _ _ _; rfl) | (intro q hq; exact absurd hq (Nat.not_lt_zero q)))
      · (subst hA; repeat' first | exact True.intro | exact rfl |  apply And.intro | (intro _ _; rfl) | (intro _ _ _; rfl) | (intro q hq; exact absurd hq (Nat.not_lt_zero q)))
      · (subst hA; repeat' first | exact True.intro | exact rfl |  apply And.intro | (intro _ _; rfl) | (intro _ _ _; rfl) | (intro q hq; exact absurd hq (Nat.not_lt_zero q)) | exact .inr (le_of_nble rfl) | exact .inl rfl | exact .inr (Nat.le_refl _))
      cbv
      repeat' first
        | exact absurd (show false = true by subst hA; assumption) (by decide)
        | exact absurd (show true = false by subst hA; assumption) (by decide)
        | apply And.intro
        | exact True.intro
        | with_reducible rfl
        | exact same_of hA rfl
        | refine br_of hA (fun _ => ?_) (fun _ => ?_)
        | exact imp_of hA id
        | (refine imp_of hA ?_; subst hA; simp only [real, Bool.true_and]; exact id)
        | (refine ind_of hA ?_; decide +kernel)
        | (refine inl_call hA _ _ _ ⟨fun _ => (by rw [← hM]; exact (k_put t x k hk hmq)), (by cbv; repeat' first | apply And.intro | exact True.intro | rfl | exact .inr trivial | exact .inl trivial), ?_⟩; cbv)
        | fail
      refine stop_of hA ⟨[(8, .c (.bp 512 1 0)), (10, .c (.bp 640 1 0))], [(512, 1, .box [.d (.v nilS), .d (eI 0), .d (.v nilS), .d (eI 0), .d (eI 0), .d (.v nilS), .d (.v nilS)]), (640, 1, .box [.nown 1792 t.ins.n 1, .d (eI t.op.mark), .own 1794 0 t.op.rows.n 1, .d (eI t.wall), .d (eI t.pend.n), .own 1797 0 t.pend.panes.n 1, .own 1798 0 t.pend.lates.n 1]), (1794, 1, .arr 13 t.op.rows.n fun i => eRow (t.op.rows.g i)), (1797, 1, .arr 9 t.pend.panes.n fun i => ePane (t.pend.panes.g i)), (1798, 1, .arr 7 t.pend.lates.n fun i => eLat (t.pend.lates.g i)), (1792, 1, .nest 3 t.ins.n (fun i => eTskIn (if i = k then putI (t.ins.g k) x hmx else t.ins.g i)) none)]⟩ (cov_close 1792 (fun i => eTskIn (if i = k then putI (t.ins.g k) x hmx else t.ins.g i)) (eTskIn (putI (t.ins.g k) x hmx)) [(9000, 2)] rfl ?_ rfl (by show eTskIn (if k = k then _ else _) = _; rw [if_pos rfl]) (fun i _ hne => by show eTskIn (if i = k then _ else _) = _; rw [if_neg hne]) (cov_of ?_ ?_ ?_)) ?_
      · subst hA; exact close_own rfl (fun _ _ => rfl) (flatR fun _ => flat_Itm _) (close_v (close_v close_end))
      · (subst hA; repeat' first | exact True.intro | exact rfl |  apply And.intro | (intro _ _; rfl) | (intro _ _ _; rfl) | (intro q hq; exact absurd hq (Nat.not_lt_zero q)))
      · (subst hA; repeat' first | exact True.intro | exact rfl |  apply And.intro | (intro _ _; rfl) | (intro _ _ _; rfl) | (intro q hq; exact absurd hq (Nat.not_lt_zero q)))
      · (subst hA; repeat' first | exact True.intro | exact rfl |  apply And.intro | (intro _ _; rfl) | (intro _ _ _; rfl) | (intro q hq; exact absurd hq (Nat.not_lt_zero q)) | exact .inr (le_of_nble rfl) | exact .inl rfl | exact .inr (Nat.le_refl _))
      cbv
      repeat' first
        | apply And.intro
        | exact True.intro
        | with_reducible rfl
        | exact same_of hA rfl
        | refine br_of hA (fun _ => ?_) (fun _ => ?_)
        | exact imp_of hA id
        | (refine imp_of hA ?_; subst hA; simp only [real, Bool.true_and]; exact id)
        | (refine ind_of hA ?_; decide +kernel)
        | (subst hA; rfl)
        | fail
    · have ey : y = (t, false) := by rw [hy]; unfold putP; rw [dif_pos hok, dif_neg hr]
      subst ey
      have hr : ¬ ((t.ins.g k).queue.n : Int) < j.room := hr
      have mr := c_room j t (k : Int) hok.2.2 false (by rw [eq_comm]; exact decide_eq_false hr)
      refine meets_of (H := [6, 7]) (EX := EXTP) ttok mixed Tryz.func12 rfl (by kernel_rfl) (by decide) ?_
      generalize hA : real = A
      generalize hM : MeetsB Tryz.prog = M
      cbv
      repeat' first
        | exact absurd (show false = true by subst hA; assumption) (by decide)
        | exact absurd (show true = false by subst hA; assumption) (by decide)
        | apply And.intro
        | exact True.intro
        | with_reducible rfl
        | exact same_of hA rfl
        | refine br_of hA (fun _ => ?_) (fun _ => ?_)
        | exact imp_of hA id
        | (refine imp_of hA ?_; subst hA; simp only [real, Bool.true_and]; exact id)
        | (refine ind_of hA ?_; decide +kernel)
        | (refine call_of hA hM _ m1 ?_; cbv)
        | (refine call_of hA hM _ m2 ?_; cbv)
        | (refine call_of hA hM _ hcp ?_; cbv)
        | (refine call_of hA hM _ m3 ?_; cbv)
        | (refine call_of2 hA hM _ mr (by (subst hA; first | rfl | (simp only [sub0r]; done) | (simp only [sub0r]; rfl))) ?_; cbv)
        | fail
  · obtain ⟨b3, h3, m3⟩ := c_has t c
    have ey : y = (tskZ, false) := by rw [hy]; unfold putP; rw [dif_neg hok]
    subst ey
    have hbadF : ∀ {A : Ar}, real = A → A.bite (A.bite (A.bnot b1) true (A.bnot b2)) true (A.bnot b3) = false → False := fun hA h => by
      subst hA
      have h : (bif (bif !b1 then true else !b2) then true else !b3) = false := h
      refine hok ⟨h1.1 ?_, h2.1 ?_, h3.1 ?_⟩ <;> (revert h; cases b1 <;> cases b2 <;> cases b3 <;> intro h <;> first | rfl | cases h)
    refine meets_wk (r := .tup [.agg [.d (.v nilS), .d (eI 0), .d (.v nilS), .d (eI 0), .d (eI 0), .d (.v nilS), .d (.v nilS)], .c (.d (eB false))]) ?_ ⟨own_tskZ, DLe.rfl, trivial⟩
    refine meets_of (H := [6, 7]) (EX := EXTP) ttok mixed Tryz.func12 rfl (by kernel_rfl) (by decide) ?_
    generalize hA : real = A
    generalize hM : MeetsB Tryz.prog = M
    cbv
    repeat' first
      | exact (hbadF hA (by assumption)).elim
      | apply And.intro
      | exact True.intro
      | with_reducible rfl
      | exact same_of hA rfl
      | refine br_of hA (fun _ => ?_) (fun _ => ?_)
      | exact imp_of hA id
      | (refine imp_of hA ?_; subst hA; simp only [real, Bool.true_and]; exact id)
      | (refine ind_of hA ?_; decide +kernel)
      | (refine call_of hA hM _ m1 ?_; cbv)
      | (refine call_of hA hM _ m2 ?_; cbv)
      | (refine call_of hA hM _ m3 ?_; cbv)
      | fail
theorem c_sTskPut (j : JobT) (t : TskT) (hb : bdTsk t) (c : Int) (x : ItmT) (y : TskT × Bool) (hy : y = putP j t c x) : Meets Tryz.prog 8 [xd (eJob j), xd (eTsk t), .c (.d (eI c)), xd (eItm x)] ⟨.tup [xd (eTsk y.1), .c (.d (eB y.2))], [none, none, none, none]⟩ := by
  have hnL : (t.ins.n : Int) ≤ 1048576 := by have := hb.1; omega
  have hcp := c_sTskC t hb
  obtain ⟨b1, h1, m1⟩ := c_sTskOk j t
  obtain ⟨b2, h2, m2⟩ := c_sItmOkP x
  by_cases hok : TskOkP j t ∧ ItmOkP x ∧ (0 ≤ c ∧ c < (t.ins.n : Int))
  · obtain ⟨k, rfl⟩ : ∃ k : Nat, c = (k : Int) := Int.eq_ofNat_of_zero_le hok.2.2.1
    have hk : k < t.ins.n := by have := hok.2.2.2; omega
    obtain rfl : b1 = true := h1.2 hok.1
    obtain rfl : b2 = true := h2.2 hok.2.1
    have hrl := room_le hok.1 hk
    have wr : IntKind.i64.wrap ((t.ins.n : Int) - 1) = t.ins.n - 1 := IntWalk.i64_in _ (by omega)
    obtain ⟨b3, h3, m3⟩ := c_l1In (k : Int) 0 ((t.ins.n : Int) - 1)
    obtain rfl : b3 = true := by rw [h3]; exact decide_eq_true ⟨by omega, by omega⟩
    by_cases hr : ((t.ins.g (k : Int).toNat).queue.n : Int) < j.room
    · have hmx := room_max hok.1 hr
      have hmq := room_small hok.1 hr
      have ey : y = (putT t k x hmx, true) := by rw [hy]; unfold putP; rw [dif_pos hok, dif_pos hr]; rfl
      subst ey
      have hr : ((t.ins.g k).queue.n : Int) < j.room := hr
      have hmx : (t.ins.g k).queue.n + 1 ≤ maxLen := hmx
      have hmq : (t.ins.g k).queue.n + 1 ≤ 1000 := hmq
      have hne : ∀ {A : Ar}, real = A → A.cmp .eql (A.int (t.ins.g k).queue.n) j.room = true → False := fun hA h => by
        subst hA
        have h : (((t.ins.g k).queue.n : Int) == j.room) = true := h
        rw [beq_iff_eq] at h; omega
      refine meets_frz (r := .tup [.agg [.nown 3 (putT t k x hmx).ins.n fun i => eTskIn ((putT t k x hmx).ins.g i), .d (eI (putT t k x hmx).op.mark), .own 13 (putT t k x hmx).op.rows.n fun i => eRow ((putT t k x hmx).op.rows.g i), .d (eI (putT t k x hmx).wall), .d (eI (putT t k x hmx).pend.n), .own 9 (putT t k x hmx).pend.panes.n fun i => ePane ((putT t k x hmx).pend.panes.g i), .own 7 (putT t k x hmx).pend.lates.n fun i => eLat ((putT t k x hmx).pend.lates.g i)], .c (.d (eB true))]) ?_ rfl
      refine meets_of (H := [4, 5, 7]) (EX := EXA) ttok mixed Tryz.func8 rfl (by kernel_rfl) (by decide) ?_
      generalize hA : real = A
      generalize hM : MeetsB Tryz.prog = M
      cbv
      repeat' first
        | exact absurd (show false = true by subst hA; assumption) (by decide)
        | exact absurd (show true = false by subst hA; assumption) (by decide)
        | apply And.intro
        | exact True.intro
        | with_reducible rfl
        | exact same_of hA rfl
        | refine br_of hA (fun _ => ?_) (fun _ => ?_)
        | exact imp_of hA id
        | (refine imp_of hA ?_; subst hA; simp only [real, Bool.true_and]; exact id)
        | (refine ind_of hA ?_; decide +kernel)
        | (refine call_of hA hM _ m1 ?_; cbv)
        | (refine call_of hA hM _ m2 ?_; cbv)
        | (refine call_of hA hM _ hcp ?_; cbv)
        | (refine call_of2 hA hM _ m3 (by subst hA; show [XT.c (.d (eI (k : Int))), XT.c (.d (eI 0)), XT.c (.d (eI (IntKind.i64.wrap ((t.ins.n : Int) - 1))))] = _; first | (rw [wr]; done) | (rw [wr]; rfl)) ?_; cbv)
        | fail
      refine stop_of hA ⟨[(2, .c (.d (eI (k : Int)))), (4, .c (.bp 256 1 0)), (7, .c (.bp 448 1 0)), (8, .c (.bp 512 1 0)), (10, .c (.bp 640 1 0))], [(256, 1, .box [.d (eI j.srcs), .d (eI j.tsks), .d (eI j.kind), .d (eI j.size), .d (eI j.step), .d (eI j.late), .d (eI j.tell), .d (eB j.piece), .d (eI j.least), .d (eI j.room)]), (448, 1, .box [.d (eI x.kind), .d (eI x.t), .d (eI x.key), .d (eI x.v), .d (eI x.n)]), (512, 1, .box [.d (.v nilS), .d (eI 0), .d (.v nilS), .d (eI 0), .d (eI 0), .d (.v nilS), .d (.v nilS)]), (640, 1, .box [.nown 1984 t.ins.n 1, .d (eI t.op.mark), .own 1986 0 t.op.rows.n 1, .d (eI t.wall), .d (eI t.pend.n), .own 1989 0 t.pend.panes.n 1, .own 1990 0 t.pend.lates.n 1]), (1986, 1, .arr 13 t.op.rows.n fun i => eRow (t.op.rows.g i)), (1989, 1, .arr 9 t.pend.panes.n fun i => ePane (t.pend.panes.g i)), (1990, 1, .arr 7 t.pend.lates.n fun i => eLat (t.pend.lates.g i)), (1984, 1, .nest 3 t.ins.n (fun i => eTskIn (t.ins.g i)) (some (k, [.own 9000 0 (t.ins.g k).queue.n 1, .d (eI (t.ins.g k).mark), .d (eB (t.ins.g k).held)]))), (9000, 1, .arr 5 (t.ins.g k).queue.n fun p => eItm ((t.ins.g k).queue.g p))]⟩ (cov_open 1984 9000 1 k (fun _ => false) [.sl 5 (t.ins.g k).queue.n fun p => eItm ((t.ins.g k).queue.g p), eI (t.ins.g k).mark, eB (t.ins.g k).held] rfl hk rfl ⟨.inr (flatR fun _ => flat_Itm _), trivial, trivial, trivial⟩ rfl (cov_of ?_ ?_ ?_)) ?_
      · (subst hA; repeat' first | exact True.intro | exact rfl |  apply And.intro | (intro _ _; rfl) | (intro _ _ _; rfl) | (intro q hq; exact absurd hq (Nat.not_lt_zero q)))
      · (subst hA; repeat' first | exact True.intro | exact rfl |  apply And.intro | (intro _ _; rfl) | (intro _ _ _; rfl) | (intro q hq; exact absurd hq (Nat.not_lt_zero q)))
      · (subst hA; repeat' first | exact True.intro | exact rfl |  apply And.intro | (intro _ _; rfl) | (intro _ _ _; rfl) | (intro q hq; exact absurd hq (Nat.not_lt_zero q)) | exact .inr (le_of_nble rfl) | exact .inl rfl | exact .inr (Nat.le_refl _))
      cbv
      repeat' first
        | exact (hne hA (by assumption)).elim
        | exact absurd (show false = true by subst hA; assumption) (by decide)
        | exact absurd (show true = false by subst hA; assumption) (by decide)
        | apply And.intro
        | exact True.intro
        | with_reducible rfl
        | exact same_of hA rfl
        | refine br_of hA (fun _ => ?_) (fun _ => ?_)
        | exact imp_of hA id
        | (refine imp_of hA ?_; subst hA; simp only [real, Bool.true_and]; exact id)
        | (refine ind_of hA ?_; decide +kernel)
        | (refine inb_of hA fun _ => ⟨Int.natCast_nonneg k, Int.ofNat_lt.2 hk⟩)
        | (subst hA; exact room_add2 rfl (Nat.le_trans hmq (by decide)) (by decide))
        | (refine same_of hA ?_; subst hA; rfl)
        | fail
      refine stop_of hA ⟨[(8, .c (.bp 512 1 0)), (10, .c (.bp 640 1 0))], [(512, 1, .box [.d (.v nilS), .d (eI 0), .d (.v nilS), .d (eI 0), .d (eI 0), .d (.v nilS), .d (.v nilS)]), (640, 1, .box [.nown 1984 t.ins.n 1, .d (eI t.op.mark), .own 1986 0 t.op.rows.n 1, .d (eI t.wall), .d (eI t.pend.n), .own 1989 0 t.pend.panes.n 1, .own 1990 0 t.pend.lates.n 1]), (1986, 1, .arr 13 t.op.rows.n fun i => eRow (t.op.rows.g i)), (1989, 1, .arr 9 t.pend.panes.n fun i => ePane (t.pend.panes.g i)), (1990, 1, .arr 7 t.pend.lates.n fun i => eLat (t.pend.lates.g i)), (1984, 1, .nest 3 t.ins.n (fun i => eTskIn (if i = k then putI (t.ins.g k) x hmx else t.ins.g i)) none)]⟩ (cov_close 1984 (fun i => eTskIn (if i = k then putI (t.ins.g k) x hmx else t.ins.g i)) (eTskIn (putI (t.ins.g k) x hmx)) [(9000, 2)] rfl ?_ rfl (by show eTskIn (if k = k then _ else _) = _; rw [if_pos rfl]) (fun i _ hne => by show eTskIn (if i = k then _ else _) = _; rw [if_neg hne]) (cov_of ?_ ?_ ?_)) ?_
      · subst hA; exact close_own rfl (fun q hq => push_if (A := real) eItm rfl (t.ins.g k).queue.n (t.ins.g k).queue.g x _ q hq) (flatR fun _ => flat_Itm _) (close_v (close_v close_end))
      · (subst hA; repeat' first | exact True.intro | exact rfl |  apply And.intro | (intro _ _; rfl) | (intro _ _ _; rfl) | (intro q hq; exact absurd hq (Nat.not_lt_zero q)))
      · (subst hA; repeat' first | exact True.intro | exact rfl |  apply And.intro | (intro _ _; rfl) | (intro _ _ _; rfl) | (intro q hq; exact absurd hq (Nat.not_lt_zero q)))
      · (subst hA; repeat' first | exact True.intro | exact rfl |  apply And.intro | (intro _ _; rfl) | (intro _ _ _; rfl) | (intro q hq; exact absurd hq (Nat.not_lt_zero q)) | exact .inr (le_of_nble rfl) | exact .inl rfl | exact .inr (Nat.le_refl _))
      cbv
      repeat' first
        | apply And.intro
        | exact True.intro
        | with_reducible rfl
        | exact same_of hA rfl
        | refine br_of hA (fun _ => ?_) (fun _ => ?_)
        | exact imp_of hA id
        | (refine imp_of hA ?_; subst hA; simp only [real, Bool.true_and]; exact id)
        | (refine ind_of hA ?_; decide +kernel)
        | (subst hA; rfl)
        | fail
    · have ey : y = (t, false) := by rw [hy]; unfold putP; rw [dif_pos hok, dif_neg hr]
      subst ey
      have hr : ¬ ((t.ins.g k).queue.n : Int) < j.room := hr
      have heq : ∀ {A : Ar}, real = A → A.cmp .eql (A.int (t.ins.g k).queue.n) j.room = false → False := fun hA h => by
        subst hA
        have h : (((t.ins.g k).queue.n : Int) == j.room) = false := h
        have e : ((t.ins.g k).queue.n : Int) = j.room := by omega
        rw [e, beq_self_eq_true] at h; cases h
      refine meets_frz (r := .tup [.agg [.nown 3 t.ins.n fun i => eTskIn (t.ins.g i), .d (eI t.op.mark), .own 13 t.op.rows.n fun i => eRow (t.op.rows.g i), .d (eI t.wall), .d (eI t.pend.n), .own 9 t.pend.panes.n fun i => ePane (t.pend.panes.g i), .own 7 t.pend.lates.n fun i => eLat (t.pend.lates.g i)], .c (.d (eB false))]) ?_ rfl
      refine meets_of (H := [4, 5, 7]) (EX := EXA) ttok mixed Tryz.func8 rfl (by kernel_rfl) (by decide) ?_
      generalize hA : real = A
      generalize hM : MeetsB Tryz.prog = M
      cbv
      repeat' first
        | exact absurd (show false = true by subst hA; assumption) (by decide)
        | exact absurd (show true = false by subst hA; assumption) (by decide)
        | apply And.intro
        | exact True.intro
        | with_reducible rfl
        | exact same_of hA rfl
        | refine br_of hA (fun _ => ?_) (fun _ => ?_)
        | exact imp_of hA id
        | (refine imp_of hA ?_; subst hA; simp only [real, Bool.true_and]; exact id)
        | (refine ind_of hA ?_; decide +kernel)
        | (refine call_of hA hM _ m1 ?_; cbv)
        | (refine call_of hA hM _ m2 ?_; cbv)
        | (refine call_of hA hM _ hcp ?_; cbv)
        | (refine call_of2 hA hM _ m3 (by subst hA; show [XT.c (.d (eI (k : Int))), XT.c (.d (eI 0)), XT.c (.d (eI (IntKind.i64.wrap ((t.ins.n : Int) - 1))))] = _; first | (rw [wr]; done) | (rw [wr]; rfl)) ?_; cbv)
        | fail
      refine stop_of hA ⟨[(2, .c (.d (eI (k : Int)))), (4, .c (.bp 256 1 0)), (7, .c (.bp 448 1 0)), (8, .c (.bp 512 1 0)), (10, .c (.bp 640 1 0))], [(256, 1, .box [.d (eI j.srcs), .d (eI j.tsks), .d (eI j.kind), .d (eI j.size), .d (eI j.step), .d (eI j.late), .d (eI j.tell), .d (eB j.piece), .d (eI j.least), .d (eI j.room)]), (448, 1, .box [.d (eI x.kind), .d (eI x.t), .d (eI x.key), .d (eI x.v), .d (eI x.n)]), (512, 1, .box [.d (.v nilS), .d (eI 0), .d (.v nilS), .d (eI 0), .d (eI 0), .d (.v nilS), .d (.v nilS)]), (640, 1, .box [.nown 1984 t.ins.n 1, .d (eI t.op.mark), .own 1986 0 t.op.rows.n 1, .d (eI t.wall), .d (eI t.pend.n), .own 1989 0 t.pend.panes.n 1, .own 1990 0 t.pend.lates.n 1]), (1986, 1, .arr 13 t.op.rows.n fun i => eRow (t.op.rows.g i)), (1989, 1, .arr 9 t.pend.panes.n fun i => ePane (t.pend.panes.g i)), (1990, 1, .arr 7 t.pend.lates.n fun i => eLat (t.pend.lates.g i)), (1984, 1, .nest 3 t.ins.n (fun i => eTskIn (t.ins.g i)) (some (k, [.own 9000 0 (t.ins.g k).queue.n 1, .d (eI (t.ins.g k).mark), .d (eB (t.ins.g k).held)]))), (9000, 1, .arr 5 (t.ins.g k).queue.n fun p => eItm ((t.ins.g k).queue.g p))]⟩ (cov_open 1984 9000 1 k (fun _ => false) [.sl 5 (t.ins.g k).queue.n fun p => eItm ((t.ins.g k).queue.g p), eI (t.ins.g k).mark, eB (t.ins.g k).held] rfl hk rfl ⟨.inr (flatR fun _ => flat_Itm _), trivial, trivial, trivial⟩ rfl (cov_of ?_ ?_ ?_)) ?_
      · (subst hA; repeat' first | exact True.intro | exact rfl |  apply And.intro | (intro _ _; rfl) | (intro _ _ _; rfl) | (intro q hq; exact absurd hq (Nat.not_lt_zero q)))
      · (subst hA; repeat' first | exact True.intro | exact rfl |  apply And.intro | (intro _ _; rfl) | (intro _ _ _; rfl) | (intro q hq; exact absurd hq (Nat.not_lt_zero q)))
      · (subst hA; repeat' first | exact True.intro | exact rfl |  apply And.intro | (intro _ _; rfl) | (intro _ _ _; rfl) | (intro q hq; exact absurd hq (Nat.not_lt_zero q)) | exact .inr (le_of_nble rfl) | exact .inl rfl | exact .inr (Nat.le_refl _))
      cbv
      repeat' first
        | exact (heq hA (by assumption)).elim
        | exact absurd (show false = true by subst hA; assumption) (by decide)
        | exact absurd (show true = false by subst hA; assumption) (by decide)
        | apply And.intro
        | exact True.intro
        | with_reducible rfl
        | exact same_of hA rfl
        | refine br_of hA (fun _ => ?_) (fun _ => ?_)
        | exact imp_of hA id
        | (refine imp_of hA ?_; subst hA; simp only [real, Bool.true_and]; exact id)
        | (refine ind_of hA ?_; decide +kernel)
        | (refine inb_of hA fun _ => ⟨Int.natCast_nonneg k, Int.ofNat_lt.2 hk⟩)
        | (refine same_of hA ?_; subst hA; rfl)
        | fail
      refine stop_of hA ⟨[(8, .c (.bp 512 1 0)), (10, .c (.bp 640 1 0))], [(512, 1, .box [.d (.v nilS), .d (eI 0), .d (.v nilS), .d (eI 0), .d (eI 0), .d (.v nilS), .d (.v nilS)]), (640, 1, .box [.nown 1984 t.ins.n 1, .d (eI t.op.mark), .own 1986 0 t.op.rows.n 1, .d (eI t.wall), .d (eI t.pend.n), .own 1989 0 t.pend.panes.n 1, .own 1990 0 t.pend.lates.n 1]), (1986, 1, .arr 13 t.op.rows.n fun i => eRow (t.op.rows.g i)), (1989, 1, .arr 9 t.pend.panes.n fun i => ePane (t.pend.panes.g i)), (1990, 1, .arr 7 t.pend.lates.n fun i => eLat (t.pend.lates.g i)), (1984, 1, .nest 3 t.ins.n (fun i => eTskIn (t.ins.g i)) none)]⟩ (cov_close 1984 (fun i => eTskIn (t.ins.g i)) [.sl 5 (t.ins.g k).queue.n fun p => eItm ((t.ins.g k).queue.g p), eI (t.ins.g k).mark, eB (t.ins.g k).held] [(9000, 1)] rfl ?_ rfl rfl (fun i _ hne => rfl) (cov_of ?_ ?_ ?_)) ?_
      · subst hA; exact close_own rfl (fun _ _ => rfl) (flatR fun _ => flat_Itm _) (close_v (close_v close_end))
      · (subst hA; repeat' first | exact True.intro | exact rfl |  apply And.intro | (intro _ _; rfl) | (intro _ _ _; rfl) | (intro q hq; exact absurd hq (Nat.not_lt_zero q)))
      · (subst hA; repeat' first | exact True.intro | exact rfl |  apply And.intro | (intro _ _; rfl) | (intro _ _ _; rfl) | (intro q hq; exact absurd hq (Nat.not_lt_zero q)))
      · (subst hA; repeat' first | exact True.intro | exact rfl |  apply And.intro | (intro _ _; rfl) | (intro _ _ _; rfl) | (intro q hq; exact absurd hq (Nat.not_lt_zero q)) | exact .inr (le_of_nble rfl) | exact .inl rfl | exact .inr (Nat.le_refl _))
      cbv
      repeat' first
        | apply And.intro
        | exact True.intro
        | with_reducible rfl
        | exact same_of hA rfl
        | refine br_of hA (fun _ => ?_) (fun _ => ?_)
        | exact imp_of hA id
        | (refine imp_of hA ?_; subst hA; simp only [real, Bool.true_and]; exact id)
        | (refine ind_of hA ?_; decide +kernel)
        | (subst hA; rfl)
        | fail
  · have wr : IntKind.i64.wrap ((t.ins.n : Int) - 1) = t.ins.n - 1 := IntWalk.i64_in _ (by omega)
    obtain ⟨b3, h3, m3⟩ := c_l1In c 0 ((t.ins.n : Int) - 1)
    have h3 : b3 = true ↔ (0 ≤ c ∧ c < (t.ins.n : Int)) := by
      rw [h3, decide_eq_true_eq]; omega
    have ey : y = (tskZ, false) := by rw [hy]; unfold putP; rw [dif_neg hok]
    subst ey
    have hbadF : ∀ {A : Ar}, real = A → A.bite (A.bite (A.bnot b1) true (A.bnot b3)) true (A.bnot b2) = false → False := fun hA h => by
      subst hA
      have h : (bif (bif !b1 then true else !b3) then true else !b2) = false := h
      refine hok ⟨h1.1 ?_, h2.1 ?_, h3.1 ?_⟩ <;> (revert h; cases b1 <;> cases b2 <;> cases b3 <;> intro h <;> first | rfl | cases h)
    refine meets_wk (r := .tup [.agg [.d (.v nilS), .d (eI 0), .d (.v nilS), .d (eI 0), .d (eI 0), .d (.v nilS), .d (.v nilS)], .c (.d (eB false))]) ?_ ⟨le_tskZ, DLe.rfl, trivial⟩
    refine meets_of (H := [4, 5, 7]) (EX := EXA) ttok mixed Tryz.func8 rfl (by kernel_rfl) (by decide) ?_
    generalize hA : real = A
    generalize hM : MeetsB Tryz.prog = M
    cbv
    repeat' first
      | exact (hbadF hA (by assumption)).elim
      | apply And.intro
      | exact True.intro
      | with_reducible rfl
      | exact same_of hA rfl
      | refine br_of hA (fun _ => ?_) (fun _ => ?_)
      | exact imp_of hA id
      | (refine imp_of hA ?_; subst hA; simp only [real, Bool.true_and]; exact id)
      | (refine ind_of hA ?_; decide +kernel)
      | (refine call_of hA hM _ m1 ?_; cbv)
      | (refine call_of hA hM _ m2 ?_; cbv)
      | (refine call_of2 hA hM _ m3 (by subst hA; show [XT.c (.d (eI c)), XT.c (.d (eI 0)), XT.c (.d (eI (IntKind.i64.wrap ((t.ins.n : Int) - 1))))] = _; first | (rw [wr]; done) | (rw [wr]; rfl)) ?_; cbv)
      | fail
end Go.Rk
/- The law, walked. -/
namespace Go.Rk
set_option linter.unusedSimpArgs false
set_option linter.unusedVariables false
open Go.Proofs Go.ChangeShapes Go.WideShapes Go.ChangeAt Go.RowKit
set_option maxRecDepth 100000
set_option maxHeartbeats 4000000
def EXL : FuncId → List Nat × Bool := fun f => bif nbeq f 14 then ([99], false) else bif nbeq f 8 then ([], true) else ([], false)
theorem m_law (j : JobT) (t : TskT) (c : Int) (x : ItmT) : Meets Tryz.prog 3 [xd (eJob j), xd (eTsk t), .c (.d (eI c)), xd (eItm x)] ⟨.one (.c (.d (eB true))), [none, none, none, none]⟩ := by
  obtain ⟨z, hz⟩ : ∃ z : Int, z = szTsk t 1048576 := ⟨_, rfl⟩
  have hc := sz_Tsk t 1048576 (by omega) (by omega) z hz
  have hs := szTsk_spec t (l0 := 1048576) (by omega) (by omega)
  have ht : 0 ≤ szTsk t 1048576 → totTsk t ≤ 13631488 := totTsk_le
  rw [← hz] at hs ht
  obtain ⟨y, hy⟩ : ∃ y, y = putP j t c x := ⟨_, rfl⟩
  refine meets_of (H := [2, 6, 12, 16, 24]) (EX := EXL) ttok mixed Tryz.func3 rfl (by kernel_rfl) (by decide) ?_
  generalize hA : real = A
  generalize hM : MeetsB Tryz.prog = M
  cbv
  repeat' first
    | apply And.intro
    | exact True.intro
    | with_reducible rfl
    | exact same_of hA rfl
    | refine br_of hA (fun _ => ?_) (fun _ => ?_)
    | exact imp_of hA id
    | (refine imp_of hA ?_; subst hA; simp only [real, Bool.true_and]; exact id)
    | (refine ind_of hA ?_; decide +kernel)
    | fail
  refine stop_of hA ⟨[(9, .c (.d (eI 1048576))), (2, .c (.d (eI c))), (4, .c (.bp 256 1 0)), (5, .c (.bp 320 1 0)), (7, .c (.bp 448 1 0))], [(256, 1, .box [.d (eI j.srcs), .d (eI j.tsks), .d (eI j.kind), .d (eI j.size), .d (eI j.step), .d (eI j.late), .d (eI j.tell), .d (eB j.piece), .d (eI j.least), .d (eI j.room)]), (320, 1, .box ((eTsk t).map .d)), (448, 1, .box ((eItm x).map .d))]⟩ (cov_of ?_ ?_ ?_) ?_
  · (subst hA; (repeat' first | exact True.intro | exact rfl | apply And.intro | (intro _ _; first | rfl | trivial) | (intro _ _ _; rfl)))
  · (subst hA; (repeat' first | exact True.intro | exact rfl | apply And.intro | (intro _ _; first | rfl | trivial) | (intro _ _ _; rfl)))
  · (subst hA; (repeat' first | exact True.intro | exact rfl | apply And.intro | (intro _ _; first | rfl | trivial) | (intro _ _ _; rfl) | exact .inl rfl | exact .inr (le_of_nble rfl)))
  cbv
  repeat' first
    | apply And.intro
    | exact True.intro
    | with_reducible rfl
    | exact same_of hA rfl
    | refine br_of hA (fun _ => ?_) (fun _ => ?_)
    | exact imp_of hA id
    | (refine imp_of hA ?_; subst hA; simp only [real, Bool.true_and]; exact id)
    | (refine ind_of hA ?_; decide +kernel)
    | (refine call_of hA hM _ hc ?_; cbv)
    | fail
  rename_i hge
  have hz0 : 0 ≤ z := by subst hA; have h : ¬ z < 0 := of_decide_eq_false hge; omega
  have hbd : bdTsk t := hs.2.2 hz0
  have htx := ht hz0
  obtain ⟨hbdy, hty⟩ := put_bd hbd htx hy
  have hI := c_TskPut j t hbd c x y hy
  have hS := c_sTskPut j t hbd c x y hy
  have hto := to_TskO t hbd
  obtain ⟨Qx⟩ := tskM_ex 1 t ⟨by omega, by omega⟩ (by omega)
  obtain ⟨Qy⟩ := tskM_ex 1 y.1 ⟨by omega, by omega⟩ hty
  have kx := k_tmarkx Qx hbd
  have kg := k_tmarkg Qy hbdy
  have hh := helds_Tsk Qy hbdy
  have hneg : ∀ {A : Ar} (v : Int), 0 ≤ v → real = A → A.cmp .lss v 0 = true → False := fun v hv hA h => by subst hA; exact absurd (of_decide_eq_true h) (Int.not_lt.2 hv)
  have nbt : ∀ {A : Ar}, real = A → A.bite (A.bnot true) true (A.bnot (A.beq y.2 y.2)) = true → False := fun hA h => by
    subst hA
    have h : (bif !true then true else !(y.2 == y.2)) = true := h
    cases e : y.2 <;> rw [e] at h <;> cases h
  have nxt : ∀ {A : Ar}, real = A → A.bite (A.bite (A.cmp .lss Qx.k4 0) true (A.bnot true)) true (A.bnot (A.beq y.2 y.2)) = true → False := fun hA h => by
    subst hA
    have h : (bif (bif decide (Qx.k4 < 0) then true else !true) then true else !(y.2 == y.2)) = true := h
    rw [decide_eq_false (Int.not_lt.2 Qx.b4.1)] at h
    cases e : y.2 <;> rw [e] at h <;> cases h
  repeat' first
    | apply And.intro
    | exact True.intro
    | with_reducible rfl
    | exact same_of hA rfl
    | refine br_of hA (fun _ => ?_) (fun _ => ?_)
    | exact imp_of hA id
    | (refine imp_of hA ?_; subst hA; simp only [real, Bool.true_and]; exact id)
    | (refine ind_of hA ?_; decide +kernel)
    | (refine call_of hA hM _ (to_Job j) ?_; cbv)
    | (refine call_of hA hM _ hto ?_; cbv)
    | (refine call_of hA hM _ (to_Itm x) ?_; cbv)
    | (refine call_of2 hA hM _ hS (by (subst hA; first | rfl | (simp only [sub0r]; done) | (simp only [sub0r]; rfl))) ?_; cbv)
    | (subst hA; exact flatR fun _ => flat_Row _)
    | (subst hA; exact flatR fun _ => flat_Pane _)
    | (subst hA; exact flatR fun _ => flat_Lat _)
    | (subst hA; exact flatR fun _ => flat_int _)
    | fail
  refine stop_of hA ⟨[(2, .c (.d (eI c))), (4, .c (.bp 256 1 0)), (5, .c (.bp 320 1 0)), (7, .c (.bp 448 1 0)), (10, .c (.bp 640 1 0)), (11, .c (.d (eB y.2)))], [(256, 1, .box [.d (eI j.srcs), .d (eI j.tsks), .d (eI j.kind), .d (eI j.size), .d (eI j.step), .d (eI j.late), .d (eI j.tell), .d (eB j.piece), .d (eI j.least), .d (eI j.room)]), (320, 1, .box ((eTsk t).map .d)), (448, 1, .box ((eItm x).map .d)), (640, 1, .box ((eTsk y.1).map .d))]⟩ (cov_of ?_ ?_ ?_) ?_
  · (subst hA; (repeat' first | exact True.intro | exact rfl | apply And.intro | (intro _ _; first | rfl | trivial) | (intro _ _ _; rfl)))
  · (subst hA; (repeat' first | exact True.intro | exact rfl | apply And.intro | (intro _ _; first | rfl | trivial) | (intro _ _ _; rfl)))
  · (subst hA; (repeat' first | exact True.intro | exact rfl | apply And.intro | (intro _ _; first | rfl | trivial) | (intro _ _ _; rfl) | exact .inl rfl | exact .inr (le_of_nble rfl)))
  cbv
  repeat' first
    | exact (hneg Qy.k4 Qy.b4.1 hA (by assumption)).elim
    | exact (nbt hA (by assumption)).elim
    | exact (nxt hA (by assumption)).elim
    | apply And.intro
    | exact True.intro
    | with_reducible rfl
    | exact same_of hA rfl
    | refine br_of hA (fun _ => ?_) (fun _ => ?_)
    | exact imp_of hA id
    | (refine imp_of hA ?_; subst hA; simp only [real, Bool.true_and]; exact id)
    | (refine ind_of hA ?_; decide +kernel)
    | (refine call_of hA hM _ (to_Job j) ?_; cbv)
    | (refine call_of hA hM _ hto ?_; cbv)
    | (refine call_of hA hM _ (to_Itm x) ?_; cbv)
    | (subst hA; exact flatR fun _ => flat_Row _)
    | (subst hA; exact flatR fun _ => flat_Pane _)
    | (subst hA; exact flatR fun _ => flat_Lat _)
    | (subst hA; exact flatR fun _ => flat_int _)
    | (refine call_of2 hA hM _ hI (by (subst hA; first | rfl | (simp only [sub0r]; done) | (simp only [sub0r]; rfl))) ?_; cbv)
    | (refine call_of2 hA hM _ (eq_Tsk y.1) (by (subst hA; first | rfl | (simp only [sub0r]; done) | (simp only [sub0r]; rfl))) ?_; cbv)
    | (refine call_of2 hA hM _ (eq_Tsk t) (by (subst hA; first | rfl | (simp only [sub0r]; done) | (simp only [sub0r]; rfl))) ?_; cbv)
    | (exfalso; rename_i h; subst hA; simp [real] at h; done)
    | fail
  refine stop_of hA ⟨[(2, .c (.d (eI c))), (4, .c (.bp 256 1 0)), (5, .c (.bp 320 1 0)), (7, .c (.bp 448 1 0)), (10, .c (.bp 640 1 0)), (11, .c (.d (eB y.2))), (12, .c (.bp 768 1 0)), (13, .c (.bp 832 1 0)), (14, .c (.d (eB y.2)))], [(256, 1, .box [.d (eI j.srcs), .d (eI j.tsks), .d (eI j.kind), .d (eI j.size), .d (eI j.step), .d (eI j.late), .d (eI j.tell), .d (eB j.piece), .d (eI j.least), .d (eI j.room)]), (320, 1, .box ((eTsk t).map .d)), (448, 1, .box ((eItm x).map .d)), (640, 1, .box ((eTsk y.1).map .d)), (768, 1, .box [.nown 2368 t.ins.n 1, .d (eI t.op.mark), .own 2370 0 t.op.rows.n 1, .d (eI t.wall), .d (eI t.pend.n), .own 2373 0 t.pend.panes.n 1, .own 2374 0 t.pend.lates.n 1]), (2368, 1, .nest 3 t.ins.n (fun i => eTskIn (t.ins.g i)) none), (2370, 1, .arr 13 t.op.rows.n fun i => eRow (t.op.rows.g i)), (2373, 1, .arr 9 t.pend.panes.n fun i => ePane (t.pend.panes.g i)), (2374, 1, .arr 7 t.pend.lates.n fun i => eLat (t.pend.lates.g i)), (832, 1, .box [.nown 2880 y.1.ins.n 1, .d (eI y.1.op.mark), .own 2882 0 y.1.op.rows.n 1, .d (eI y.1.wall), .d (eI y.1.pend.n), .own 2885 0 y.1.pend.panes.n 1, .own 2886 0 y.1.pend.lates.n 1]), (2880, 1, .nest 3 y.1.ins.n (fun i => eTskIn (y.1.ins.g i)) none), (2882, 1, .arr 13 y.1.op.rows.n fun i => eRow (y.1.op.rows.g i)), (2885, 1, .arr 9 y.1.pend.panes.n fun i => ePane (y.1.pend.panes.g i)), (2886, 1, .arr 7 y.1.pend.lates.n fun i => eLat (y.1.pend.lates.g i))]⟩ (cov_of ?_ ?_ ?_) ?_
  · (subst hA; (repeat' first | exact True.intro | exact rfl | apply And.intro | (intro _ _; first | rfl | trivial) | (intro _ _ _; rfl)))
  · (subst hA; (repeat' first | exact True.intro | exact rfl | apply And.intro | (intro _ _; first | rfl | trivial) | (intro _ _ _; rfl)))
  · (subst hA; (repeat' first | exact True.intro | exact rfl | apply And.intro | (intro _ _; first | rfl | trivial) | (intro _ _ _; rfl) | exact .inl rfl | exact .inr (le_of_nble rfl)))
  cbv
  repeat' first
    | exact (hneg Qy.k4 Qy.b4.1 hA (by assumption)).elim
    | exact (nbt hA (by assumption)).elim
    | exact (nxt hA (by assumption)).elim
    | apply And.intro
    | exact True.intro
    | with_reducible rfl
    | exact same_of hA rfl
    | refine br_of hA (fun _ => ?_) (fun _ => ?_)
    | exact imp_of hA id
    | (refine imp_of hA ?_; subst hA; simp only [real, Bool.true_and]; exact id)
    | (refine ind_of hA ?_; decide +kernel)
    | (refine call_of hA hM _ (to_Job j) ?_; cbv)
    | (refine call_of hA hM _ hto ?_; cbv)
    | (refine call_of hA hM _ (to_Itm x) ?_; cbv)
    | (subst hA; exact flatR fun _ => flat_Row _)
    | (subst hA; exact flatR fun _ => flat_Pane _)
    | (subst hA; exact flatR fun _ => flat_Lat _)
    | (subst hA; exact flatR fun _ => flat_int _)
    | (refine inl_call hA _ _ _ ⟨fun _ => (by rw [← hM]; exact kx), (by cbv; repeat' first | apply And.intro | exact True.intro | rfl | exact .inr trivial | exact .inl trivial), ?_⟩; cbv)
    | (refine call_of2 hA hM _ (eq_Tsk y.1) (by (subst hA; first | rfl | (simp only [sub0r]; done) | (simp only [sub0r]; rfl))) ?_; cbv)
    | (refine call_of2 hA hM _ (eq_Tsk t) (by (subst hA; first | rfl | (simp only [sub0r]; done) | (simp only [sub0r]; rfl))) ?_; cbv)
    | (exfalso; rename_i h; subst hA; simp [real] at h; done)
    | fail
  refine stop_of hA ⟨[(2, .c (.d (eI c))), (4, .c (.bp 256 1 0)), (5, .c (.bp 320 1 0)), (7, .c (.bp 448 1 0)), (10, .c (.bp 640 1 0)), (11, .c (.d (eB y.2))), (13, .c (.bp 832 1 0)), (14, .c (.d (eB y.2)))], [(256, 1, .box [.d (eI j.srcs), .d (eI j.tsks), .d (eI j.kind), .d (eI j.size), .d (eI j.step), .d (eI j.late), .d (eI j.tell), .d (eB j.piece), .d (eI j.least), .d (eI j.room)]), (320, 1, .box ((eTsk t).map .d)), (448, 1, .box ((eItm x).map .d)), (640, 1, .box ((eTsk y.1).map .d)), (832, 1, .box [.nown 2880 y.1.ins.n 1, .d (eI y.1.op.mark), .own 2882 0 y.1.op.rows.n 1, .d (eI y.1.wall), .d (eI y.1.pend.n), .own 2885 0 y.1.pend.panes.n 1, .own 2886 0 y.1.pend.lates.n 1]), (2880, 1, .nest 3 y.1.ins.n (fun i => eTskIn (y.1.ins.g i)) none), (2882, 1, .arr 13 y.1.op.rows.n fun i => eRow (y.1.op.rows.g i)), (2885, 1, .arr 9 y.1.pend.panes.n fun i => ePane (y.1.pend.panes.g i)), (2886, 1, .arr 7 y.1.pend.lates.n fun i => eLat (y.1.pend.lates.g i))]⟩ (cov_of ?_ ?_ ?_) ?_
  · (subst hA; (repeat' first | exact True.intro | exact rfl | apply And.intro | (intro _ _; first | rfl | trivial) | (intro _ _ _; rfl)))
  · (subst hA; (repeat' first | exact True.intro | exact rfl | apply And.intro | (intro _ _; first | rfl | trivial) | (intro _ _ _; rfl)))
  · (subst hA; (repeat' first | exact True.intro | exact rfl | apply And.intro | (intro _ _; first | rfl | trivial) | (intro _ _ _; rfl) | exact .inl rfl | exact .inr (le_of_nble rfl)))
  cbv
  repeat' first
    | exact (hneg Qy.k4 Qy.b4.1 hA (by assumption)).elim
    | exact (nbt hA (by assumption)).elim
    | exact (nxt hA (by assumption)).elim
    | apply And.intro
    | exact True.intro
    | with_reducible rfl
    | exact same_of hA rfl
    | refine br_of hA (fun _ => ?_) (fun _ => ?_)
    | exact imp_of hA id
    | (refine imp_of hA ?_; subst hA; simp only [real, Bool.true_and]; exact id)
    | (refine ind_of hA ?_; decide +kernel)
    | (refine call_of hA hM _ (to_Job j) ?_; cbv)
    | (refine call_of hA hM _ hto ?_; cbv)
    | (refine call_of hA hM _ (to_Itm x) ?_; cbv)
    | (subst hA; exact flatR fun _ => flat_Row _)
    | (subst hA; exact flatR fun _ => flat_Pane _)
    | (subst hA; exact flatR fun _ => flat_Lat _)
    | (subst hA; exact flatR fun _ => flat_int _)
    | (refine inl_call hA _ _ _ ⟨fun _ => (by rw [← hM]; exact kg), (by cbv; repeat' first | apply And.intro | exact True.intro | rfl | exact .inr trivial | exact .inl trivial), ?_⟩; cbv)
    | (refine call_of2 hA hM _ hh (by (subst hA; first | rfl | (simp only [sub0r]; done) | (simp only [sub0r]; rfl))) ?_; cbv)
    | (exfalso; rename_i h; subst hA; simp [real] at h; done)
    | fail
  refine stop_of hA ⟨[(2, .c (.d (eI c))), (4, .c (.bp 256 1 0)), (5, .c (.bp 320 1 0)), (7, .c (.bp 448 1 0)), (10, .c (.bp 640 1 0)), (11, .c (.d (eB y.2))), (13, .c (.bp 832 1 0)), (14, .c (.d (eB y.2))), (16, .c (.d (eI Qy.k4)))], [(256, 1, .box [.d (eI j.srcs), .d (eI j.tsks), .d (eI j.kind), .d (eI j.size), .d (eI j.step), .d (eI j.late), .d (eI j.tell), .d (eB j.piece), .d (eI j.least), .d (eI j.room)]), (320, 1, .box ((eTsk t).map .d)), (448, 1, .box ((eItm x).map .d)), (640, 1, .box ((eTsk y.1).map .d)), (832, 1, .box [.nown 2880 y.1.ins.n 1, .d (eI y.1.op.mark), .own 2882 0 y.1.op.rows.n 1, .d (eI y.1.wall), .d (eI y.1.pend.n), .own 2885 0 y.1.pend.panes.n 1, .own 2886 0 y.1.pend.lates.n 1]), (2880, 1, .nest 3 y.1.ins.n (fun i => eTskIn (Qy.f1 i)) none), (2882, 1, .arr 13 y.1.op.rows.n fun i => eRow (Qy.f2 i)), (2885, 1, .arr 9 y.1.pend.panes.n fun i => ePane (Qy.f3 i)), (2886, 1, .arr 7 y.1.pend.lates.n fun i => eLat (Qy.f4 i))]⟩ (cov_of ?_ ?_ ?_) ?_
  · (subst hA; (repeat' first | exact True.intro | exact rfl | apply And.intro | (intro _ _; first | rfl | trivial) | (intro _ _ _; rfl)))
  · (subst hA; (repeat' first | exact True.intro | exact rfl | apply And.intro | (intro _ _; first | rfl | trivial) | (intro _ _ _; rfl)))
  · (subst hA; (repeat' first | exact True.intro | exact rfl | apply And.intro | (intro _ _; first | rfl | trivial) | (intro _ _ _; rfl) | exact .inl rfl | exact .inr (le_of_nble rfl)))
  cbv
  repeat' first
    | exact (hneg Qy.k4 Qy.b4.1 hA (by assumption)).elim
    | exact (nbt hA (by assumption)).elim
    | exact (nxt hA (by assumption)).elim
    | apply And.intro
    | exact True.intro
    | with_reducible rfl
    | exact same_of hA rfl
    | refine br_of hA (fun _ => ?_) (fun _ => ?_)
    | exact imp_of hA id
    | (refine imp_of hA ?_; subst hA; simp only [real, Bool.true_and]; exact id)
    | (refine ind_of hA ?_; decide +kernel)
    | (refine call_of hA hM _ (to_Job j) ?_; cbv)
    | (refine call_of hA hM _ hto ?_; cbv)
    | (refine call_of hA hM _ (to_Itm x) ?_; cbv)
    | (subst hA; exact flatR fun _ => flat_Row _)
    | (subst hA; exact flatR fun _ => flat_Pane _)
    | (subst hA; exact flatR fun _ => flat_Lat _)
    | (subst hA; exact flatR fun _ => flat_int _)
    | (refine call_of2 hA hM _ hI (by (subst hA; first | rfl | (simp only [sub0r]; done) | (simp only [sub0r]; rfl))) ?_; cbv)
    | (refine call_of2 hA hM _ (eq_Tsk y.1) (by (subst hA; first | rfl | (simp only [sub0r]; done) | (simp only [sub0r]; rfl))) ?_; cbv)
    | (refine call_of2 hA hM _ (eq_Tsk t) (by (subst hA; first | rfl | (simp only [sub0r]; done) | (simp only [sub0r]; rfl))) ?_; cbv)
    | (refine call_of2 hA hM _ hh (by (subst hA; first | rfl | (simp only [sub0r]; done) | (simp only [sub0r]; rfl))) ?_; cbv)
    | (exfalso; rename_i h; subst hA; simp [real] at h; done)
    | fail
  all_goals trace_state
end Go.Rk
