/- The walk over this seat's functions, part 10: what each of them answers, at all data. -/
import Derived.Test.YtaceckhmclddeaaM1
import Derived.Test.YtaceckhmclddeaaM2
import Derived.Test.YtaceckhmclddeaaM3
import Derived.Test.YtaceckhmclddeaaM4
import Derived.Test.YtaceckhmclddeaaM5
import Derived.Test.YtaceckhmclddeaaM6
import Derived.Test.YtaceckhmclddeaaM7
import Derived.Test.YtaceckhmclddeaaM8
import Derived.Test.YtaceckhmclddeaaM9
import Derived.Test.YtaceckhmclddeaaRows
import Derived.WalkKit
import Derived.ProofKit
import Derived.OpenShut
import Derived.ShutString
import Derived.ChangeOld
import Derived.SizedLaws
import Derived.DataShut
/- Tasks: tsk. -/
namespace Go.Rk
set_option linter.unusedSimpArgs false
set_option linter.unusedVariables false
open Go.Proofs
set_option maxRecDepth 100000
set_option maxHeartbeats 1000000
def stIxItm0 (n : Nat) (g : Nat → ItmT) (F : FuncId) (i : Nat) : St := ⟨[(8, .c (.d (eI i))), (7, .c (.d (eI n))), (0, .c (.d (.sl 5 n fun i => eItm (g i)))), (1, .c (.d (.fn F [])))], []⟩
set_option maxRecDepth 100000 in
theorem c_IndexItm0 (n : Nat) (hn : n ≤ maxLen) (g : Nat → ItmT) (F : FuncId) (Q : ItmT → Prop) (hc : ∀ r, ∃ b, (b = true ↔ Q r) ∧ Meets Try.prog F [xd (eItm r)] ⟨.one (.c (.d (eB b))), [none]⟩) : ∃ x, FirstIx n (fun i => Q (g i)) x ∧ Meets Try.prog 128 [.c (.d (.sl 5 n fun i => eItm (g i))), .c (.d (.fn F []))] ⟨.one (.c (.d (eI x))), [none, none]⟩ := by
  obtain ⟨x, hx⟩ := firstIx_ex n fun i => Q (g i)
  refine ⟨x, hx, ?_⟩
  refine meets_of (H := []) (EX := EXA) ttok mixed Try.func128 rfl (by kernel_rfl) (by decide) ?_
  generalize hA : real = A
  generalize hM : MeetsB Try.prog = M
  cbv
  repeat' first
    | apply And.intro
    | exact True.intro
    | with_reducible rfl
    | exact same_of hA rfl
    | refine br_of hA (fun _ => ?_) (fun _ => ?_)
    | exact imp_of hA id
    | (refine imp_of hA ?_; subst hA; simp only [real, Bool.true_and]; exact id)
    | (refine ind_of hA ?_; decide +kernel)
  refine loop_of hA (α := { i : Nat // i ≤ n ∧ ∀ j, j < i → ¬ Q (g j) }) (fun x => stIxItm0 n g F x.1) (fun x => n - x.1) ⟨0, Nat.zero_le _, fun j h => absurd h (Nat.not_lt_zero _)⟩ ?_ ?_
  · refine cov_of ?_ ?_ ?_
    · cbv; subst hA; exact ⟨rfl, rfl, trivial⟩
    · cbv
    · cbv
  rintro ⟨i, hi, hb⟩
  cbv
  repeat' first
    | apply And.intro
    | exact True.intro
    | with_reducible rfl
    | exact same_of hA rfl
    | refine br_of hA (fun _ => ?_) (fun _ => ?_)
    | exact imp_of hA id
    | (refine imp_of hA ?_; subst hA; simp only [real, Bool.true_and]; exact id)
    | (refine ind_of hA ?_; decide +kernel)
    | (refine inb_of hA fun _ => ?_; subst hA; simp only [real, decide_eq_true_eq, Int.ofNat_eq_natCast] at *; omega)
  · refine call_ex hA hM (hc (g (A.nat (Int.ofNat i)))) (fun b hbb => ?_)
    cbv
    repeat' first
      | apply And.intro
      | exact True.intro
      | with_reducible rfl
      | exact same_of hA rfl
      | refine br_of hA (fun _ => ?_) (fun _ => ?_)
      | exact imp_of hA id
      | (refine imp_of hA ?_; subst hA; simp only [real, Bool.true_and]; exact id)
      | (refine ind_of hA ?_; decide +kernel)
    · rename_i hlt ht
      subst hA
      simp only [real, decide_eq_true_eq, Int.ofNat_eq_natCast, Int.toNat_natCast] at *
      obtain rfl := firstIx_one hx (.at i (by omega) (hbb.1 ht) hb)
      rfl
    · rename_i hlt ht
      have hlt' : i < n := by subst hA; simp only [real, decide_eq_true_eq, Int.ofNat_eq_natCast] at hlt; omega
      refine ⟨⟨i + 1, by omega, fun j hj => ?_⟩, by simp only; omega, cov_of ?_ ?_ ?_⟩
      · by_cases e : j = i
        · subst e
          subst hA
          intro hq
          have := hbb.2 hq
          rw [ht] at this
          cases this
        · exact hb j (by omega)
      · cbv
        subst hA
        exact ⟨congrArg (fun x => DV.v (.int .i64 x)) (up64 hlt' hn), trivial⟩
      · cbv
      · cbv
  · subst hA
    simp only [real, decide_eq_false_iff_not, Int.ofNat_eq_natCast] at *
    obtain rfl := firstIx_one hx (.none fun j hj => hb j (by omega))
    rfl
set_option maxRecDepth 100000 in
theorem c_ContainsItm0 (n : Nat) (hn : n ≤ maxLen) (g : Nat → ItmT) (F : FuncId) (Q : ItmT → Prop) (hc : ∀ r, ∃ b, (b = true ↔ Q r) ∧ Meets Try.prog F [xd (eItm r)] ⟨.one (.c (.d (eB b))), [none]⟩) : ∃ b, (b = true ↔ ∃ i, i < n ∧ Q (g i)) ∧ Meets Try.prog 85 [.c (.d (.sl 5 n fun i => eItm (g i))), .c (.d (.fn F []))] ⟨.one (.c (.d (eB b))), [none, none]⟩ := by
  obtain ⟨x, hx, hm⟩ := c_IndexItm0 n hn g F Q hc
  obtain ⟨b, hb⟩ : ∃ b, b = decide (0 ≤ x) := ⟨_, rfl⟩
  have hxx := firstIx_neg hx
  refine ⟨b, by rw [hb, decide_eq_true_eq]; exact hxx.1, ?_⟩
  refine meets_of (H := []) (EX := EXA) ttok mixed Try.func85 rfl (by kernel_rfl) (by decide) ?_
  generalize hA : real = A
  generalize hM : MeetsB Try.prog = M
  cbv
  repeat' first
    | apply And.intro
    | exact True.intro
    | with_reducible rfl
    | exact same_of hA rfl
    | refine br_of hA (fun _ => ?_) (fun _ => ?_)
    | exact imp_of hA id
    | (refine imp_of hA ?_; subst hA; simp only [real, Bool.true_and]; exact id)
    | (refine ind_of hA ?_; decide +kernel)
    | (refine call_of hA hM _ hm ?_; cbv)
  all_goals subst hA
  all_goals refine congrArg (fun b => XA.one (.c (.d (eB b)))) (Bool.eq_iff_iff.2 ?_)
  all_goals subst_vars
  all_goals try simp only [real, bifA, bifB, bifC, bifD, decide_eq_true_eq, decide_eq_false_iff_not, beq_iff_eq, bne_iff_ne, beq_eq_false_iff_ne, bne_eq_false_iff_eq, ne_eq, Bool.and_eq_true, Bool.or_eq_true, Bool.not_eq_true', Bool.not_eq_false', Bool.and_eq_false_iff, Bool.or_eq_false_iff, Bool.false_eq_true, and_false, false_and, or_false, false_or, and_true, true_and, not_true_eq_false, not_false_eq_true, true_iff, false_iff, IntKind.wrap_i64] at *
  all_goals first
    | omega
    | skip
def stIxPane0 (n : Nat) (g : Nat → PaneT) (F : FuncId) (i : Nat) : St := ⟨[(8, .c (.d (eI i))), (7, .c (.d (eI n))), (0, .c (.d (.sl 9 n fun i => ePane (g i)))), (1, .c (.d (.fn F [])))], []⟩
set_option maxRecDepth 100000 in
theorem c_IndexPane0 (n : Nat) (hn : n ≤ maxLen) (g : Nat → PaneT) (F : FuncId) (Q : PaneT → Prop) (hc : ∀ r, ∃ b, (b = true ↔ Q r) ∧ Meets Try.prog F [xd (ePane r)] ⟨.one (.c (.d (eB b))), [none]⟩) : ∃ x, FirstIx n (fun i => Q (g i)) x ∧ Meets Try.prog 126 [.c (.d (.sl 9 n fun i => ePane (g i))), .c (.d (.fn F []))] ⟨.one (.c (.d (eI x))), [none, none]⟩ := by
  obtain ⟨x, hx⟩ := firstIx_ex n fun i => Q (g i)
  refine ⟨x, hx, ?_⟩
  refine meets_of (H := []) (EX := EXA) ttok mixed Try.func126 rfl (by kernel_rfl) (by decide) ?_
  generalize hA : real = A
  generalize hM : MeetsB Try.prog = M
  cbv
  repeat' first
    | apply And.intro
    | exact True.intro
    | with_reducible rfl
    | exact same_of hA rfl
    | refine br_of hA (fun _ => ?_) (fun _ => ?_)
    | exact imp_of hA id
    | (refine imp_of hA ?_; subst hA; simp only [real, Bool.true_and]; exact id)
    | (refine ind_of hA ?_; decide +kernel)
  refine loop_of hA (α := { i : Nat // i ≤ n ∧ ∀ j, j < i → ¬ Q (g j) }) (fun x => stIxPane0 n g F x.1) (fun x => n - x.1) ⟨0, Nat.zero_le _, fun j h => absurd h (Nat.not_lt_zero _)⟩ ?_ ?_
  · refine cov_of ?_ ?_ ?_
    · cbv; subst hA; exact ⟨rfl, rfl, trivial⟩
    · cbv
    · cbv
  rintro ⟨i, hi, hb⟩
  cbv
  repeat' first
    | apply And.intro
    | exact True.intro
    | with_reducible rfl
    | exact same_of hA rfl
    | refine br_of hA (fun _ => ?_) (fun _ => ?_)
    | exact imp_of hA id
    | (refine imp_of hA ?_; subst hA; simp only [real, Bool.true_and]; exact id)
    | (refine ind_of hA ?_; decide +kernel)
    | (refine inb_of hA fun _ => ?_; subst hA; simp only [real, decide_eq_true_eq, Int.ofNat_eq_natCast] at *; omega)
  · refine call_ex hA hM (hc (g (A.nat (Int.ofNat i)))) (fun b hbb => ?_)
    cbv
    repeat' first
      | apply And.intro
      | exact True.intro
      | with_reducible rfl
      | exact same_of hA rfl
      | refine br_of hA (fun _ => ?_) (fun _ => ?_)
      | exact imp_of hA id
      | (refine imp_of hA ?_; subst hA; simp only [real, Bool.true_and]; exact id)
      | (refine ind_of hA ?_; decide +kernel)
    · rename_i hlt ht
      subst hA
      simp only [real, decide_eq_true_eq, Int.ofNat_eq_natCast, Int.toNat_natCast] at *
      obtain rfl := firstIx_one hx (.at i (by omega) (hbb.1 ht) hb)
      rfl
    · rename_i hlt ht
      have hlt' : i < n := by subst hA; simp only [real, decide_eq_true_eq, Int.ofNat_eq_natCast] at hlt; omega
      refine ⟨⟨i + 1, by omega, fun j hj => ?_⟩, by simp only; omega, cov_of ?_ ?_ ?_⟩
      · by_cases e : j = i
        · subst e
          subst hA
          intro hq
          have := hbb.2 hq
          rw [ht] at this
          cases this
        · exact hb j (by omega)
      · cbv
        subst hA
        exact ⟨congrArg (fun x => DV.v (.int .i64 x)) (up64 hlt' hn), trivial⟩
      · cbv
      · cbv
  · subst hA
    simp only [real, decide_eq_false_iff_not, Int.ofNat_eq_natCast] at *
    obtain rfl := firstIx_one hx (.none fun j hj => hb j (by omega))
    rfl
set_option maxRecDepth 100000 in
theorem c_ContainsPane0 (n : Nat) (hn : n ≤ maxLen) (g : Nat → PaneT) (F : FuncId) (Q : PaneT → Prop) (hc : ∀ r, ∃ b, (b = true ↔ Q r) ∧ Meets Try.prog F [xd (ePane r)] ⟨.one (.c (.d (eB b))), [none]⟩) : ∃ b, (b = true ↔ ∃ i, i < n ∧ Q (g i)) ∧ Meets Try.prog 82 [.c (.d (.sl 9 n fun i => ePane (g i))), .c (.d (.fn F []))] ⟨.one (.c (.d (eB b))), [none, none]⟩ := by
  obtain ⟨x, hx, hm⟩ := c_IndexPane0 n hn g F Q hc
  obtain ⟨b, hb⟩ : ∃ b, b = decide (0 ≤ x) := ⟨_, rfl⟩
  have hxx := firstIx_neg hx
  refine ⟨b, by rw [hb, decide_eq_true_eq]; exact hxx.1, ?_⟩
  refine meets_of (H := []) (EX := EXA) ttok mixed Try.func82 rfl (by kernel_rfl) (by decide) ?_
  generalize hA : real = A
  generalize hM : MeetsB Try.prog = M
  cbv
  repeat' first
    | apply And.intro
    | exact True.intro
    | with_reducible rfl
    | exact same_of hA rfl
    | refine br_of hA (fun _ => ?_) (fun _ => ?_)
    | exact imp_of hA id
    | (refine imp_of hA ?_; subst hA; simp only [real, Bool.true_and]; exact id)
    | (refine ind_of hA ?_; decide +kernel)
    | (refine call_of hA hM _ hm ?_; cbv)
  all_goals subst hA
  all_goals refine congrArg (fun b => XA.one (.c (.d (eB b)))) (Bool.eq_iff_iff.2 ?_)
  all_goals subst_vars
  all_goals try simp only [real, bifA, bifB, bifC, bifD, decide_eq_true_eq, decide_eq_false_iff_not, beq_iff_eq, bne_iff_ne, beq_eq_false_iff_ne, bne_eq_false_iff_eq, ne_eq, Bool.and_eq_true, Bool.or_eq_true, Bool.not_eq_true', Bool.not_eq_false', Bool.and_eq_false_iff, Bool.or_eq_false_iff, Bool.false_eq_true, and_false, false_and, or_false, false_or, and_true, true_and, not_true_eq_false, not_false_eq_true, true_iff, false_iff, IntKind.wrap_i64] at *
  all_goals first
    | omega
    | skip
end Go.Rk
/- Records: pairs. -/
namespace Go.Rk
set_option linter.unusedSimpArgs false
set_option linter.unusedVariables false
open Go.Proofs
set_option maxRecDepth 100000
set_option maxHeartbeats 1000000
open Classical in
set_option maxRecDepth 100000 in
theorem c_notRec (x : ItmT) : ∃ b, (b = true ↔ ¬ RecP x) ∧ Meets Try.prog 86 [xd (eItm x)] ⟨.one (.c (.d (eB b))), [none]⟩ := by
  obtain ⟨b, hb⟩ : ∃ b : Bool, (b = true ↔ ¬ RecP x) := ⟨decide (¬ RecP x), by rw [decide_eq_true_eq]⟩
  refine ⟨b, hb, ?_⟩
  obtain ⟨kind, t, key, v, n⟩ := x
  refine meets_of (H := []) (EX := EXA) ttok mixed Try.func86 rfl (by kernel_rfl) (by decide) ?_
  generalize hA : real = A
  generalize hM : MeetsB Try.prog = M
  cbv
  repeat' first
    | apply And.intro
    | exact True.intro
    | with_reducible rfl
    | exact same_of hA rfl
    | refine br_of hA (fun _ => ?_) (fun _ => ?_)
    | exact imp_of hA id
    | (refine imp_of hA ?_; subst hA; simp only [real, Bool.true_and]; exact id)
    | (refine ind_of hA ?_; decide +kernel)
    | (refine call_ex hA hM (c_isRec _ _ _ _ _) (fun _ _ => ?_); cbv)
    | fail
  rename_i b1 hb1
  refine congrArg (fun b => XA.one (.c (.d (eB b)))) (Bool.eq_iff_iff.2 ?_)
  subst hA; subst hb1
  rw [hb]
  simp only [real, bifA, bifB, bifC, bifD, beqB, decide_eq_true_eq, decide_eq_false_iff_not, beqI, bneI, beqIF, bneIF, ne_eq, Bool.and_eq_true, Bool.or_eq_true, Bool.not_eq_true', Bool.not_eq_false', Bool.and_eq_false_iff, Bool.or_eq_false_iff, Bool.false_eq_true, and_false, false_and, or_false, false_or, and_true, true_and, not_true_eq_false, not_false_eq_true, true_iff, false_iff, Int.ofNat_eq_natCast, Int.toNat_natCast]
  unfold RecP ItmOkP
  simp only
  omega
def st_Spco (j : JobT) (m : Nat) (g : Nat → ItmT) (i n : Nat) (row : Nat → List DV) : St := ⟨[(24, .c (.d (eI i))), (23, .c (.d (eI m))), (22, .c (.d (.sl 5 m fun i => eItm (g i)))), (2, .c (.bp 128 1 0)), (5, .c (.own 2688 0 n 1))], [(128, 1, .box ((eJob j).map .d)), (2688, 1, .arr 7 n row)]⟩
def st_Spci (j : JobT) (m : Nat) (g : Nat → ItmT) (i nw : Nat) (gw : Nat → WinT) (k n : Nat) (row : Nat → List DV) : St := ⟨[(33, .c (.d (eI k))), (32, .c (.d (eI nw))), (31, .c (.own 1984 0 nw 1)), (7, .c (.bp 448 1 0)), (24, .c (.d (eI i))), (23, .c (.d (eI m))), (22, .c (.d (.sl 5 m fun i => eItm (g i)))), (2, .c (.bp 128 1 0)), (5, .c (.own 2688 0 n 1))], [(1984, 1, .arr 2 nw fun i => eWin (gw i)), (448, 1, .box ((eItm (g i)).map .d)), (128, 1, .box ((eJob j).map .d)), (2688, 1, .arr 7 n row)]⟩
set_option maxRecDepth 100000 in
theorem m_Spc (j : JobT) (m : Nat) (hm : m ≤ maxLen) (g : Nat → ItmT) (hok : SpcOkP j m g) (n0 : Nat) (G : Nat → LatT) (hl : Tells zLat eLat (pairsL j g m) n0 (fun i => eLat (G i))) : Meets Try.prog 36 [xd (eJob j), .c (.d (.sl 5 m fun i => eItm (g i)))] ⟨.one (.c (.own 7 n0 fun i => eLat (G i))), [none, none]⟩ := by
  have hcon := c_ContainsItm0 m hm g 86 _ c_notRec
  refine meets_of (H := [13]) (EX := EXA) ttok mixed Try.func36 rfl (by kernel_rfl) (by decide) ?_
  generalize hA : real = A
  generalize hM : MeetsB Try.prog = M
  cbv
  repeat' first
    | apply And.intro
    | exact True.intro
    | with_reducible rfl
    | exact same_of hA rfl
    | refine br_of hA (fun _ => ?_) (fun _ => ?_)
    | exact imp_of hA id
    | (refine imp_of hA ?_; subst hA; simp only [real, Bool.true_and]; exact id)
    | (refine ind_of hA ?_; decide +kernel)
    | (refine call_ex hA hM (c_JobOkP j) (fun _ _ => ?_); cbv)
    | (refine call_ex hA hM hcon (fun _ _ => ?_); cbv)
    | fail
  · exfalso
    rename_i b1 hb1 b2 hb2 hbad
    subst hA
    simp only [real, bifA, bifB, bifC, bifD, beqB, decide_eq_true_eq, decide_eq_false_iff_not, beqI, bneI, beqIF, bneIF, ne_eq, Classical.not_not, Bool.and_eq_true, Bool.or_eq_true, Bool.not_eq_true', Bool.not_eq_false', Bool.and_eq_false_iff, Bool.or_eq_false_iff, Bool.false_eq_true, and_false, false_and, or_false, false_or, and_true, true_and, not_true_eq_false, not_false_eq_true, true_iff, false_iff, Int.ofNat_eq_natCast, Int.toNat_natCast] at hbad
    rcases hbad with (h | h) | h
    · have := hb1.2 hok.1
      rw [h] at this; cases this
    · have h : (m : Int) > 120 := h
      have := hok.2.1
      omega
    · obtain ⟨i, hi, hh⟩ := hb2.1 h
      exact hh (hok.2.2 i hi)
  refine loop_of hA (α := { q : Nat × Nat × (Nat → List DV) // q.1 ≤ m ∧ Tells zLat eLat (pairsL j g q.1) q.2.1 q.2.2 }) (fun y => st_Spco j m g y.1.1 y.1.2.1 y.1.2.2) (fun y => m - y.1.1) ⟨(0, 0, fun _ => []), Nat.zero_le _, rfl, fun k h => absurd h (Nat.not_lt_zero k)⟩ ?_ ?_
  · refine cov_prom 5 2688 1 7 (fun _ => []) (by cbv) (by cbv) (cov_of ?_ ?_ ?_)
    · cbv; try (subst hA; repeat' first | apply And.intro | exact True.intro | rfl)
    · cbv; try (subst hA; repeat' first | apply And.intro | exact True.intro | rfl | (intro k hk; exact absurd hk (Nat.not_lt_zero k)))
    · cbv
  rintro ⟨⟨i, n, row⟩, hi, hT⟩
  have hi : i ≤ m := hi
  have hT : Tells zLat eLat (pairsL j g i) n row := hT
  obtain ⟨gw, hgw⟩ : ∃ gw : Nat → WinT, gw = fun k => (winsL j (g i).t).getD k zWin := ⟨_, rfl⟩
  obtain ⟨nw, hnw⟩ : ∃ nw, nw = (winsL j (g i).t).length := ⟨_, rfl⟩
  have hTw : Tells zWin eWin (winsL j (g i).t) nw (fun i => eWin (gw i)) := ⟨hnw, fun k _ => by rw [hgw]⟩
  have hw100 : nw ≤ 100 := by rw [hnw]; exact winsL_len _ _
  have hn100 : n ≤ 100 * i := by rw [hT.1]; exact pairsL_len _ _ _
  have hm120 := hok.2.1
  cbv
  repeat' first
    | apply And.intro
    | exact True.intro
    | with_reducible rfl
    | exact same_of hA rfl
    | refine br_of hA (fun _ => ?_) (fun _ => ?_)
    | exact imp_of hA id
    | (refine imp_of hA ?_; subst hA; simp only [real, Bool.true_and]; exact id)
    | (refine ind_of hA ?_; decide +kernel)
    | (refine call_of hA hM _ (show Meets Try.prog 51 [xd (eJob j), .c (.d (eI (g (A.nat (Int.ofNat i))).t))] ⟨.one (.c (.own 2 nw fun i => eWin (gw i))), [none, none]⟩ from (by rename_i hlt; have hlt2 : i < m := (by subst hA; simp only [real, decide_eq_true_eq, Int.ofNat_eq_natCast] at hlt; omega); have hc := c_WinOf j (g i).t hok.1 (recP_t (hok.2.2 i hlt2)) nw gw hTw; subst hA; exact hc)) ?_; cbv)
    | (refine inb_of hA fun _ => ?_; subst hA; simp only [real, Bool.and_eq_true, Bool.not_eq_true', Bool.not_eq_false', decide_eq_true_eq, Int.ofNat_eq_natCast, IntKind.wrap_i64] at *; omega)
    | fail
  · rename_i hlt
    have hlt' : i < m := by subst hA; simp only [real, decide_eq_true_eq, Int.ofNat_eq_natCast] at hlt; omega
    refine loop_of hA (α := { q : Nat × Nat × (Nat → List DV) // q.1 ≤ nw ∧ Tells zLat eLat (pairsL j g i ++ ((winsL j (g i).t).take q.1).map (fun w => ⟨g i, w⟩)) q.2.1 q.2.2 }) (fun y => st_Spci j m g i nw gw y.1.1 y.1.2.1 y.1.2.2) (fun y => nw - y.1.1) ⟨(0, n, row), Nat.zero_le _, by simpa using hT⟩ ?_ ?_
    · refine cov_of ?_ ?_ ?_
      · cbv; try (subst hA; repeat' first | apply And.intro | exact True.intro | rfl)
      · cbv; try (subst hA; repeat' first | apply And.intro | exact True.intro | rfl | (intro _ _; rfl))
      · cbv
    rintro ⟨⟨k, n1, row1⟩, hk, hT1⟩
    have hk : k ≤ nw := hk
    have hT1 : Tells zLat eLat (pairsL j g i ++ ((winsL j (g i).t).take k).map (fun w => ⟨g i, w⟩)) n1 row1 := hT1
    have hn1 : n1 ≤ 100 * i + 100 := by
      have h1 := hT1.1
      rw [List.length_append, List.length_map, List.length_take] at h1
      have := pairsL_len j g i
      omega
    cbv
    repeat' first
      | apply And.intro
      | exact True.intro
      | with_reducible rfl
      | exact same_of hA rfl
      | refine br_of hA (fun _ => ?_) (fun _ => ?_)
      | exact imp_of hA id
      | (refine imp_of hA ?_; subst hA; simp only [real, Bool.true_and]; exact id)
      | (refine ind_of hA ?_; decide +kernel)
      | exact room_add hA (by omega) (by decide)
      | (refine inb_of hA fun _ => ?_; subst hA; simp only [real, Bool.and_eq_true, Bool.not_eq_true', Bool.not_eq_false', decide_eq_true_eq, Int.ofNat_eq_natCast, IntKind.wrap_i64] at *; omega)
      | fail
    · rename_i hlk
      have hlk' : k < nw := by subst hA; simp only [real, decide_eq_true_eq, Int.ofNat_eq_natCast] at hlk; omega
      have e := take_succ_getD (z := zWin) (l := winsL j (g i).t) (k := k) (by rw [← hnw]; exact hlk')
      refine ⟨⟨(k + 1, n1 + 1, fun q => if q < n1 then row1 q else eLat ⟨g i, gw k⟩), by simp only; omega, ?_⟩, by simp only; omega, cov_of ?_ ?_ ?_⟩
      · simp only
        rw [e, List.map_append, ← List.append_assoc]
        exact tells_snoc hT1 (fun q _ => by rw [hgw])
      · cbv
        subst hA
        repeat' first | apply And.intro | exact True.intro | exact congrArg (fun x => DV.v (.int .i64 x)) (up64 hlk' (Nat.le_trans hw100 (by decide))) | rfl
      · cbv
        subst hA
        repeat' first | apply And.intro | exact True.intro | rfl | (intro _ _; rfl) | (intro q hq; exact push_at rfl _ _ _ _ q hq) | (intro q hq; have e0 : real.add 0 (real.nat (Int.ofNat k)) = k := Nat.zero_add k; rw [e0]; exact push_at rfl _ _ _ _ q hq)
      · cbv
    · rename_i hgk
      have hkn : k = nw := by subst hA; simp only [real, decide_eq_false_iff_not, Int.ofNat_eq_natCast] at hgk; omega
      refine ⟨⟨(i + 1, n1, row1), by simp only; omega, ?_⟩, by simp only; omega, cov_of ?_ ?_ ?_⟩
      · simp only
        unfold pairsL
        rw [hkn, hnw, List.take_of_length_le (Nat.le_refl _)] at hT1
        exact hT1
      · cbv
        subst hA
        repeat' first | apply And.intro | exact True.intro | exact congrArg (fun x => DV.v (.int .i64 x)) (up64 hlt' hm) | rfl
      · cbv; try (subst hA; repeat' first | apply And.intro | exact True.intro | rfl | (intro _ _; rfl))
      · cbv
  · rename_i hge
    have hin : i = m := by
      subst hA
      simp only [real, decide_eq_false_iff_not, Int.ofNat_eq_natCast] at hge
      omega
    subst hin
    have hnn : n = n0 := hT.1.trans hl.1.symm
    subst hnn
    refine stop_of hA ⟨[(5, .c (.own 2688 0 n 1))], [(2688, 1, .arr 7 n fun i => eLat (G i))]⟩ (cov_of ?_ ?_ ?_) ?_
    · cbv
    · cbv
      exact ⟨fun q hq => (hT.2 q hq).trans (hl.2 q hq).symm, trivial⟩
    · cbv
    · cbv
      repeat' first
        | apply And.intro
        | exact True.intro
        | with_reducible rfl
        | exact same_of hA rfl
        | refine br_of hA (fun _ => ?_) (fun _ => ?_)
        | exact imp_of hA id
        | (refine imp_of hA ?_; subst hA; simp only [real, Bool.true_and]; exact id)
        | (refine ind_of hA ?_; decide +kernel)
        | fail
set_option maxRecDepth 100000 in
theorem m_Spc0 (j : JobT) (m : Nat) (hm : m ≤ maxLen) (g : Nat → ItmT) (hok : ¬ SpcOkP j m g) : Meets Try.prog 36 [xd (eJob j), .c (.d (.sl 5 m fun i => eItm (g i)))] ⟨.one (.c (.d (.v nilS))), [none, none]⟩ := by
  have hcon := c_ContainsItm0 m hm g 86 _ c_notRec
  refine meets_of (H := []) (EX := EXA) ttok mixed Try.func36 rfl (by kernel_rfl) (by decide) ?_
  generalize hA : real = A
  generalize hM : MeetsB Try.prog = M
  cbv
  repeat' first
    | apply And.intro
    | exact True.intro
    | with_reducible rfl
    | exact same_of hA rfl
    | refine br_of hA (fun _ => ?_) (fun _ => ?_)
    | exact imp_of hA id
    | (refine imp_of hA ?_; subst hA; simp only [real, Bool.true_and]; exact id)
    | (refine ind_of hA ?_; decide +kernel)
    | (refine call_ex hA hM (c_JobOkP j) (fun _ _ => ?_); cbv)
    | (refine call_ex hA hM hcon (fun _ _ => ?_); cbv)
    | fail
  exfalso
  rename_i b1 hb1 b2 hb2 hgood
  have e2 := nex hb2
  subst hA
  simp only [real, bifA, bifB, bifC, bifD, beqB, decide_eq_true_eq, decide_eq_false_iff_not, beqI, bneI, beqIF, bneIF, ne_eq, Classical.not_not, Bool.and_eq_true, Bool.or_eq_true, Bool.not_eq_true', Bool.not_eq_false', Bool.and_eq_false_iff, Bool.or_eq_false_iff, Bool.false_eq_true, and_false, false_and, or_false, false_or, and_true, true_and, not_true_eq_false, not_false_eq_true, true_iff, false_iff, Int.ofNat_eq_natCast, Int.toNat_natCast] at hgood
  have h : ¬ (m : Int) > 120 := hgood.1.2
  exact hok ⟨hb1.1 hgood.1.1, by omega, e2.1 hgood.2⟩
theorem c_Spc (j : JobT) (m : Nat) (hm : m ≤ maxLen) (g : Nat → ItmT) (n0 : Nat) (G : Nat → LatT) (hl : Tells zLat eLat (spcL j m g) n0 (fun i => eLat (G i))) : Meets Try.prog 36 [xd (eJob j), .c (.d (.sl 5 m fun i => eItm (g i)))] ⟨.one (.c (.own 7 n0 fun i => eLat (G i))), [none, none]⟩ := by
  unfold spcL at hl
  by_cases hok : SpcOkP j m g
  · rw [if_pos hok] at hl
    exact m_Spc j m hm g hok n0 G hl
  · rw [if_neg hok] at hl
    have hn : n0 = 0 := hl.1
    subst hn
    exact meets_nil (m_Spc0 j m hm g hok)
end Go.Rk
/- Records: tab. -/
namespace Go.Rk
set_option linter.unusedSimpArgs false
set_option linter.unusedVariables false
open Go.Proofs
set_option maxRecDepth 100000
set_option maxHeartbeats 1000000
def st_SpcT (j : JobT) (n : Nat) (gp : Nat → LatT) (i c : Nat) (G : Nat → TabT) : St := ⟨[(15, .c (.d (eI i))), (14, .c (.d (eI n))), (13, .c (.d (.sl 7 n fun i => eLat (gp i)))), (5, .c (.own 320 0 c 1)), (2, .c (.bp 128 1 0))], [(128, 1, .box ((eJob j).map .d)), (320, 1, .arr 7 c fun k => eTab (G k))]⟩
def st_SpcTi (j : JobT) (n : Nat) (gp : Nat → LatT) (i c : Nat) (G : Nat → TabT) (i2 c2 : Nat) (G2 : Nat → TabT) (sp : WinT) (a : AggT) : St := ⟨[(42, .c (.d (eI i2))), (41, .c (.d (eI c))), (40, .c (.d (.sl 7 c fun k => eTab (G k)))), (5, .c (.d (.sl 7 c2 fun k => eTab (G2 k)))), (8, .c (.bp 512 1 0)), (7, .c (.bp 448 1 0)), (15, .c (.d (eI i))), (14, .c (.d (eI n))), (13, .c (.d (.sl 7 n fun i => eLat (gp i)))), (2, .c (.bp 128 1 0))], [(512, 1, .box ((eTab ⟨(gp i).itm.key, sp, a⟩).map .d)), (448, 1, .box ((eLat (gp i)).map .d)), (128, 1, .box ((eJob j).map .d))]⟩
theorem c_SpcT (j : JobT) (m : Nat) (hm : m ≤ maxLen) (g : Nat → ItmT) (n0 : Nat) (G0 : Nat → TabT) (h0 : Lst zTab (spcT j.kind (spcL j m g)) n0 G0) : Meets Try.prog 32 [xd (eJob j), .c (.d (.sl 5 m fun i => eItm (g i)))] ⟨.one (.c (.own 7 n0 fun i => eTab (G0 i))), [none, none]⟩ := by
  obtain ⟨P, hP⟩ : ∃ P, P = spcL j m g := ⟨_, rfl⟩
  have hfi : Fine P := by rw [hP]; exact fine_spc j m g
  have hPl : P.length ≤ 12000 := by rw [hP]; exact spcL_len j m g
  rw [← hP] at h0
  obtain ⟨n, gp, hl⟩ := lst_ex zLat P
  have hn : n ≤ 12000 := by rw [hl.1]; exact hPl
  have hnL : n ≤ maxLen := Nat.le_trans hn (by decide)
  have cPair := meets_frz (c_Spc j m hm g n gp (by rw [← hP]; exact lst_tells eLat hl)) rfl
  refine meets_of (H := [19]) (EX := EXA) ttok mixed Try.func32 rfl (by kernel_rfl) (by decide) ?_
  generalize hA : real = A
  generalize hM : MeetsB Try.prog = M
  cbv
  repeat' first
    | apply And.intro
    | exact True.intro
    | with_reducible rfl
    | exact same_of hA rfl
    | refine br_of hA (fun _ => ?_) (fun _ => ?_)
    | exact imp_of hA id
    | (refine imp_of hA ?_; subst hA; simp only [real, Bool.true_and]; exact id)
    | (refine ind_of hA ?_; decide +kernel)
    | (refine call_of hA hM _ cPair ?_; cbv)
    | exact flat_lat hA _ _
    | fail
  refine loop_of hA (α := { q : Nat × Nat × (Nat → TabT) // q.1 ≤ n ∧ Lst zTab ((P.take q.1).foldl (stepI j.kind) []) q.2.1 q.2.2 }) (fun y => st_SpcT j n gp y.1.1 y.1.2.1 y.1.2.2) (fun y => n - y.1.1) ⟨(0, 0, fun _ => zTab), Nat.zero_le _, rfl, fun k h => absurd h (Nat.not_lt_zero k)⟩ ?_ ?_
  · refine cov_prom 5 320 1 7 (fun _ => []) rfl rfl (cov_of ?_ ?_ ?_)
    · cbv; try (subst hA; repeat' first | apply And.intro | exact True.intro | rfl | fail)
    · cbv; try (subst hA; repeat' first | apply And.intro | exact True.intro | rfl | (intro _ _; rfl) | (intro k hk; exact absurd hk (Nat.not_lt_zero k)) | fail)
    · cbv; try (subst hA; repeat' first | apply And.intro | exact True.intro | rfl | exact .inr trivial | exact .inl trivial)
  rintro ⟨⟨i, c, G⟩, hi, hT⟩
  have hi : i ≤ n := hi
  obtain ⟨T, hTe⟩ : ∃ T, T = (P.take i).foldl (stepI j.kind) [] := ⟨_, rfl⟩
  have hT : Lst zTab T c G := by rw [hTe]; exact hT
  have hci : c ≤ i := by
    rw [hT.1, hTe]
    have h1 := fold_len (stepI_len j.kind) (P.take i) []
    rw [List.length_take] at h1
    simp only [List.length_nil] at h1
    omega
  have hnext : i < n → ∀ m H, Lst zTab (stepI j.kind T (gp i)) m H → i + 1 ≤ n ∧ Lst zTab ((P.take (i + 1)).foldl (stepI j.kind) []) m H := fun h m H hH => ⟨h, by rw [lst_take hl h, fold_snoc, ← hTe]; exact hH⟩
  obtain ⟨a, ha⟩ : ∃ a, a = (tFind (gp i).itm.key (gp i).win T).getD zAgg := ⟨_, rfl⟩
  obtain ⟨b, hb⟩ : ∃ b, b = (tFind (gp i).itm.key (gp i).win T).isSome := ⟨_, rfl⟩
  obtain ⟨ag, hag⟩ : ∃ x, x = aggAdd a (gp i).itm.v := ⟨_, rfl⟩
  obtain ⟨np, Gp, hPu⟩ := lst_ex zTab (tPut ⟨(gp i).itm.key, (gp i).win, ag⟩ T)
  have cF := c_Find T c G hT (by omega) (gp i).itm.key (gp i).win a ha b hb
  have cA := c_AggAdd a (gp i).itm.v ag hag
  have cP := c_Put T c G hT (by omega) _ np Gp hPu
  cbv
  repeat' first
    | apply And.intro
    | exact True.intro
    | with_reducible rfl
    | exact same_of hA rfl
    | refine br_of hA (fun _ => ?_) (fun _ => ?_)
    | exact imp_of hA id
    | (refine imp_of hA ?_; subst hA; simp only [real, Bool.true_and]; exact id)
    | (refine ind_of hA ?_; decide +kernel)
    | (refine inb_lt hA ?_; first | exact lt2_of hA (by assumption) | exact lt_of hA (by assumption))
    | exact flat_tab hA _ _
    | (refine call_of2 hA hM _ cF (by (subst hA; first | rfl | (simp only [sub0r]; try rfl))) ?_; cbv)
    | (refine call_of2 hA hM _ cA (by (subst hA; first | rfl | (simp only [sub0r]; try rfl))) ?_; cbv)
    | (refine call_of2 hA hM _ cP (by (subst hA; first | rfl | (simp only [sub0r]; try rfl))) ?_; cbv)
    | fail
  · rename_i hlt hk
    have hlt' : i < n := by first | exact lt2_of hA hlt | exact lt_of hA hlt
    have hk : j.kind = 3 := by subst hA; exact of_decide_eq_true hk
    refine loop_of hA (α := { q : Nat × Nat × (Nat → TabT) × WinT × AggT // q.1 ≤ c ∧ Lst zTab (T.filter fun r => !((T.take q.1).any fun s => tchD (gp i).itm.key (gp i).win s && decide (IsRow s.key s.win r))) q.2.1 q.2.2.1 ∧ q.2.2.2.1 = (((T.take q.1).filter (tchD (gp i).itm.key (gp i).win)).map (·.win)).foldl winSpan (gp i).win ∧ q.2.2.2.2 = (((T.take q.1).filter (tchD (gp i).itm.key (gp i).win)).map (·.agg)).foldl aggB zAgg }) (fun y => st_SpcTi j n gp i c G y.1.1 y.1.2.1 y.1.2.2.1 y.1.2.2.2.1 y.1.2.2.2.2) (fun y => c - y.1.1) ⟨(0, c, G, (gp i).win, zAgg), Nat.zero_le _, ?_, rfl, rfl⟩ ?_ ?_
    · have e : (T.filter fun r => !((T.take 0).any fun s => tchD (gp i).itm.key (gp i).win s && decide (IsRow s.key s.win r))) = T := by rw [List.filter_eq_self]; intro r _; rfl
      simp only
      rw [e]; exact hT
    · refine cov_frz2 (k := 5) (k2 := 40) (l := 320) rfl rfl rfl (cov_of ?_ ?_ ?_)
      · cbv; try (subst hA; repeat' first | apply And.intro | exact True.intro | rfl | (intro _ _; rfl))
      · cbv; try (subst hA; repeat' first | apply And.intro | exact True.intro | rfl | (intro _ _; rfl) | (intro k hk; exact absurd hk (Nat.not_lt_zero k)) | (intro _ _; rfl))
      · cbv; try (subst hA; repeat' first | apply And.intro | exact True.intro | rfl | exact .inr trivial | exact .inl trivial)
    rintro ⟨⟨i2, c2, G2, sp, a2⟩, hi2, hG2, hsp, ha2⟩
    have hi2 : i2 ≤ c := hi2
    have hsp : sp = (((T.take i2).filter (tchD (gp i).itm.key (gp i).win)).map (·.win)).foldl winSpan (gp i).win := hsp
    have ha2 : a2 = (((T.take i2).filter (tchD (gp i).itm.key (gp i).win)).map (·.agg)).foldl aggB zAgg := ha2
    obtain ⟨T2, hT2⟩ : ∃ T2, T2 = T.filter fun r => !((T.take i2).any fun s => tchD (gp i).itm.key (gp i).win s && decide (IsRow s.key s.win r)) := ⟨_, rfl⟩
    have hG2 : Lst zTab T2 c2 G2 := by rw [hT2]; exact hG2
    have hc2 : c2 ≤ c := by rw [hG2.1, hT2, hT.1]; exact List.length_filter_le _ _
    obtain ⟨no, Go, hO⟩ := lst_ex zTab (tOut (G i2).key (G i2).win T2)
    obtain ⟨sp', hsp'⟩ : ∃ z, z = winSpan sp (G i2).win := ⟨_, rfl⟩
    obtain ⟨a2', ha2'⟩ : ∃ z, z = aggB a2 (G i2).agg := ⟨_, rfl⟩
    have cO := meets_frz (c_Out T2 c2 G2 hG2 (by omega) (G i2).key (G i2).win no Go hO) rfl
    have cS := c_WinSpan sp (G i2).win sp' hsp'
    have cB := c_AggBoth a2 (G i2).agg a2' ha2'
    cbv
    repeat' first
      | apply And.intro
      | exact True.intro
      | with_reducible rfl
      | exact same_of hA rfl
      | refine br_of hA (fun _ => ?_) (fun _ => ?_)
      | exact imp_of hA id
      | (refine imp_of hA ?_; subst hA; simp only [real, Bool.true_and]; exact id)
      | (refine ind_of hA ?_; decide +kernel)
      | (refine call_ex hA hM (c_WinTouch _ _ _ _) (fun _ _ => ?_); cbv)
      | (refine inb_lt hA ?_; first | exact lt2_of hA (by assumption) | exact lt_of hA (by assumption))
      | exact flat_tab hA _ _
      | (refine call_of2 hA hM _ cO (by (subst hA; first | rfl | (simp only [sub0r]; try rfl))) ?_; cbv)
      | (refine call_of2 hA hM _ cS (by (subst hA; first | rfl | (simp only [sub0r]; try rfl))) ?_; cbv)
      | (refine call_of2 hA hM _ cB (by (subst hA; first | rfl | (simp only [sub0r]; try rfl))) ?_; cbv)
      | fail
    · rename_i hlt2 bb hbb hc
      have hl2 : i2 < c := by first | exact lt2_of hA hlt2 | exact lt_of hA hlt2
      have hbb : bb = decide ((G i2).win.s < (gp i).win.e ∧ (gp i).win.s < (G i2).win.e) := by subst hA; exact hbb
      have ht : tchD (gp i).itm.key (gp i).win (G i2) = true := by
        subst hA
        have hc : (bif (G i2).key == (gp i).itm.key then bb else false) = true := hc
        rw [bifA, Bool.and_eq_true, hbb, decide_eq_true_eq] at hc
        exact decide_eq_true ⟨eq_of_beq hc.1, hc.2⟩
      refine ⟨⟨(i2 + 1, no, Go, sp', a2'), hl2, ?_, ?_, ?_⟩, by simp only; omega, cov_of ?_ ?_ ?_⟩
      · simp only
        have e : (T.filter fun r => !((T.take (i2 + 1)).any fun s => tchD (gp i).itm.key (gp i).win s && decide (IsRow s.key s.win r))) = tOut (G i2).key (G i2).win T2 := by
          rw [outs_step hT2, lst_take hT hl2]
          refine congrArg (fun f => T.filter f) (funext fun r => ?_)
          rw [List.any_append, Bool.not_or]
          simp [ht]
        rw [e]; exact hO
      · simp only
        rw [lst_take hT hl2, List.filter_append]
        have e : [G i2].filter (tchD (gp i).itm.key (gp i).win) = [G i2] := by simp [ht]
        rw [e, List.map_append, List.foldl_append, ← hsp, hsp']; rfl
      · simp only
        rw [lst_take hT hl2, List.filter_append]
        have e : [G i2].filter (tchD (gp i).itm.key (gp i).win) = [G i2] := by simp [ht]
        rw [e, List.map_append, List.foldl_append, ← ha2, ha2']; rfl
      · cbv; subst hA; repeat' first | apply And.intro | exact True.intro | exact congrArg (fun x => DV.v (.int .i64 x)) (up64 hl2 (Nat.le_trans hci (Nat.le_trans hi hnL))) | rfl
      · cbv; try (subst hA; repeat' first | apply And.intro | exact True.intro | rfl | (intro _ _; rfl))
      · cbv; try (subst hA; repeat' first | apply And.intro | exact True.intro | rfl | exact .inr trivial | exact .inl trivial)
    · rename_i hlt2 bb hbb hc
      have hl2 : i2 < c := by first | exact lt2_of hA hlt2 | exact lt_of hA hlt2
      have hbb : bb = decide ((G i2).win.s < (gp i).win.e ∧ (gp i).win.s < (G i2).win.e) := by subst hA; exact hbb
      have ht : tchD (gp i).itm.key (gp i).win (G i2) = false := by
        subst hA
        have hc : (bif (G i2).key == (gp i).itm.key then bb else false) = false := hc
        rw [bifA] at hc
        refine decide_eq_false fun e => ?_
        have h1 : ((G i2).key == (gp i).itm.key) = true := beq_iff_eq.2 e.1
        have h2 : bb = true := by rw [hbb]; exact decide_eq_true e.2
        rw [h1, h2] at hc; cases hc
      refine ⟨⟨(i2 + 1, c2, G2, sp, a2), hl2, ?_, ?_, ?_⟩, by simp only; omega, cov_of ?_ ?_ ?_⟩
      · simp only
        have e : (T.filter fun r => !((T.take (i2 + 1)).any fun s => tchD (gp i).itm.key (gp i).win s && decide (IsRow s.key s.win r))) = T2 := by
          rw [hT2, lst_take hT hl2]
          refine congrArg (fun f => T.filter f) (funext fun r => ?_)
          rw [List.any_append]
          simp [ht]
        rw [e]; exact hG2
      · simp only
        rw [lst_take hT hl2, List.filter_append]
        have e : [G i2].filter (tchD (gp i).itm.key (gp i).win) = [] := by simp [ht]
        rw [e, List.append_nil]; exact hsp
      · simp only
        rw [lst_take hT hl2, List.filter_append]
        have e : [G i2].filter (tchD (gp i).itm.key (gp i).win) = [] := by simp [ht]
        rw [e, List.append_nil]; exact ha2
      · cbv; subst hA; repeat' first | apply And.intro | exact True.intro | exact congrArg (fun x => DV.v (.int .i64 x)) (up64 hl2 (Nat.le_trans hci (Nat.le_trans hi hnL))) | rfl
      · cbv; try (subst hA; repeat' first | apply And.intro | exact True.intro | rfl | (intro _ _; rfl))
      · cbv; try (subst hA; repeat' first | apply And.intro | exact True.intro | rfl | exact .inr trivial | exact .inl trivial)
    · rename_i hge2
      have hin2 : i2 = c := by first | (have := ge2_of hA hge2; omega) | (have := ge_of hA hge2; omega)
      subst hin2
      rw [lst_all hT] at hT2 hsp ha2
      rw [outs_all] at hT2
      obtain ⟨ag3, hag3⟩ : ∃ x, x = aggAdd a2 (gp i).itm.v := ⟨_, rfl⟩
      obtain ⟨np3, Gp3, hPu3⟩ := lst_ex zTab (tPut ⟨(gp i).itm.key, sp, ag3⟩ T2)
      have cA3 := c_AggAdd a2 (gp i).itm.v ag3 hag3
      have cP3 := c_Put T2 c2 G2 hG2 (by omega) _ np3 Gp3 hPu3
      repeat' first
        | apply And.intro
        | exact True.intro
        | with_reducible rfl
        | exact same_of hA rfl
        | refine br_of hA (fun _ => ?_) (fun _ => ?_)
        | exact imp_of hA id
        | (refine imp_of hA ?_; subst hA; simp only [real, Bool.true_and]; exact id)
        | (refine ind_of hA ?_; decide +kernel)
        | (refine call_of2 hA hM _ cA3 (by (subst hA; first | rfl | (simp only [sub0r]; try rfl))) ?_; cbv)
        | (refine call_of2 hA hM _ cP3 (by (subst hA; first | rfl | (simp only [sub0r]; try rfl))) ?_; cbv)
        | exact flat_tab hA _ _
        | fail
      refine ⟨⟨(i + 1, np3, Gp3), hnext hlt' _ _ ?_⟩, by simp only; omega, cov_rel 320 2 (k := 5) (l := 5504) (sz := 7) rfl rfl rfl rfl (cov_of ?_ ?_ ?_)⟩
      · unfold stepI sessI; rw [if_pos hk, ← hsp, ← ha2, ← hT2, ← hag3]; exact hPu3
      · cbv; subst hA; repeat' first | apply And.intro | exact True.intro | exact congrArg (fun x => DV.v (.int .i64 x)) (up64 hlt' hnL) | rfl
      · cbv; try (subst hA; repeat' first | apply And.intro | exact True.intro | rfl | (intro _ _; rfl))
      · cbv; try (subst hA; repeat' first | apply And.intro | exact True.intro | rfl | exact .inr trivial | exact .inl trivial)
  · rename_i hlt hk
    have hlt' : i < n := by first | exact lt2_of hA hlt | exact lt_of hA hlt
    have hk : ¬ j.kind = 3 := by subst hA; exact of_decide_eq_false hk
    refine ⟨⟨(i + 1, np, Gp), hnext hlt' _ _ ?_⟩, by simp only; omega, cov_rel 320 2 (k := 5) (l := 5504) (sz := 7) rfl rfl rfl rfl (cov_of ?_ ?_ ?_)⟩
    · unfold stepI stepW; rw [if_neg hk, ← ha, ← hag]; exact hPu
    · cbv; subst hA; repeat' first | apply And.intro | exact True.intro | exact congrArg (fun x => DV.v (.int .i64 x)) (up64 hlt' hnL) | rfl
    · cbv; try (subst hA; repeat' first | apply And.intro | exact True.intro | rfl | (intro _ _; rfl))
    · cbv; try (subst hA; repeat' first | apply And.intro | exact True.intro | rfl | exact .inr trivial | exact .inl trivial)
  · rename_i hge
    have hin : i = n := by first | (have := ge2_of hA hge; omega) | (have := ge_of hA hge; omega)
    subst hin
    rw [lst_all hl, foldI_eq hfi] at hTe
    rw [hTe] at hT
    have hcc : c = n0 := hT.1.trans h0.1.symm
    subst hcc
    refine stop_of hA ⟨[(5, .c (.own 320 0 c 1))], [(320, 1, .arr 7 c fun i => eTab (G0 i))]⟩ (cov_of ?_ ?_ ?_) ?_
    · cbv
    · cbv
      exact ⟨fun q hq => congrArg eTab ((hT.2 q hq).trans (h0.2 q hq).symm), trivial⟩
    · cbv
    · cbv
      repeat' first
        | apply And.intro
        | exact True.intro
        | with_reducible rfl
        | exact same_of hA rfl
        | refine br_of hA (fun _ => ?_) (fun _ => ?_)
        | exact imp_of hA id
        | (refine imp_of hA ?_; subst hA; simp only [real, Bool.true_and]; exact id)
        | (refine ind_of hA ?_; decide +kernel)
        | fail
end Go.Rk
/- A log told to its end. -/
namespace Go.Rk
set_option linter.unusedSimpArgs false
set_option linter.unusedVariables false
theorem mkF_E {l : List ItmT} (h : ∀ x, x ∈ l → LogE x) : 0 ≤ mkF l ∧ mkF l ≤ 60 := by
  revert h
  refine snocInd (P := fun l => (∀ x, x ∈ l → LogE x) → 0 ≤ mkF l ∧ mkF l ≤ 60) (fun _ => ⟨Int.le_refl _, by decide⟩) (fun l x ih h => ?_) l
  have h1 := ih fun y hy => h y (List.mem_append_left _ hy)
  rw [mkF_snoc]
  split
  · rename_i hk
    rcases h x (by simp) with hr | ⟨t, ht, rfl⟩
    · exact absurd hr.1 (by omega)
    · show 0 ≤ (if mkF l < t then t else mkF l) ∧ (if mkF l < t then t else mkF l) ≤ 60
      split <;> omega
  · exact h1
theorem fed_end {j : JobT} (hj : JobOkP j) {l : List ItmT} (h : ∀ x, x ∈ l → LogE x) (hl : l.length ≤ 59) : (fedL j (l ++ [endE])).1 = 1000 ∧ (fedL j (l ++ [endE])).2.1 = [] := by
  have hX : ∀ x, x ∈ l → LogX x := fun x hx => .inl (h x hx)
  have hfi := fi_fed hj l hX (by omega)
  have hm := mkF_E h
  rw [← fed_mark j] at hm
  rw [fedL_snoc]
  unfold fedS
  rw [if_pos (show endE.kind = 2 from rfl)]
  have e : markL j (fedL j l).1 (fedL j l).2.1 endE.t = (1000, keepL j.late 1000 (fedL j l).2.1, tellL j.piece 1000 (fedL j l).2.1) := by
    unfold markL
    exact if_neg (show ¬ (1000 : Int) ≤ (fedL j l).1 by omega)
  rw [e]
  refine ⟨rfl, ?_⟩
  show keepL j.late 1000 (fedL j l).2.1 = []
  refine List.eq_nil_iff_forall_not_mem.2 fun r hr => ?_
  obtain ⟨q, hq, ho, _⟩ := keepL_mem.1 hr
  have hro := hfi.ok.1 q hq
  have hw := late_w hj hro.2.1
  have hd := winOk_d hro.2.1
  unfold overB at ho
  rw [hw] at ho
  have := of_decide_eq_false ho
  unfold JobOkP at hj
  omega
/-- Behind the end all that is known is told. -/
theorem known_end {j : JobT} (hj : JobOkP j) {l : List ItmT} (h : ∀ x, x ∈ l → LogE x) (hl : l.length ≤ 59) : ∃ P, Known j (l ++ [endE]) P (ofL j.piece (fedL j (l ++ [endE])).2.2.1) := by
  have hX : ∀ x, x ∈ l ++ [endE] → LogX x := fun x hx => by
    rcases List.mem_append.1 hx with hx | hx
    · exact .inl (h x hx)
    · simp at hx; exact .inr hx
  have hlen : (l ++ [endE]).length ≤ 60 := by rw [List.length_append]; simp; omega
  obtain ⟨P, K, hK⟩ := fed_K hj (l ++ [endE]) hX hlen
  have hT := fed_TI hj (l ++ [endE]) hX hlen
  obtain ⟨e1, e2⟩ := fed_end hj h hl
  have hi := hK.inv
  rw [e2] at hi
  have e := kinv_end hT.rise hi
  rw [e] at hK
  exact ⟨P, hK⟩
theorem lst_range {α : Type} {z : α} {l : List α} {n : Nat} {g : Nat → α} (h : Lst z l n g) : (List.range n).map g = l := by
  refine List.ext_getElem (by rw [List.length_map, List.length_range, h.1]) fun i h1 h2 => ?_
  rw [List.getElem_map, List.getElem_range, h.2 i (by rw [h.1]; exact h2), List.getD_eq_getElem?_getD, List.getElem?_eq_getElem h2]
  rfl
theorem spc_of {j : JobT} (hj : JobOkP j) {l : List ItmT} {n : Nat} {g : Nat → ItmT} (h : Lst endE l n g) (hn : n ≤ 120) (hr : ∀ x, x ∈ l → RecP x) : spcL j n g = pairsOf j l := by
  have hok : SpcOkP j n g := ⟨hj, hn, fun i hi => hr _ (lst_in h hi)⟩
  unfold spcL
  rw [if_pos hok, pairs_gl]
  show pairsOf j ((List.range n).map g) = _
  rw [lst_range h]
end Go.Rk
/- Panes are numbered from nought on, of each window of each key. -/
namespace Go.Rk
set_option linter.unusedSimpArgs false
set_option linter.unusedVariables false
def samB (k : Int) (w : WinT) (p : PaneT) : Bool := decide (p.key = k ∧ p.win.s = w.s ∧ p.win.e = w.e)
def samL (k : Int) (w : WinT) (l : List PaneT) : List PaneT := l.filter (samB k w)
theorem samL_app (k : Int) (w : WinT) (l m : List PaneT) : samL k w (l ++ m) = samL k w l ++ samL k w m := List.filter_append ..
theorem samL_nil {k : Int} {w : WinT} {l : List PaneT} (h : ∀ p, p ∈ l → ¬ (p.key = k ∧ p.win.s = w.s ∧ p.win.e = w.e)) : samL k w l = [] := by
  unfold samL
  rw [List.filter_eq_nil_iff]
  intro p hp hc
  exact h p hp (of_decide_eq_true hc)
/-- What so far was told of a window: so often, and never that it is gone. -/
def AtP (ps : List PaneT) (k : Int) (w : WinT) (no : Int) : Prop := no = ((samL k w ps).length : Int) ∧ ∀ q, q ∈ samL k w ps → q.kind ≠ 3
def SndL (ps : List PaneT) : Prop := ∀ l1 p l2, ps = l1 ++ p :: l2 → AtP l1 p.key p.win p.no
theorem snd_nil : SndL [] := fun l1 p l2 e => by
  have := congrArg List.length e
  simp at this
theorem snd_snoc {ps : List PaneT} {p : PaneT} (h : SndL ps) (hp : AtP ps p.key p.win p.no) : SndL (ps ++ [p]) := fun l1 q l2 e => by
  rcases List.eq_nil_or_concat l2 with rfl | ⟨l3, z, rfl⟩
  · obtain ⟨e1, e2⟩ := List.append_inj' e rfl
    simp at e2
    subst e1; subst e2
    exact hp
  · have e' : ps ++ [p] = (l1 ++ q :: l3) ++ [z] := by rw [e]; simp
    obtain ⟨e1, _⟩ := List.append_inj' e' rfl
    exact h l1 q l3 e1
theorem at_other {ps qs : List PaneT} {k : Int} {w : WinT} {no : Int} (h : AtP ps k w no) (hn : ∀ p, p ∈ qs → ¬ (p.key = k ∧ p.win.s = w.s ∧ p.win.e = w.e)) : AtP (ps ++ qs) k w no := by
  unfold AtP
  rw [samL_app, samL_nil hn, List.append_nil]; exact h
theorem at_same {ps : List PaneT} {p : PaneT} (h : AtP ps p.key p.win p.no) (hk : p.kind ≠ 3) (hno : 0 ≤ p.no ∧ p.no ≤ 1500) : AtP (ps ++ [p]) p.key p.win (w64 (p.no + 1)) := by
  unfold AtP
  have e : samL p.key p.win [p] = [p] := by unfold samL samB; simp
  rw [samL_app, e]
  refine ⟨?_, fun q hq => ?_⟩
  · rw [w64_id (by omega), List.length_append, h.1]; simp
  · rcases List.mem_append.1 hq with hq | hq
    · exact h.2 q hq
    · simp at hq; rw [hq]; exact hk
def GoodP (ps : List PaneT) (r : RowT) : Prop := AtP ps r.key r.win r.told
structure SInv (j : JobT) (m : Int) (l : List RowT) (ps : List PaneT) : Prop where
  snd : SndL ps
  good : ∀ r, r ∈ l → GoodP ps r
  cov : ∀ p, p ∈ ps → (∃ r, r ∈ l ∧ IsR p.key p.win r) ∨ p.win.e + j.late ≤ m ∨ (j.kind = 3 ∧ ∃ r, r ∈ l ∧ r.key = p.key ∧ r.win.s ≤ p.win.s ∧ p.win.e ≤ r.win.e ∧ ¬ IsR p.key p.win r)
theorem sinv_nil (j : JobT) (m : Int) : SInv j m [] [] := ⟨snd_nil, fun r hr => absurd hr (by simp), fun p hp => absurd hp (by simp)⟩
/-- A row told. -/
theorem tell_S {j : JobT} {m : Int} {ps : List PaneT} {r : RowT} (hs : SndL ps) (hg : GoodP ps r) (ht : 0 ≤ r.told ∧ r.told ≤ 1500) : SndL (ps ++ (tellS j m r).2) ∧ GoodP (ps ++ (tellS j m r).2) (tellS j m r).1 ∧
    (∀ q, ¬ IsR r.key r.win q → GoodP ps q → GoodP (ps ++ (tellS j m r).2) q) ∧ ∀ p, p ∈ (tellS j m r).2 → IsR p.key p.win r := by
  unfold tellS
  split
  · simp only [List.append_nil]
    exact ⟨hs, hg, fun _ _ h => h, fun p hp => absurd hp (by simp)⟩
  · refine ⟨snd_snoc hs hg, at_same (p := paneP j.piece r (kindT r)) hg (kindT_ne r) ht, fun q hn h => at_other h fun p hp => ?_, fun p hp => ?_⟩
    · simp at hp
      rw [hp]
      intro hc
      exact hn ⟨hc.1.symm, hc.2.1.symm, hc.2.2.symm⟩
    · simp at hp
      rw [hp]; exact ⟨rfl, rfl, rfl⟩
/-- One row more, in the place of some. -/
theorem put_S {j : JobT} {m : Int} {l1 : List RowT} {ps : List PaneT} {r : RowT} (hs : SndL ps) (ho : ∀ q, q ∈ l1 → ¬ IsR r.key r.win q → GoodP ps q) (hg : GoodP ps r) (ht : 0 ≤ r.told ∧ r.told ≤ 1500)
    (hc : ∀ p, p ∈ ps → (∃ q, q ∈ l1 ∧ IsR p.key p.win q) ∨ IsR p.key p.win r ∨ p.win.e + j.late ≤ m ∨ (j.kind = 3 ∧ ∃ q, (q ∈ l1 ∨ q = r) ∧ q.key = p.key ∧ q.win.s ≤ p.win.s ∧ p.win.e ≤ q.win.e ∧ ¬ IsR p.key p.win q)) :
    SInv j m (rPut (tellS j m r).1 l1) (ps ++ (tellS j m r).2) := by
  obtain ⟨_, e2, e3⟩ := tellS_all j m r
  have hR : ∀ q, IsR (tellS j m r).1.key (tellS j m r).1.win q ↔ IsR r.key r.win q := fun q => by rw [e2, e3]
  have hself : IsR r.key r.win (tellS j m r).1 := ⟨e2, by rw [e3], by rw [e3]⟩
  obtain ⟨t1, t2, t3, t4⟩ := tell_S (j := j) (m := m) hs hg ht
  have hmem : ∀ q, (q ∈ l1 ∨ q = r) → ∃ q', q' ∈ rPut (tellS j m r).1 l1 ∧ IsR q.key q.win q' := fun q hq => by
    by_cases hb : IsR r.key r.win q
    · exact ⟨_, mem_rPut.2 (.inl rfl), by unfold IsR at *; omega⟩
    · rcases hq with hq | rfl
      · exact ⟨q, mem_rPut.2 (.inr ⟨hq, fun hx => hb ((hR q).1 hx)⟩), ⟨rfl, rfl, rfl⟩⟩
      · exact absurd ⟨rfl, rfl, rfl⟩ hb
  refine ⟨t1, fun q hq => ?_, fun p hp => ?_⟩
  · rcases mem_rPut.1 hq with rfl | ⟨hq, hn⟩
    · exact t2
    · have hn : ¬ IsR r.key r.win q := fun hx => hn ((hR q).2 hx)
      exact t3 q hn (ho q hq hn)
  · rcases List.mem_append.1 hp with hp | hp
    · rcases hc p hp with ⟨q, hq, hi⟩ | hi | hcl | ⟨h3, q, hq, a1, a2, a3, a4⟩
      · obtain ⟨q', h1, h2⟩ := hmem q (.inl hq)
        exact .inl ⟨q', h1, by unfold IsR at *; omega⟩
      · exact .inl ⟨_, mem_rPut.2 (.inl rfl), by unfold IsR at *; omega⟩
      · exact .inr (.inl hcl)
      · obtain ⟨q', h1, h2⟩ := hmem q hq
        exact .inr (.inr ⟨h3, q', h1, by unfold IsR at *; omega, by unfold IsR at *; omega, by unfold IsR at *; omega, fun h => a4 (by unfold IsR at *; omega)⟩)
    · have hi := t4 p hp
      exact .inl ⟨_, mem_rPut.2 (.inl rfl), by unfold IsR at *; omega⟩
theorem into_S {j : JobT} {m k v : Int} {w : WinT} {l : List RowT} {ps : List PaneT} {q : List RowT × List PaneT} (hI : SInv j m l ps) (ht : ∀ r, r ∈ l → 0 ≤ r.told ∧ r.told ≤ 1500) (hlw : w64 (w.e + j.late) = w.e + j.late) (h3 : j.kind = 3 → rFind k w l ≠ none) (he : intoL j m k v w l = some q) :
    SInv j m q.1 (ps ++ q.2) := by
  unfold intoL at he
  split at he
  · cases he
  · rename_i hm
    rw [hlw] at hm
    cases he
    obtain ⟨r0, hr0⟩ : ∃ r0, r0 = (rFind k w l).getD (nrow k w) := ⟨_, rfl⟩
    show SInv j m (rPut (tellS j m (addR ((rFind k w l).getD (nrow k w)) v)).1 l) (ps ++ (tellS j m (addR ((rFind k w l).getD (nrow k w)) v)).2)
    rw [← hr0]
    have hg : GoodP ps r0 ∧ (0 ≤ r0.told ∧ r0.told ≤ 1500) := by
      cases hf : rFind k w l with
      | some r =>
        rw [hf] at hr0
        have hr0 : r0 = r := hr0
        obtain ⟨h1, _⟩ := rfind_mem hf
        rw [hr0]
        exact ⟨hI.good r h1, ht r h1⟩
      | none =>
        rw [hf] at hr0
        have hr0 : r0 = nrow k w := hr0
        rw [hr0]
        have e : samL k w ps = [] := samL_nil fun p hp hc => by
          rcases hI.cov p hp with ⟨r, hr, hi⟩ | hcl | ⟨hk, _⟩
          · exact rfind_no hf hr (by unfold IsR at *; omega)
          · omega
          · exact h3 hk hf
        refine ⟨?_, ⟨Int.le_refl _, (by decide : (0 : Int) ≤ 1500)⟩⟩
        show (0 : Int) = ((samL k w ps).length : Int) ∧ ∀ x, x ∈ samL k w ps → x.kind ≠ 3
        rw [e]
        exact ⟨rfl, fun x hx => absurd hx (by simp)⟩
    refine put_S (r := addR r0 v) hI.snd (fun x hx _ => hI.good x hx) hg.1 hg.2 fun p hp => ?_
    rcases hI.cov p hp with h | h | ⟨h1, x, hx, h2⟩
    · exact .inl h
    · exact .inr (.inr (.inl h))
    · exact .inr (.inr (.inr ⟨h1, x, .inl hx, h2⟩))
/-- Sessions that are gone. -/
theorem gone_S {l : List RowT} : ∀ (D : List RowT) (ps : List PaneT), (D.Pairwise fun a b => ¬ IsR a.key a.win b) → SndL ps → (∀ r, r ∈ D → GoodP ps r) →
    SndL (ps ++ goneL D) ∧ (∀ q, (∀ r, r ∈ D → ¬ IsR r.key r.win q) → GoodP ps q → GoodP (ps ++ goneL D) q) ∧ ∀ p, p ∈ goneL D → ∃ r, r ∈ D ∧ IsR p.key p.win r
  | [], ps, _, h, _ => by
    refine ⟨by show SndL (ps ++ []); rw [List.append_nil]; exact h, fun q _ hq => by show GoodP (ps ++ []) q; rw [List.append_nil]; exact hq, fun p hp => absurd hp (by unfold goneL; simp)⟩
  | d :: D, ps, hpw, h, hg => by
    rw [List.pairwise_cons] at hpw
    have e : goneL (d :: D) = (if 0 < d.told then [goneP d] else []) ++ goneL D := by
      unfold goneL
      rw [List.filter_cons]
      by_cases h : 0 < d.told
      · simp [h]
      · simp [h]
    have hps : SndL (ps ++ if 0 < d.told then [goneP d] else []) ∧ ∀ q, ¬ IsR d.key d.win q → GoodP ps q → GoodP (ps ++ if 0 < d.told then [goneP d] else []) q := by
      split
      · refine ⟨snd_snoc h (hg d (by simp)), fun q hn hq => at_other hq fun p hp => ?_⟩
        simp at hp
        rw [hp]
        intro hc
        exact hn ⟨hc.1.symm, hc.2.1.symm, hc.2.2.symm⟩
      · rw [List.append_nil]; exact ⟨h, fun _ _ hq => hq⟩
    obtain ⟨i1, i2, i3⟩ := gone_S (l := l) D _ hpw.2 hps.1 fun r hr => hps.2 r (hpw.1 r hr) (hg r (List.mem_cons_of_mem _ hr))
    rw [e, ← List.append_assoc]
    refine ⟨i1, fun q hn hq => i2 q (fun r hr => hn r (List.mem_cons_of_mem _ hr)) (hps.2 q (hn d (by simp)) hq), fun p hp => ?_⟩
    rcases List.mem_append.1 hp with hp | hp
    · split at hp
      · simp at hp
        rw [hp]
        exact ⟨d, by simp, ⟨rfl, rfl, rfl⟩⟩
      · simp at hp
    · obtain ⟨r, hr, hi⟩ := i3 p hp
      exact ⟨r, List.mem_cons_of_mem _ hr, hi⟩
theorem pw_two {α : Type} {S : α → α → Prop} : ∀ {l : List α}, l.Pairwise S → ∀ {x y : α}, x ∈ l → y ∈ l → x ≠ y → S x y ∨ S y x
  | [], _, _, _, hx, _, _ => absurd hx (by simp)
  | a :: l, h, x, y, hx, hy, hn => by
    rw [List.pairwise_cons] at h
    rcases List.mem_cons.1 hx with e1 | h1
    · rcases List.mem_cons.1 hy with e2 | h2
      · exact absurd (e1.trans e2.symm) hn
      · rw [e1]; exact .inl (h.1 y h2)
    · rcases List.mem_cons.1 hy with e2 | h2
      · rw [e2]; exact .inr (h.1 x h1)
      · exact pw_two h.2 h1 h2 hn
theorem sess_St {j : JobT} {m k v : Int} {w : WinT} {l : List RowT} {ps : List PaneT} {q : List RowT × List PaneT} (hj : JobOkP j) (h3 : j.kind = 3) (hol : OkL j m l) (hI : SInv j m l ps) (hw : WinOkP w) (he : sessL j m k v w l = some q) :
    SInv j m q.1 (ps ++ q.2) := by
  have hlw := late_w hj (span_ok (k := k) hol.1 hw)
  have hto : ∀ r, r ∈ l → 0 ≤ r.told ∧ r.told ≤ 1500 := fun r hr => (hol.1 r hr).2.2.2.2.2.2.1
  unfold sessL at he
  split at he
  · cases he
  · rename_i hm
    rw [hlw] at hm
    split at he
    · rename_i h1
      refine into_S hI hto hlw (fun _ hn => ?_) he
      obtain ⟨o, _, ho, hi⟩ := one_old h1
      exact rfind_no hn ho hi
    · rename_i h1
      cases he
      have hwd := winOk_d hw
      have hold : ∀ r, r ∈ oldL k w l → r ∈ l ∧ r.key = k ∧ TouchP r.win w ∧ (spanL w (oldL k w l)).s ≤ r.win.s ∧ r.win.e ≤ (spanL w (oldL k w l)).e ∧ ¬ IsR k (spanL w (oldL k w l)) r := fun r hr => by
        obtain ⟨o1, o2, o3⟩ := old_mem hr
        have hsp : (spanL w (oldL k w l)).s ≤ r.win.s ∧ r.win.e ≤ (spanL w (oldL k w l)).e := by
          have h := (span_spec ((oldL k w l).map (·.win)) w).2.2.1 r.win (List.mem_map.2 ⟨r, hr, rfl⟩)
          rw [List.foldl_map] at h
          exact h
        refine ⟨o1, o2, o3, hsp.1, hsp.2, fun hi => ?_⟩
        -- it is the only one
        have honly : ∀ x, x ∈ oldL k w l → x = r := fun x hx => by
          obtain ⟨x1, x2, x3⟩ := old_mem hx
          have hxs : (spanL w (oldL k w l)).s ≤ x.win.s ∧ x.win.e ≤ (spanL w (oldL k w l)).e := by
            have h := (span_spec ((oldL k w l).map (·.win)) w).2.2.1 x.win (List.mem_map.2 ⟨x, hx, rfl⟩)
            rw [List.foldl_map] at h
            exact h
          by_cases e : x = r
          · exact e
          · exfalso
            have hxw := winOk_d (hol.1 x x1).2.1
            have hpw := hol.2.2 h3
            rcases pw_two hpw x1 o1 e with h | h
            · exact h ⟨by omega, by unfold TouchP; unfold IsR at hi; omega⟩
            · exact h ⟨by omega, by unfold TouchP; unfold IsR at hi; omega⟩
        refine h1 ?_
        have hlist : oldL k w l = [r] := by
          have hri : RiseR (oldL k w l) := List.Pairwise.filter _ hol.2.1
          cases hO : oldL k w l with
          | nil => rw [hO] at hr; simp at hr
          | cons a t =>
            cases t with
            | nil => rw [hO] at honly; rw [honly a (by simp)]
            | cons b t =>
              rw [hO] at honly hri
              have ea := honly a (by simp)
              have eb := honly b (by simp)
              rw [RiseR, List.pairwise_cons] at hri
              have := hri.1 b (by simp)
              rw [ea, eb] at this
              exact absurd this (ra_irr r)
        unfold IsR at hi
        show oneB (spanL w (oldL k w l)) (oldL k w l) = true
        rw [show oneB (spanL w (oldL k w l)) (oldL k w l) = oneB (spanL w (oldL k w l)) [r] by rw [hlist]]
        exact decide_eq_true hi.2
      have hin := span_in w (oldL k w l) w ⟨Int.le_refl _, Int.le_refl _⟩
      obtain ⟨g1, g2, g3⟩ := gone_S (l := l) (oldL k w l) ps (by
        have hri : RiseR (oldL k w l) := List.Pairwise.filter _ hol.2.1
        exact hri.imp fun h hc => ra_ne h ⟨rfl, rfl, rfl⟩ hc) hI.snd fun r hr => hI.good r (hold r hr).1
      show SInv j m (rPut (tellS j m (sessRow k v w l)).1 (restL k w l)) (ps ++ (goneL (oldL k w l) ++ (tellS j m (sessRow k v w l)).2))
      rw [← List.append_assoc]
      have hnone : samL k (spanL w (oldL k w l)) (ps ++ goneL (oldL k w l)) = [] := samL_nil fun p hp hc => by
        rcases List.mem_append.1 hp with hp | hp
        · rcases hI.cov p hp with ⟨r, hr, hi⟩ | hcl | ⟨_, r, hr, a1, a2, a3, a4⟩
          · have hro : r ∈ oldL k w l := old_in hr (by unfold IsR at hi; omega) (by unfold TouchP; unfold IsR at hi; omega)
            exact (hold r hro).2.2.2.2.2 (by unfold IsR at *; omega)
          · omega
          · have hro : r ∈ oldL k w l := old_in hr (by omega) (by unfold TouchP; omega)
            obtain ⟨_, _, _, b1, b2, _⟩ := hold r hro
            exact a4 (by unfold IsR; omega)
        · obtain ⟨r, hr, hi⟩ := g3 p hp
          exact (hold r hr).2.2.2.2.2 (by unfold IsR at *; omega)
      refine put_S (r := sessRow k v w l) g1 (fun x hx _ => ?_) ?_ ⟨Int.le_refl _, (by decide : (0 : Int) ≤ 1500)⟩ fun p hp => ?_
      · obtain ⟨x1, x2⟩ := rest_mem hx
        refine g2 x (fun r hr hi => ?_) (hI.good x x1)
        obtain ⟨o1, o2, o3⟩ := old_mem hr
        obtain ⟨i1, i2⟩ := isR_eq hi
        exact x2 ⟨by rw [i1]; exact o2, by rw [i2]; exact o3⟩
      · show (0 : Int) = ((samL k (spanL w (oldL k w l)) _).length : Int) ∧ ∀ x, x ∈ samL k (spanL w (oldL k w l)) _ → x.kind ≠ 3
        rw [hnone]
        exact ⟨rfl, fun x hx => absurd hx (by simp)⟩
      · have hrow : ∀ r, r ∈ l → r.key = p.key → r.win.s ≤ p.win.s → p.win.e ≤ r.win.e → (∃ q, q ∈ restL k w l ∧ q = r) ∨ (∃ q, (q ∈ restL k w l ∨ q = sessRow k v w l) ∧ q.key = p.key ∧ q.win.s ≤ p.win.s ∧ p.win.e ≤ q.win.e ∧ ¬ IsR p.key p.win q) := fun r hr e1 e2 e3 => by
          cases ht : tchR k w r with
          | false => exact .inl ⟨r, List.mem_filter.2 ⟨hr, by simp [ht]⟩, rfl⟩
          | true =>
            obtain ⟨_, b0, _, b1, b2, b3⟩ := hold r (List.mem_filter.2 ⟨hr, ht⟩)
            refine .inr ⟨sessRow k v w l, .inr rfl, ?_, ?_, ?_, ?_⟩
            · show k = p.key; omega
            · show (spanL w (oldL k w l)).s ≤ _; omega
            · show _ ≤ (spanL w (oldL k w l)).e; omega
            · intro hc
              have hc : k = p.key ∧ (spanL w (oldL k w l)).s = p.win.s ∧ (spanL w (oldL k w l)).e = p.win.e := hc
              exact b3 (by unfold IsR; omega)
        have hps : p ∈ ps → _ := fun hp => hI.cov p hp
        rcases List.mem_append.1 hp with hp | hp
        · rcases hI.cov p hp with ⟨r, hr, hi⟩ | hcl | ⟨_, r, hr, a1, a2, a3, a4⟩
          · rcases hrow r hr (by unfold IsR at hi; omega) (by unfold IsR at hi; omega) (by unfold IsR at hi; omega) with ⟨x, hx, rfl⟩ | h
            · exact .inl ⟨x, hx, hi⟩
            · exact .inr (.inr (.inr ⟨h3, h⟩))
          · exact .inr (.inr (.inl hcl))
          · rcases hrow r hr a1 a2 a3 with ⟨x, hx, rfl⟩ | h
            · exact .inr (.inr (.inr ⟨h3, x, .inl hx, a1, a2, a3, a4⟩))
            · exact .inr (.inr (.inr ⟨h3, h⟩))
        · obtain ⟨r, hr, hi⟩ := g3 p hp
          obtain ⟨b9, b0, _, b1, b2, b3⟩ := hold r hr
          rcases hrow r b9 (by unfold IsR at hi; omega) (by unfold IsR at hi; omega) (by unfold IsR at hi; omega) with ⟨x, hx, rfl⟩ | h
          · exact .inl ⟨x, hx, hi⟩
          · exact .inr (.inr (.inr ⟨h3, h⟩))
end Go.Rk
/- All panes behind a log. -/
namespace Go.Rk
set_option linter.unusedSimpArgs false
set_option linter.unusedVariables false
theorem due_S {j : JobT} {m : Int} : ∀ (D : List RowT) (ps : List PaneT), (D.Pairwise fun a b => ¬ IsR a.key a.win b) → SndL ps → (∀ r, r ∈ D → GoodP ps r ∧ (0 ≤ r.told ∧ r.told ≤ 1500)) →
    SndL (ps ++ D.map fun r => paneP j.piece r 1) ∧ (∀ q, (∀ r, r ∈ D → ¬ IsR r.key r.win q) → GoodP ps q → GoodP (ps ++ D.map fun r => paneP j.piece r 1) q) ∧
    (∀ r, r ∈ D → GoodP (ps ++ D.map fun r => paneP j.piece r 1) (toldR r)) ∧ ∀ p, p ∈ (D.map fun r => paneP j.piece r 1) → ∃ r, r ∈ D ∧ IsR p.key p.win r
  | [], ps, _, h, _ => by
    rw [List.map_nil, List.append_nil]
    exact ⟨h, fun _ _ hq => hq, fun r hr => absurd hr (by simp), fun p hp => absurd hp (by simp)⟩
  | d :: D, ps, hpw, h, hg => by
    rw [List.pairwise_cons] at hpw
    obtain ⟨hgd, htd⟩ := hg d (by simp)
    have h1 : SndL (ps ++ [paneP j.piece d 1]) := snd_snoc h hgd
    have hoth : ∀ q, ¬ IsR d.key d.win q → GoodP ps q → GoodP (ps ++ [paneP j.piece d 1]) q := fun q hn hq => at_other hq fun p hp => by
      simp at hp
      rw [hp]
      intro hc
      exact hn ⟨hc.1.symm, hc.2.1.symm, hc.2.2.symm⟩
    obtain ⟨i1, i2, i3, i4⟩ := due_S (j := j) (m := m) D _ hpw.2 h1 fun r hr => ⟨hoth r (hpw.1 r hr) (hg r (List.mem_cons_of_mem _ hr)).1, (hg r (List.mem_cons_of_mem _ hr)).2⟩
    have e : ps ++ (d :: D).map (fun r => paneP j.piece r 1) = (ps ++ [paneP j.piece d 1]) ++ D.map fun r => paneP j.piece r 1 := by simp
    rw [e]
    refine ⟨i1, fun q hn hq => i2 q (fun r hr => hn r (List.mem_cons_of_mem _ hr)) (hoth q (hn d (by simp)) hq), fun r hr => ?_, fun p hp => ?_⟩
    · rcases List.mem_cons.1 hr with rfl | hr
      · have hs : GoodP (ps ++ [paneP j.piece r 1]) (toldR r) := at_same (p := paneP j.piece r 1) hgd (show (1 : Int) ≠ 3 by decide) htd
        exact i2 (toldR r) (fun x hx hi => hpw.1 x hx (by unfold IsR at *; exact ⟨hi.1.symm, hi.2.1.symm, hi.2.2.symm⟩)) hs
      · exact i3 r hr
    · rw [List.map_cons] at hp
      rcases List.mem_cons.1 hp with rfl | hp
      · exact ⟨d, by simp, ⟨rfl, rfl, rfl⟩⟩
      · obtain ⟨r, hr, hi⟩ := i4 p hp
        exact ⟨r, List.mem_cons_of_mem _ hr, hi⟩
theorem mark_S {j : JobT} {mk m : Int} {l : List RowT} {ps : List PaneT} (hj : JobOkP j) (hol : OkL j mk l) (hI : SInv j mk l ps) : SInv j (markL j mk l m).1 (markL j mk l m).2.1 (ps ++ (markL j mk l m).2.2) := by
  unfold markL
  by_cases hle : m ≤ mk
  · rw [if_pos hle]; show SInv j mk l (ps ++ []); rw [List.append_nil]; exact hI
  · rw [if_neg hle]
    have hri : RiseR (l.filter (dueB m)) := List.Pairwise.filter _ hol.2.1
    obtain ⟨i1, i2, i3, i4⟩ := due_S (j := j) (m := m) (l.filter (dueB m)) ps (hri.imp fun h hc => ra_ne h ⟨rfl, rfl, rfl⟩ hc) hI.snd fun r hr => ⟨hI.good r (List.mem_filter.1 hr).1, (hol.1 r (List.mem_filter.1 hr).1).2.2.2.2.2.2.1⟩
    have huniq : ∀ r, r ∈ l → ∀ q, q ∈ l → IsR r.key r.win q → r = q := fun r hr q hq h => by
      have e1 := rfind_in hol.2.1 hr ⟨rfl, rfl, rfl⟩
      have e2 := rfind_in hol.2.1 hq h
      rw [e1] at e2
      exact Option.some.inj e2
    have hove : ∀ q, q ∈ l → overB j.late m q = true → q.win.e + j.late ≤ m := fun q hq ho => by
      unfold overB at ho
      have h9 := of_decide_eq_true ho
      rw [late_w hj (hol.1 q hq).2.1] at h9
      omega
    have hcase : ∀ q, q ∈ l → ∀ p : PaneT, IsR p.key p.win q → (∃ r, r ∈ keepL j.late m l ∧ IsR p.key p.win r) ∨ p.win.e + j.late ≤ m := fun q hq p hi => by
      cases ho : overB j.late m q with
      | false =>
        refine .inl ⟨markR m q, keepL_mem.2 ⟨q, hq, ho, rfl⟩, ?_⟩
        unfold IsR at *
        rw [(markR_all m q).2.1, (markR_all m q).2.2]; exact hi
      | true =>
        have := hove q hq ho
        exact .inr (by unfold IsR at hi; omega)
    refine ⟨i1, fun r hr => ?_, fun p hp => ?_⟩
    · obtain ⟨q, hq, ho, rfl⟩ := keepL_mem.1 hr
      cases hd : dueB m q with
      | true =>
        have e : markR m q = toldR q := by unfold markR; rw [if_pos hd]
        rw [e]
        exact i3 q (List.mem_filter.2 ⟨hq, hd⟩)
      | false =>
        have e : markR m q = q := by unfold markR; rw [if_neg (by rw [hd]; simp)]
        rw [e]
        refine i2 q (fun r hr hc => ?_) (hI.good q hq)
        obtain ⟨h1, h2⟩ := List.mem_filter.1 hr
        have := huniq r h1 q hq hc
        rw [← this, h2] at hd; cases hd
    · rcases List.mem_append.1 hp with hp | hp
      · rcases hI.cov p hp with ⟨q, hq, hi⟩ | hcl | ⟨h3, q, hq, a1, a2, a3, a4⟩
        · rcases hcase q hq p hi with h | h
          · exact .inl h
          · exact .inr (.inl h)
        · exact .inr (.inl (by show p.win.e + j.late ≤ m; omega))
        · cases ho : overB j.late m q with
          | false =>
            refine .inr (.inr ⟨h3, markR m q, keepL_mem.2 ⟨q, hq, ho, rfl⟩, ?_⟩)
            unfold IsR at *
            rw [(markR_all m q).2.1, (markR_all m q).2.2]
            exact ⟨a1, a2, a3, a4⟩
          | true =>
            have := hove q hq ho
            exact .inr (.inl (by show p.win.e + j.late ≤ m; omega))
      · obtain ⟨q, hq, hi⟩ := i4 p hp
        rcases hcase q (List.mem_filter.1 hq).1 p hi with h | h
        · exact .inl h
        · exact .inr (.inl h)
theorem take_S {j : JobT} {m : Int} {x : ItmT} (hj : JobOkP j) (hx : RecP x) : ∀ (ws : List WinT) (l : List RowT) (a : List PaneT) (c : List LatT) (ps : List PaneT) (B S : Int), OkL j m l → (∀ w, w ∈ ws → WinOkP w) → (j.kind = 3 → ws.length ≤ 1) → 0 ≤ B → B + (ws.length : Int) ≤ 900 → 0 ≤ S → S + (ws.length : Int) ≤ 900 →
    (∀ r, r ∈ l → r.all.n ≤ B ∧ r.told ≤ S) → SInv j m l ps →
    ∃ qs, (ws.foldl (takeS j m x) (l, a, c)).2.1 = a ++ qs ∧ SInv j m (ws.foldl (takeS j m x) (l, a, c)).1 (ps ++ qs) := by
  intro ws
  have hxv := recP_kv hx
  induction ws with
  | nil => intro l a c ps B S _ _ _ _ _ _ _ _ hI; exact ⟨[], by simp, by rw [List.append_nil]; exact hI⟩
  | cons w ws ih =>
    intro l a c ps B S hol hw h3 hB hB2 hS hS2 hb hI
    have hg : ((w :: ws).length : Int) = (ws.length : Int) + 1 := rfl
    rw [hg] at hB2 hS2
    have hws := fun u hu => hw u (List.mem_cons_of_mem _ hu)
    have hw0 := hw w (by simp)
    rw [List.foldl_cons]
    cases hq : stepT j m x w l with
    | none =>
      rw [takeS_none (a := (l, a, c)) hq]
      exact ih l a (c ++ [(⟨x, w⟩ : LatT)]) ps B S hol hws (fun h => by have := h3 h; simp at this; rw [this]; simp) hB (by omega) hS (by omega) hb hI
    | some q =>
      rw [takeS_some (a := (l, a, c)) hq]
      have he := hq
      unfold stepT at he
      by_cases hk : j.kind = 3
      · rw [if_pos hk] at he
        have hnil : ws = [] := by have := h3 hk; simp at this; exact this
        subst hnil
        exact ⟨q.2, rfl, sess_St hj hk hol hI hw0 he⟩
      · rw [if_neg hk] at he
        have t2 := into_S hI (fun r hr => (hol.1 r hr).2.2.2.2.2.2.1) (late_w hj hw0) (fun h => absurd h hk) he
        obtain ⟨c1, c2, _⟩ := into_ok (B := B) (T := S) hol hxv.1 hxv.2 hw0 (by omega) (by omega) hb (fun h => absurd h hk) he
        obtain ⟨qs, p1, p3⟩ := ih q.1 (a ++ q.2) c _ (B + 1) (S + 1) c1 hws (fun h => absurd h hk) (by omega) (by omega) (by omega) (by omega) c2 t2
        refine ⟨q.2 ++ qs, ?_, ?_⟩
        · rw [p1, List.append_assoc]
        · rw [← List.append_assoc]; exact p3
/-- The panes behind a log are ok, and numbered from nought on. -/
theorem fed_S {j : JobT} (hj : JobOkP j) : ∀ (l : List ItmT), (∀ x, x ∈ l → LogX x) → l.length ≤ 60 → SInv j (fedL j l).1 (fedL j l).2.1 (fedL j l).2.2.1 ∧ ∀ p, p ∈ (fedL j l).2.2.1 → PaneOkP p := by
  refine snocInd (fun _ _ => ⟨sinv_nil _ _, fun p hp => absurd hp (by unfold fedL; simp)⟩) fun l x ih h hl => ?_
  rw [List.length_append] at hl
  have hl : l.length + 1 ≤ 60 := hl
  have hxs := fun y hy => h y (List.mem_append_left [x] hy)
  obtain ⟨ih1, ih2⟩ := ih hxs (by omega)
  have hfi := fi_fed hj l hxs (by omega)
  have hx := h x (by simp)
  obtain ⟨s, s1, s2, s3, s4⟩ := fi_ex hj hfi (by omega)
  rw [fedL_snoc]
  unfold fedS
  rcases logX_kind hx with ⟨hk, ht⟩ | ⟨hk, hr⟩
  · rw [if_pos hk]
    refine ⟨mark_S hj hfi.ok ih1, fun p hp => ?_⟩
    rcases List.mem_append.1 hp with hp | hp
    · exact ih2 p hp
    · have hol := okL_of s3
      have hm := mark_ok (T := 1500) s3 ht (by decide) fun r hr => (hol.1 r hr).2.2.2.2.2.2.1.2
      have e := opMarkL_L s3 (m := x.t) ht
      rw [s1, s2] at e
      rw [e] at hm
      exact hm.2.2.2.2.2 p hp
  · rw [if_neg hk]
    have hr' := recP_t hr
    have hw4 := winsL_len4 hj hr'
    have hbd := hfi.bd
    have hnn : ∀ r, r ∈ (fedL j l).2.1 → 0 ≤ r.all.n := fun r hr => (hbd.2 r hr).1
    obtain ⟨qs, t1, t2⟩ := take_S (m := (fedL j l).1) hj hr (winsL j x.t) (fedL j l).2.1 [] [] (fedL j l).2.2.1 (4 * (l.length : Int)) (4 * (l.length : Int)) hfi.ok (fun w hw => winsL_ok hj hr' hw)
      (fun h3 => by rw [winsL_sess h3 (by unfold JobOkP at hj; omega) hr'.1 hr'.2]; exact Nat.le_refl _) (by omega) (by omega) (by omega) (by omega) (fun r hr => ⟨Int.le_trans (sumN_mem hnn hr) hbd.1, (hbd.2 r hr).2⟩) ih1
    have t1 : (takeL j (fedL j l).1 x (winsL j x.t) (fedL j l).2.1).2.1 = qs := by unfold takeL; rw [t1]; rfl
    refine ⟨?_, fun p hp => ?_⟩
    · show SInv j (fedL j l).1 (takeL j (fedL j l).1 x (winsL j x.t) (fedL j l).2.1).1 ((fedL j l).2.2.1 ++ (takeL j (fedL j l).1 x (winsL j x.t) (fedL j l).2.1).2.1)
      rw [t1]; exact t2
    · rcases List.mem_append.1 hp with hp | hp
      · exact ih2 p hp
      · have hm := take_ok (T := 4 * (l.length : Int)) s3 hr (by omega) (by rw [s2]; have := hbd.1; omega) (by omega) fun r hr => (hbd.2 r (by rw [← s2]; exact hr)).2
        have e := take_same_L s3 hr (by omega)
        rw [s1, s2] at e
        rw [e] at hm
        exact (hm.2.2.2 p hp).1
end Go.Rk
/- Panes that are sound. -/
namespace Go.Rk
set_option linter.unusedSimpArgs false
set_option linter.unusedVariables false
open Go.Proofs
set_option maxRecDepth 100000
set_option maxHeartbeats 1000000
open Classical in
set_option maxRecDepth 100000 in
theorem c_isGone (p : PaneT) : ∃ b, (b = true ↔ p.kind = 3) ∧ Meets Try.prog 83 [xd (ePane p)] ⟨.one (.c (.d (eB b))), [none]⟩ := by
  obtain ⟨b, hb⟩ : ∃ b : Bool, (b = true ↔ p.kind = 3) := ⟨decide (p.kind = 3), by rw [decide_eq_true_eq]⟩
  refine ⟨b, hb, ?_⟩
  refine meets_of (H := []) (EX := EXA) ttok mixed Try.func83 rfl (by kernel_rfl) (by decide) ?_
  generalize hA : real = A
  generalize hM : MeetsB Try.prog = M
  cbv
  repeat' first
    | apply And.intro
    | exact True.intro
    | with_reducible rfl
    | exact same_of hA rfl
    | refine br_of hA (fun _ => ?_) (fun _ => ?_)
    | exact imp_of hA id
    | (refine imp_of hA ?_; subst hA; simp only [real, Bool.true_and]; exact id)
    | (refine ind_of hA ?_; decide +kernel)
    | fail
  refine congrArg (fun b => XA.one (.c (.d (eB b)))) (Bool.eq_iff_iff.2 ?_)
  subst hA
  rw [hb]
  exact decide_eq_true_iff
def st_po (n : Nat) (g : Nat → PaneT) (k : Int) (v : WinT) (i c : Nat) (G : Nat → PaneT) : St := ⟨[(12, .c (.d (eI i))), (11, .c (.d (eI n))), (10, .c (.d (.sl 9 n fun i => ePane (g i)))), (1, .c (.d (eI k))), (5, .c (.bp 320 1 0)), (7, .c (.own 1856 0 c 1))], [(320, 1, .box ((eWin v).map .d)), (1856, 1, .arr 9 c fun q => ePane (G q))]⟩
theorem c_PanOf (l : List PaneT) (n : Nat) (g : Nat → PaneT) (hl : Lst zPane l n g) (hn : n ≤ 1080000) (k : Int) (v : WinT) (n0 : Nat) (G0 : Nat → PaneT) (h0 : Lst zPane (samL k v l) n0 G0) : Meets Try.prog 81 [.c (.d (.sl 9 n fun i => ePane (g i))), .c (.d (eI k)), xd (eWin v)] ⟨.one (.c (.own 9 n0 fun i => ePane (G0 i))), [none, none, none]⟩ := by
  have hnL : n ≤ maxLen := Nat.le_trans hn (by decide)
  refine meets_of (H := [8]) (EX := EXA) ttok mixed Try.func81 rfl (by kernel_rfl) (by decide) ?_
  generalize hA : real = A
  generalize hM : MeetsB Try.prog = M
  cbv
  repeat' first
    | apply And.intro
    | exact True.intro
    | with_reducible rfl
    | exact same_of hA rfl
    | refine br_of hA (fun _ => ?_) (fun _ => ?_)
    | exact imp_of hA id
    | (refine imp_of hA ?_; subst hA; simp only [real, Bool.true_and]; exact id)
    | (refine ind_of hA ?_; decide +kernel)
    | fail
  refine loop_of hA (α := { q : Nat × Nat × (Nat → PaneT) // q.1 ≤ n ∧ Lst zPane (samL k v (l.take q.1)) q.2.1 q.2.2 }) (fun y => st_po n g k v y.1.1 y.1.2.1 y.1.2.2) (fun y => n - y.1.1) ⟨(0, 0, fun _ => zPane), Nat.zero_le _, rfl, fun k hk => absurd hk (Nat.not_lt_zero k)⟩ ?_ ?_
  · refine cov_prom 7 1856 1 9 (fun _ => []) rfl rfl (cov_of ?_ ?_ ?_)
    · cbv; try (subst hA; repeat' first | apply And.intro | exact True.intro | rfl | fail)
    · cbv; try (subst hA; repeat' first | apply And.intro | exact True.intro | rfl | (intro _ _; rfl) | (intro k hk; exact absurd hk (Nat.not_lt_zero k)) | fail)
    · cbv; try (subst hA; repeat' first | apply And.intro | exact True.intro | rfl | exact .inr trivial | exact .inl trivial)
  rintro ⟨⟨i, c, G⟩, hi, hG⟩
  have hi : i ≤ n := hi
  have hG : Lst zPane (samL k v (l.take i)) c G := hG
  have hc : c ≤ 1080000 := by
    rw [hG.1]
    exact Nat.le_trans (List.length_filter_le _ _) (by rw [List.length_take]; omega)
  have hnext : i < n → samL k v (l.take (i + 1)) = samL k v (l.take i) ++ if samB k v (g i) = true then [g i] else [] := fun h => by
    rw [lst_take hl h, samL_app]
    congr 1
    unfold samL
    rw [List.filter_cons]; rfl
  cbv
  repeat' first
    | apply And.intro
    | exact True.intro
    | with_reducible rfl
    | exact same_of hA rfl
    | refine br_of hA (fun _ => ?_) (fun _ => ?_)
    | exact imp_of hA id
    | (refine imp_of hA ?_; subst hA; simp only [real, Bool.true_and]; exact id)
    | (refine ind_of hA ?_; decide +kernel)
    | (refine inb_lt hA ?_; first | exact lt2_of hA (by assumption) | exact lt_of hA (by assumption))
    | exact room_add2 hA (by omega) (by decide)
    | fail
  · rename_i hlt hk
    have hlt' : i < n := by first | exact lt2_of hA hlt | exact lt_of hA hlt
    have hk : samB k v (g i) = true := by
      subst hA
      have hk : (bif (g i).key == k then ((g i).win.s == v.s && ((g i).win.e == v.e && true)) else false) = true := hk
      rw [← hk]
      refine Bool.eq_iff_iff.2 ?_
      unfold samB
      rw [decide_eq_true_eq]
      cases h : ((g i).key == k) <;> simp at h <;> simp [h]
    refine ⟨⟨(i + 1, c + 1, fun q => if q < c then G q else g i), hlt', ?_⟩, by simp only; omega, cov_of ?_ ?_ ?_⟩
    · simp only
      rw [hnext hlt', if_pos hk]; exact lst_snoc hG
    · cbv; subst hA; repeat' first | apply And.intro | exact True.intro | exact congrArg (fun x => DV.v (.int .i64 x)) (up64 hlt' hnL) | rfl
    · cbv
      subst hA
      repeat' first | apply And.intro | exact True.intro | rfl | (intro _ _; rfl) | (intro q hq; exact push_if ePane rfl _ _ _ _ q hq)
    · cbv; try (subst hA; repeat' first | apply And.intro | exact True.intro | rfl | exact .inr trivial | exact .inl trivial)
  · rename_i hlt hk
    have hlt' : i < n := by first | exact lt2_of hA hlt | exact lt_of hA hlt
    have hk : samB k v (g i) = false := by
      subst hA
      have hk : (bif (g i).key == k then ((g i).win.s == v.s && ((g i).win.e == v.e && true)) else false) = false := hk
      rw [← hk]
      refine Bool.eq_iff_iff.2 ?_
      unfold samB
      rw [decide_eq_true_eq]
      cases h : ((g i).key == k) <;> simp at h <;> simp [h]
    refine ⟨⟨(i + 1, c, G), hlt', ?_⟩, by simp only; omega, cov_of ?_ ?_ ?_⟩
    · simp only
      rw [hnext hlt', if_neg (by rw [hk]; simp), List.append_nil]; exact hG
    · cbv; subst hA; repeat' first | apply And.intro | exact True.intro | exact congrArg (fun x => DV.v (.int .i64 x)) (up64 hlt' hnL) | rfl
    · cbv
      subst hA
      repeat' first | apply And.intro | exact True.intro | rfl | (intro _ _; rfl) | (intro q hq; exact push_if ePane rfl _ _ _ _ q hq)
    · cbv; try (subst hA; repeat' first | apply And.intro | exact True.intro | rfl | exact .inr trivial | exact .inl trivial)
  · rename_i hge
    have hin : i = n := by first | (have := ge2_of hA hge; omega) | (have := ge_of hA hge; omega)
    subst hin
    rw [lst_all hl] at hG
    have hcc : c = n0 := hG.1.trans h0.1.symm
    subst hcc
    refine stop_of hA ⟨[(7, .c (.own 1856 0 c 1))], [(1856, 1, .arr 9 c fun q => ePane (G0 q))]⟩ (cov_of ?_ ?_ ?_) ?_
    · cbv
    · cbv
      exact ⟨fun q hq => congrArg ePane ((hG.2 q hq).trans (h0.2 q hq).symm), trivial⟩
    · cbv
    · cbv
      repeat' first
        | apply And.intro
        | exact True.intro
        | with_reducible rfl
        | exact same_of hA rfl
        | refine br_of hA (fun _ => ?_) (fun _ => ?_)
        | exact imp_of hA id
        | (refine imp_of hA ?_; subst hA; simp only [real, Bool.true_and]; exact id)
        | (refine ind_of hA ?_; decide +kernel)
        | fail
def st_ps (n : Nat) (g : Nat → PaneT) (i : Nat) : St := ⟨[(8, .c (.d (eI i))), (7, .c (.d (eI n))), (6, .c (.d (.sl 9 n fun i => ePane (g i)))), (0, .c (.d (.sl 9 n fun i => ePane (g i))))], []⟩
theorem c_PanSound (l : List PaneT) (n : Nat) (g : Nat → PaneT) (hl : Lst zPane l n g) (hn : n ≤ 1080000) (hs : SndL l) (hok : ∀ p, p ∈ l → PaneOkP p) : Meets Try.prog 34 [.c (.d (.sl 9 n fun i => ePane (g i)))] ⟨.one (.c (.d (eB true))), [none]⟩ := by
  have hnL : n ≤ maxLen := Nat.le_trans hn (by decide)
  refine meets_of (H := []) (EX := EXA) ttok mixed Try.func34 rfl (by kernel_rfl) (by decide) ?_
  generalize hA : real = A
  generalize hM : MeetsB Try.prog = M
  cbv
  repeat' first
    | apply And.intro
    | exact True.intro
    | with_reducible rfl
    | exact same_of hA rfl
    | refine br_of hA (fun _ => ?_) (fun _ => ?_)
    | exact imp_of hA id
    | (refine imp_of hA ?_; subst hA; simp only [real, Bool.true_and]; exact id)
    | (refine ind_of hA ?_; decide +kernel)
    | fail
  refine loop_of hA (α := { i : Nat // i ≤ n }) (fun y => st_ps n g y.1) (fun y => n - y.1) ⟨0, Nat.zero_le _⟩ ?_ ?_
  · refine cov_of ?_ ?_ ?_
    · cbv; try (subst hA; repeat' first | apply And.intro | exact True.intro | rfl | fail)
    · cbv; try (subst hA; repeat' first | apply And.intro | exact True.intro | rfl | (intro _ _; rfl) | (intro k hk; exact absurd hk (Nat.not_lt_zero k)) | fail)
    · cbv; try (subst hA; repeat' first | apply And.intro | exact True.intro | rfl | exact .inr trivial | exact .inl trivial)
  rintro ⟨i, hi⟩
  have hi : i ≤ n := hi
  have hLi : i < n → Lst zPane (l.take i) i g := fun h => ⟨by rw [List.length_take, ← hl.1]; omega, fun q hq => by rw [hl.2 q (by omega), List.getD_eq_getElem?_getD, List.getD_eq_getElem?_getD, List.getElem?_take, if_pos hq]⟩
  have hAt : i < n → AtP (l.take i) (g i).key (g i).win (g i).no := fun h => by
    have hlt : i < l.length := by rw [← hl.1]; exact h
    have e : l[i] = g i := by rw [hl.2 i h, List.getD_eq_getElem?_getD, List.getElem?_eq_getElem hlt]; rfl
    refine hs (l.take i) (g i) (l.drop (i + 1)) ?_
    rw [← e, ← List.drop_eq_getElem_cons hlt, List.take_append_drop]
  obtain ⟨n0, G0, h0⟩ := lst_ex zPane (samL (g i).key (g i).win (l.take i))
  have hn0 : n0 ≤ i := by rw [h0.1]; exact Nat.le_trans (List.length_filter_le _ _) (by rw [List.length_take]; omega)
  have hOf : i < n → Meets Try.prog 81 [.c (.d (.sl 9 i fun i => ePane (g i))), .c (.d (eI (g i).key)), xd (eWin (g i).win)] ⟨.one (.c (.own 9 n0 fun i => ePane (G0 i))), [none, none, none]⟩ := fun h => c_PanOf _ i g (hLi h) (by omega) (g i).key (g i).win n0 G0 h0
  obtain ⟨bo, hbo, hO⟩ := c_PanOk (g i)
  obtain ⟨bc, hbc, hC⟩ := c_ContainsPane0 n0 (Nat.le_trans hn0 (Nat.le_trans hi hnL)) G0 83 (fun p => p.kind = 3) c_isGone
  cbv
  repeat' first
    | apply And.intro
    | exact True.intro
    | with_reducible rfl
    | exact same_of hA rfl
    | refine br_of hA (fun _ => ?_) (fun _ => ?_)
    | exact imp_of hA id
    | (refine imp_of hA ?_; subst hA; simp only [real, Bool.true_and]; exact id)
    | (refine ind_of hA ?_; decide +kernel)
    | (refine inb_lt hA ?_; first | exact lt2_of hA (by assumption) | exact lt_of hA (by assumption))
    | exact flat_pane hA _ _
    | (refine cut_of hA ?_; have h9 : i < n := (by first | exact lt2_of hA (by assumption) | exact lt_of hA (by assumption)); exact ⟨Int.le_refl _, Int.natCast_nonneg i, Int.ofNat_le.2 hi⟩)
    | (refine call_of hA hM _ (hOf (by first | exact lt2_of hA (by assumption) | exact lt_of hA (by assumption))) ?_; cbv)
    | (refine call_of2 hA hM _ (hOf (by first | exact lt2_of hA (by assumption) | exact lt_of hA (by assumption))) (by subst hA; exact congrArg (fun d => [XT.c (.d d), XT.c (.d (eI (g i).key)), xd (eWin (g i).win)]) (show _ = _ from sl0 (A := real) rfl 9 i (fun i => ePane (g i)))) ?_; cbv)
    | (refine call_of2 hA hM _ hO (by (subst hA; first | rfl | (simp only [sub0r]; try rfl))) ?_; cbv)
    | (refine call_of2 hA hM _ hC (by (subst hA; first | rfl | (simp only [sub0r]; try rfl))) ?_; cbv)
    | fail
  · exfalso
    rename_i hlt h
    have hlt' : i < n := by first | exact lt2_of hA hlt | exact lt_of hA hlt
    have hat := hAt hlt'
    have h1 : bo = true := hbo.2 (hok _ (lst_in hl hlt'))
    have h2 : (g i).no = (n0 : Int) := by rw [hat.1, h0.1]
    have h3 : bc = false := by
      cases hb : bc with
      | false => rfl
      | true =>
        obtain ⟨q, hq, hk⟩ := hbc.1 hb
        exact absurd hk (hat.2 _ (lst_in h0 hq))
    subst hA
    have h : (bif (bif (!bo) then true else ((g i).no != (n0 : Int))) then true else bc) = true := h
    rw [h1, h2, h3] at h
    simp at h
  · rename_i hlt h
    have hlt' : i < n := by first | exact lt2_of hA hlt | exact lt_of hA hlt
    refine ⟨⟨i + 1, hlt'⟩, by simp only; omega, cov_of ?_ ?_ ?_⟩
    · cbv; subst hA; repeat' first | apply And.intro | exact True.intro | exact congrArg (fun x => DV.v (.int .i64 x)) (up64 hlt' hnL) | rfl
    · cbv; try (subst hA; repeat' first | apply And.intro | exact True.intro | rfl | (intro _ _; rfl))
    · cbv; try (subst hA; repeat' first | apply And.intro | exact True.intro | rfl | exact .inr trivial | exact .inl trivial)
end Go.Rk
/- What the rows of a table of records say. -/
namespace Go.Rk
set_option linter.unusedSimpArgs false
set_option linter.unusedVariables false
def inRw (r : TabT) (x : ItmT) : Bool := decide (x.key = r.key ∧ r.win.s ≤ x.t ∧ x.t < r.win.e)
def valsR (r : TabT) (l : List ItmT) : List Int := (l.filter (inRw r)).map (·.v)
theorem slideF_rise {size step t : Int} (hs : 1 ≤ step) : ∀ (k : Nat) (f : Int), (slideF size step t k f).Pairwise (fun a b => a.s < b.s) ∧ ∀ w, w ∈ slideF size step t k f → f ≤ w.s
  | 0, f => ⟨List.Pairwise.nil, fun w h => by simp [slideF] at h⟩
  | k + 1, f => by
    obtain ⟨h1, h2⟩ := slideF_rise (size := size) (t := t) hs k (f + step)
    unfold slideF
    split
    · split
      · refine ⟨?_, fun w hw => ?_⟩
        · rw [List.singleton_append, List.pairwise_cons]
          exact ⟨fun w hw => by have := h2 w hw; show f < w.s; omega, h1⟩
        · rw [List.singleton_append, List.mem_cons] at hw
          rcases hw with rfl | hw
          · exact Int.le_refl _
          · have := h2 w hw; omega
      · rw [List.nil_append]
        exact ⟨h1, fun w hw => by have := h2 w hw; omega⟩
    · exact ⟨List.Pairwise.nil, fun w h => by simp at h⟩
theorem slideF_has {size step t : Int} {w : WinT} : ∀ (k : Nat) (f : Int) (i : Nat), i < k → 1 ≤ step → w.s = f + step * (i : Int) → w.s ≤ t → t < w.s + size → w.e = w.s + size → w ∈ slideF size step t k f
  | 0, _, _, h, _, _, _, _, _ => absurd h (Nat.not_lt_zero _)
  | k + 1, f, i, hi, hs, h1, h2, h3, h4 => by
    unfold slideF
    have hfi : 0 ≤ step * (i : Int) := Int.mul_nonneg (by omega) (Int.natCast_nonneg _)
    rw [if_pos (by omega)]
    cases i with
    | zero =>
      have e : f = w.s := by simp at h1; omega
      refine List.mem_append_left _ ?_
      rw [if_pos (by omega), List.mem_singleton]
      obtain ⟨s, e'⟩ := w
      simp only at *
      subst e h4; rfl
    | succ i =>
      refine List.mem_append_right _ (slideF_has k (f + step) i (by omega) hs ?_ h2 h3 h4)
      rw [h1]; push_cast; rw [Int.mul_add]; omega
open Classical in
theorem filter_one {l : List WinT} {w : WinT} (h : l.Pairwise (fun a b => a.s < b.s)) : l.filter (fun x => decide (x.s = w.s ∧ x.e = w.e)) = if w ∈ l then [w] else [] := by
  induction l with
  | nil => simp
  | cons a l ih =>
    rw [List.pairwise_cons] at h
    have ih := ih h.2
    rw [List.filter_cons]
    by_cases ha : a.s = w.s ∧ a.e = w.e
    · have e : a = w := by
        obtain ⟨s, e⟩ := a; obtain ⟨s', e'⟩ := w
        simp only at ha
        obtain ⟨rfl, rfl⟩ := ha
        rfl
      subst e
      have hn : a ∉ l := fun hm => by have := h.1 a hm; omega
      rw [if_neg hn] at ih
      rw [if_pos (by simp), ih, if_pos (by simp)]
    · rw [if_neg (by simpa using ha), ih]
      have hne : w ≠ a := fun e => ha (by rw [e]; exact ⟨rfl, rfl⟩)
      simp [hne]
/-- Where windows do not grow, a window that is one's is that of all times within it. -/
theorem winsL_same {j : JobT} (hj : JobOkP j) (hk : j.kind ≠ 3) {t0 t : Int} (h0 : 0 ≤ t0 ∧ t0 ≤ 60) (ht : 0 ≤ t ∧ t ≤ 60) {w : WinT} (hw : w ∈ winsL j t0) : w ∈ winsL j t ↔ w.s ≤ t ∧ t < w.e := by
  obtain ⟨a1, a2, a3, i, a4⟩ := winsL_mem hw
  have hsz := hj.2.2.2.1
  have hst := hj.2.2.2.2.1
  have hkk := hj.2.2.1
  refine ⟨fun h => by have := winsL_mem h; omega, fun ⟨h1, h2⟩ => ?_⟩
  unfold winsL
  by_cases k1 : j.kind = 1
  · have eF : ∀ t, winFrom j t = t - t.tmod j.size := fun t => by unfold winFrom; rw [if_pos k1]
    have eS : winStep j = j.size := by unfold winStep; rw [if_pos k1]
    rw [eF, eS] at a4
    rw [eF, eS]
    have b1 := Int.tmod_nonneg j.size h0.1
    have b2 := Int.tmod_lt_of_pos t0 (show 0 < j.size by omega)
    have i0 : i = 0 := by
      rcases Nat.eq_zero_or_pos i with h | h
      · exact h
      · exfalso
        have : j.size * 1 ≤ j.size * (i : Int) := Int.mul_le_mul_of_nonneg_left (by omega) (by omega)
        omega
    subst i0
    simp at a4
    refine slideF_has 100 _ 0 (by omega) (by omega) ?_ h1 (by omega) a3
    have c1 : t.tmod j.size = t - w.s := by
      rw [Int.tmod_eq_emod_of_nonneg ht.1]
      have d1 : t0.tmod j.size = t0 % j.size := Int.tmod_eq_emod_of_nonneg h0.1
      have d2 : w.s % j.size = 0 := by
        rw [a4, d1, Int.sub_emod, Int.emod_emod, Int.sub_self, Int.zero_emod]
      have d3 : t % j.size = (t - w.s) % j.size := by
        rw [Int.sub_emod, d2, Int.sub_zero, Int.emod_emod]
      rw [d3, Int.emod_eq_of_lt (by omega) (by omega)]
    simp; omega
  · have k2 : j.kind = 2 := by omega
    have eF : ∀ t, winFrom j t = 0 := fun t => by unfold winFrom; rw [if_neg k1, if_pos k2]
    have eS : winStep j = j.step := by unfold winStep; rw [if_neg k1, if_pos k2]
    rw [eF, eS] at a4
    rw [eF, eS]
    have hp : 1 ≤ j.step := by omega
    have hi : i < 100 := by
      have : 1 * (i : Int) ≤ j.step * (i : Int) := Int.mul_le_mul_of_nonneg_right hp (Int.natCast_nonneg _)
      omega
    exact slideF_has 100 0 i hi hp a4 h1 (by omega) a3
theorem winStep_pos {j : JobT} (hj : JobOkP j) : 1 ≤ winStep j := by
  have hsz := hj.2.2.2.1
  have hst := hj.2.2.2.2.1
  unfold winStep
  split
  · omega
  · split <;> omega
structure RowFacts (j : JobT) (l : List ItmT) (r : TabT) : Prop where
  agg : AggIs r.agg (valsR r l)
  low : 0 ≤ r.win.s ∧ r.win.s ≤ 60
  len : r.win.s < r.win.e ∧ r.win.e ≤ 80
  fix : j.kind ≠ 3 → r.win.e = r.win.s + j.size
/-- What is known of values, one by one. -/
def aggF (l : List Int) : AggT := l.foldl aggAdd zAgg
theorem aggF_snoc (l : List Int) (v : Int) : aggF (l ++ [v]) = aggAdd (aggF l) v := by unfold aggF; rw [List.foldl_append]; rfl
theorem aggF_is {L : List Int} (hv : ∀ x, x ∈ L → -9 ≤ x ∧ x ≤ 9) (hn : L.length ≤ 1000000) : AggIs (aggF L) L := by
  have key : ∀ (M L0 : List Int) (a : AggT), AggIs a L0 → (∀ x, x ∈ L0 ++ M → -9 ≤ x ∧ x ≤ 9) → (L0 ++ M).length ≤ 1000000 → AggIs (M.foldl aggAdd a) (L0 ++ M) := by
    intro M
    induction M with
    | nil => intro L0 a h _ _; simpa using h
    | cons v M ih =>
      intro L0 a h hv hn
      rw [show L0 ++ v :: M = (L0 ++ [v]) ++ M by simp] at hv hn ⊢
      refine ih (L0 ++ [v]) _ (aggB_is h (aggIs_one v) (fun x hx => hv x (List.mem_append_left _ hx)) ?_) hv hn
      rw [List.length_append] at hn; omega
  exact key L [] zAgg aggIs_nil (by simpa using hv) (by simpa using hn)
theorem tCnt_bd : ∀ {T : List TabT}, (∀ r, r ∈ T → 0 ≤ r.agg.n) → 0 ≤ tCnt T
  | [], _ => Int.le_refl _
  | r :: T, h => by
    have := tCnt_bd (T := T) fun q hq => h q (List.mem_cons_of_mem _ hq)
    have := h r (by simp)
    simp only [tCnt]; omega
theorem tCnt_take {T : List TabT} (h : ∀ r, r ∈ T → 0 ≤ r.agg.n) (i : Nat) : 0 ≤ tCnt (T.take i) ∧ tCnt (T.take i) ≤ tCnt T := by
  have e : tCnt T = tCnt (T.take i) + tCnt (T.drop i) := by rw [← tCnt_app, List.take_append_drop]
  have h1 := tCnt_bd (T := T.take i) fun r hr => h r (List.mem_of_mem_take hr)
  have h2 := tCnt_bd (T := T.drop i) fun r hr => h r (List.mem_of_mem_drop hr)
  omega
end Go.Rk
/- FnOpTable in plain words. -/
namespace Go.Rk
set_option linter.unusedSimpArgs false
set_option linter.unusedVariables false
theorem pairs_mem {j : JobT} {l : List ItmT} {y : LatT} : y ∈ pairsOf j l ↔ y.itm ∈ l ∧ y.win ∈ winsL j y.itm.t := by
  unfold pairsOf
  rw [List.mem_flatMap]
  constructor
  · rintro ⟨x, hx, h⟩
    obtain ⟨w, hw, rfl⟩ := List.mem_map.1 h
    exact ⟨hx, hw⟩
  · rintro ⟨h1, h2⟩
    exact ⟨y.itm, h1, List.mem_map.2 ⟨y.win, h2, rfl⟩⟩
theorem fine_of {j : JobT} (hj : JobOkP j) {l : List ItmT} (hr : ∀ x, x ∈ l → RecP x) (hl : l.length ≤ 60) {P Q : List LatT} (hp : (pairsOf j l).Perm (P ++ Q)) : Fine P := by
  have hlen := pairs_len hj l hr
  have h2 := hp.length_eq
  rw [List.length_append] at h2
  refine ⟨by omega, fun y hy => ?_⟩
  have hm := pairs_mem.1 (hp.mem_iff.2 (List.mem_append_left Q hy))
  have h1 := winsL_mem hm.2
  have h3 := hj.2.2.2.1
  have h4 := recP_kv (hr _ hm.1)
  exact ⟨by omega, h4.2⟩
theorem invW_nil : InvW [] [] := ⟨List.Pairwise.nil, fun r hr => absurd hr (by simp), fun l hl => absurd hl (by simp)⟩
theorem spc_invW {kind : Int} (hk : kind ≠ 3) {P : List LatT} (hf : Fine P) : InvW P (spcT kind P) :=
  (foldW_inv hk P [] [] invW_nil (by simpa using hf)).1
def qB (k : Int) (w : WinT) (l : LatT) : Bool := decide (l.itm.key = k ∧ l.win.s = w.s ∧ l.win.e = w.e)
def itmsW (k : Int) (w : WinT) (P : List LatT) : List ItmT := (P.filter (qB k w)).map (·.itm)
theorem itmsW_v (k : Int) (w : WinT) (P : List LatT) : (itmsW k w P).map (·.v) = valsW k w P := by
  unfold itmsW valsW
  rw [List.map_map]; rfl
theorem itmsW_recs {j : JobT} (hj : JobOkP j) (hk : j.kind ≠ 3) {t0 : Int} (h0 : 0 ≤ t0 ∧ t0 ≤ 60) {r : TabT} (hw : r.win ∈ winsL j t0) : ∀ (l : List ItmT), (∀ x, x ∈ l → RecP x) → itmsW r.key r.win (pairsOf j l) = l.filter (inRw r)
  | [], _ => rfl
  | x :: l, h => by
    have ih := itmsW_recs hj hk h0 hw l fun y hy => h y (List.mem_cons_of_mem _ hy)
    have hx := recP_t (h x (by simp))
    have hs := winsL_same hj hk h0 hx hw
    have e1 : itmsW r.key r.win (pairsOf j (x :: l)) = (((winsL j x.t).map fun w => (⟨x, w⟩ : LatT)).filter (qB r.key r.win)).map (·.itm) ++ itmsW r.key r.win (pairsOf j l) := by
      unfold itmsW pairsOf
      rw [List.flatMap_cons, List.filter_append, List.map_append]
    have e2 : (x :: l).filter (inRw r) = (if inRw r x = true then [x] else []) ++ l.filter (inRw r) := by
      rw [List.filter_cons]
      split <;> simp
    rw [e1, e2, ih]
    congr 1
    rw [List.filter_map, List.map_map]
    by_cases hkey : x.key = r.key
    · have f1 : (qB r.key r.win ∘ fun w => (⟨x, w⟩ : LatT)) = fun w : WinT => decide (w.s = r.win.s ∧ w.e = r.win.e) := by
        funext w; unfold qB; simp [hkey]
      rw [f1, filter_one (l := winsL j x.t) (w := r.win) (slideF_rise (winStep_pos hj) 100 _).1]
      by_cases hm : r.win ∈ winsL j x.t
      · have := hs.1 hm
        rw [if_pos hm, if_pos (by unfold inRw; rw [decide_eq_true_eq]; exact ⟨hkey, this⟩)]
        rfl
      · have h2 : ¬ (r.win.s ≤ x.t ∧ x.t < r.win.e) := fun h => hm (hs.2 h)
        rw [if_neg hm, if_neg (by unfold inRw; rw [decide_eq_true_eq]; exact fun h => h2 h.2)]
        rfl
    · have f1 : (qB r.key r.win ∘ fun w => (⟨x, w⟩ : LatT)) = fun w : WinT => false := by
        funext w; unfold qB; simp [hkey]
      rw [f1, if_neg (by unfold inRw; rw [decide_eq_true_eq]; exact fun h => hkey h.1)]
      simp
theorem less_perm : ∀ (b l a : List ItmT), l.Perm (a ++ b) → (lessL l b).Perm a
  | [], l, a, h => by rw [List.append_nil] at h; exact h
  | y :: b, l, a, h => by
    show (lessL (lessI l y) b).Perm a
    refine less_perm b _ a ?_
    have h1 : l.Perm (y :: (a ++ b)) := h.trans List.perm_middle
    have h2 := h1.erase y
    rw [List.erase_cons_head] at h2
    exact h2
/-- A row of windows that slide. -/
theorem row_law {j : JobT} (hj : JobOkP j) (hk : j.kind ≠ 3) {l : List ItmT} (hr : ∀ x, x ∈ l → RecP x) (hl : l.length ≤ 60) {P Q : List LatT} (hp : (pairsOf j l).Perm (P ++ Q)) {r : TabT} (hT : r ∈ spcT j.kind P) :
    aggF ((lessL (l.filter (inRw r)) (itmsW r.key r.win Q)).map (·.v)) = r.agg := by
  have hf := fine_of hj hr hl hp
  have hI := spc_invW hk hf
  obtain ⟨h1, h2⟩ := hI.row r hT
  obtain ⟨v, hv⟩ := List.exists_mem_of_ne_nil _ h1
  obtain ⟨y, hy, _⟩ := List.mem_map.1 hv
  obtain ⟨hy, hc⟩ := List.mem_filter.1 hy
  have hc := of_decide_eq_true hc
  obtain ⟨m1, m2⟩ := pairs_mem.1 (hp.mem_iff.2 (List.mem_append_left Q hy))
  have ew : y.win = r.win := win_ext hc.2.1 hc.2.2
  rw [ew] at m2
  have hx := recP_t (hr _ m1)
  have e := itmsW_recs hj hk hx (r := r) m2 l hr
  have hp2 : (l.filter (inRw r)).Perm (itmsW r.key r.win P ++ itmsW r.key r.win Q) := by
    rw [← e]
    have := (hp.filter (qB r.key r.win)).map (·.itm)
    rw [List.filter_append, List.map_append] at this
    exact this
  have hp3 := (less_perm _ _ _ hp2).map (·.v)
  rw [itmsW_v] at hp3
  have hlen : (valsW r.key r.win P).length ≤ 100000 := Nat.le_trans vals_len hf.1
  refine aggIs_uniq (aggF_is (fun x hx => vals_bd hf x (hp3.mem_iff.1 hx)) (by rw [hp3.length_eq]; omega)) h2 hp3
theorem pairs_one {j : JobT} (hj : JobOkP j) (h1 : j.kind = 1) : ∀ l : List ItmT, (∀ x, x ∈ l → RecP x) → (pairsOf j l).map (·.itm) = l
  | [], _ => rfl
  | x :: l, h => by
    have hx := recP_t (h x (by simp))
    have ih := pairs_one hj h1 l fun y hy => h y (List.mem_cons_of_mem _ hy)
    have e : pairsOf j (x :: l) = ((winsL j x.t).map fun w => (⟨x, w⟩ : LatT)) ++ pairsOf j l := by unfold pairsOf; rw [List.flatMap_cons]
    rw [e, List.map_append, ih, winsL_fixed h1 (by unfold JobOkP at hj; omega) hx.1 hx.2]
    rfl
theorem pairs_back {j : JobT} (hj : JobOkP j) (h1 : j.kind = 1) : ∀ P : List LatT, (∀ y, y ∈ P → RecP y.itm ∧ y.win ∈ winsL j y.itm.t) → pairsOf j (P.map (·.itm)) = P
  | [], _ => rfl
  | y :: P, h => by
    obtain ⟨hr, hw⟩ := h y (by simp)
    have hx := recP_t hr
    have ih := pairs_back hj h1 P fun z hz => h z (List.mem_cons_of_mem _ hz)
    have e : pairsOf j ((y :: P).map (·.itm)) = ((winsL j y.itm.t).map fun w => (⟨y.itm, w⟩ : LatT)) ++ pairsOf j (P.map (·.itm)) := by unfold pairsOf; rw [List.map_cons, List.flatMap_cons]
    rw [e, ih]
    have hW := winsL_fixed h1 (show 1 ≤ j.size by unfold JobOkP at hj; omega) hx.1 hx.2
    rw [hW] at hw ⊢
    simp at hw
    rw [List.map_cons, List.map_nil, ← hw]
    rfl
/-- Tables of windows of which each record has one, without those that came too late. -/
theorem tab_one {j : JobT} (hj : JobOkP j) (h1 : j.kind = 1) {l : List ItmT} (hr : ∀ x, x ∈ l → RecP x) (hl : l.length ≤ 60) {P Q : List LatT} (hp : (pairsOf j l).Perm (P ++ Q)) :
    spcT j.kind P = spcT j.kind (pairsOf j (lessL l (Q.map (·.itm)))) := by
  have hf := fine_of hj hr hl hp
  have hpl : l.Perm (P.map (·.itm) ++ Q.map (·.itm)) := by
    have := hp.map (·.itm)
    rw [List.map_append, pairs_one hj h1 l hr] at this
    exact this
  have h2 := less_perm _ _ _ hpl
  have h3 : (pairsOf j (lessL l (Q.map (·.itm)))).Perm P := by
    have e := pairs_back hj h1 P fun y hy => by
      have hm := pairs_mem.1 (hp.mem_iff.2 (List.mem_append_left Q hy))
      exact ⟨hr _ hm.1, hm.2⟩
    have h4 : (pairsOf j (lessL l (Q.map (·.itm)))).Perm (pairsOf j (P.map (·.itm))) := h2.flatMap_right _
    rw [e] at h4
    exact h4
  have hf2 : Fine (pairsOf j (lessL l (Q.map (·.itm)))) := ⟨by rw [h3.length_eq]; exact hf.1, fun y hy => hf.2 y (h3.mem_iff.1 hy)⟩
  exact invW_uniq (spc_invW (by omega) hf) (spc_invW (by omega) hf2) h3.symm
theorem less_recs {l m : List ItmT} (h : ∀ x, x ∈ l → RecP x) : ∀ x, x ∈ lessL l m → RecP x := by
  revert l
  induction m with
  | nil => intro l h; exact h
  | cons y m ih => intro l h; exact ih fun x hx => h x (List.mem_of_mem_erase hx)
end Go.Rk
/- The law, walked. -/
namespace Go.Rk
set_option linter.unusedSimpArgs false
set_option linter.unusedVariables false
open Go.Proofs Go.ChangeShapes Go.WideShapes Go.ChangeAt Go.RowKit
set_option maxRecDepth 100000
set_option maxHeartbeats 2000000
theorem le_own {sz n : Nat} {f g : Nat → List DV} (h : ∀ i, i < n → f i = g i) : DLe (.sl sz n f) (.sl sz n g) := dle_sl fun i hi => by rw [h i hi]; exact LsLe.rfl
theorem lst_same {α : Type} {z : α} {l : List α} {n m : Nat} {g h : Nat → α} (h1 : Lst z l n g) (h2 : Lst z l m h) : n = m ∧ ∀ i, i < n → g i = h i := ⟨h1.1.trans h2.1.symm, fun i hi => (h1.2 i hi).trans (h2.2 i (by rw [h2.1, ← h1.1]; exact hi)).symm⟩
theorem in_b (r : TabT) (x : ItmT) : (bif (bif x.key == r.key then decide (x.t ≥ r.win.s) else false) then decide (x.t < r.win.e) else false) = inRw r x := by
  unfold inRw
  refine Bool.eq_iff_iff.2 ?_
  rw [decide_eq_true_eq]
  cases h : (x.key == r.key) <;> simp at h <;> simp [h]
theorem flat_it {A : Ar} (hA : real = A) (n : Nat) (G : Nat → ItmT) : A.flat n (fun i => eItm (G i)) := by
  subst hA
  intro i _ x hx
  simp only [eItm, List.mem_cons, List.not_mem_nil, or_false] at hx
  rcases hx with rfl | rfl | rfl | rfl | rfl <;> exact ⟨_, rfl⟩
theorem q_b (r : TabT) (y : LatT) : (bif (y.win.s == r.win.s && (y.win.e == r.win.e && true)) then y.itm.key == r.key else false) = qB r.key r.win y := by
  unfold qB
  refine Bool.eq_iff_iff.2 ?_
  rw [decide_eq_true_eq]
  cases h : (y.itm.key == r.key) <;> simp at h <;> simp [h]
def st_tba (nt : Nat) (Gt : Nat → TabT) (nr : Nat) (Gr : Nat → ItmT) (d : Nat) (Q : Nat → LatT) (i : Nat) : St := ⟨[(10, .c (.d (eI i))), (9, .c (.d (.sl 7 nt fun i => eTab (Gt i)))), (8, .c (.d (.sl 5 nr fun i => eItm (Gr i)))), (7, .c (.d (.sl 7 d fun i => eLat (Q i))))], []⟩
def st_tbb (nt : Nat) (Gt : Nat → TabT) (nr : Nat) (Gr : Nat → ItmT) (d : Nat) (Q : Nat → LatT) (i : Nat) (k c : Nat) (G : Nat → ItmT) : St := ⟨[(13, .c (.d (eI k))), (12, .c (.own 5440 0 c 1)), (11, .c (.bp 704 1 0)), (10, .c (.d (eI i))), (9, .c (.d (.sl 7 nt fun i => eTab (Gt i)))), (8, .c (.d (.sl 5 nr fun i => eItm (Gr i)))), (7, .c (.d (.sl 7 d fun i => eLat (Q i))))], [(704, 1, .box ((eAgg zAgg).map .d)), (5440, 1, .arr 5 c fun q => eItm (G q))]⟩
def st_tbc (nt : Nat) (Gt : Nat → TabT) (nr : Nat) (Gr : Nat → ItmT) (d : Nat) (Q : Nat → LatT) (i : Nat) (c : Nat) (G : Nat → ItmT) (k c2 : Nat) (G2 : Nat → ItmT) : St := ⟨[(15, .c (.d (eI k))), (14, .c (.own 8832 0 c2 1)), (12, .c (.own 5440 0 c 1)), (11, .c (.bp 704 1 0)), (10, .c (.d (eI i))), (9, .c (.d (.sl 7 nt fun i => eTab (Gt i)))), (8, .c (.d (.sl 5 nr fun i => eItm (Gr i)))), (7, .c (.d (.sl 7 d fun i => eLat (Q i))))], [(704, 1, .box ((eAgg zAgg).map .d)), (5440, 1, .arr 5 c fun q => eItm (G q)), (8832, 1, .arr 5 c2 fun q => eItm (G2 q))]⟩
def st_tbd (nt : Nat) (Gt : Nat → TabT) (nr : Nat) (Gr : Nat → ItmT) (d : Nat) (Q : Nat → LatT) (i : Nat) (c : Nat) (G : Nat → ItmT) (k : Nat) (a : AggT) : St := ⟨[(16, .c (.d (eI k))), (12, .c (.own 11520 0 c 1)), (11, .c (.bp 704 1 0)), (10, .c (.d (eI i))), (9, .c (.d (.sl 7 nt fun i => eTab (Gt i)))), (8, .c (.d (.sl 5 nr fun i => eItm (Gr i)))), (7, .c (.d (.sl 7 d fun i => eLat (Q i))))], [(704, 1, .box ((eAgg a).map .d)), (11520, 1, .arr 5 c fun q => eItm (G q))]⟩
theorem m_law (M0 : Nat) (b : Nat → Int) (hb : ∀ i, 0 ≤ b i ∧ b i ≤ 255) : Meets Try.prog 6 [.c (.d (.sl 1 M0 fun i => [eU (b i)]))] ⟨.one (.c (.d (eB true))), [none]⟩ := by
  refine meets_of (H := []) (EX := EXA) ttok mixed Try.func6 rfl (by kernel_rfl) (by decide) ?_
  generalize hA : real = A
  generalize hM : MeetsB Try.prog = M
  cbv
  obtain ⟨⟨j, N, g⟩, ⟨hj, ⟨hN1, hN2⟩, hLog, hEnd⟩, hDraw⟩ := x_drawMix M0 b hb
  dsimp only at hj hN1 hN2 hLog hEnd hDraw
  have hDraw := meets_frz hDraw rfl
  obtain ⟨L, hL⟩ : ∃ L, L = (List.range N).map g := ⟨_, rfl⟩
  obtain ⟨l0, hl0⟩ : ∃ l0, l0 = (List.range (N - 1)).map g := ⟨_, rfl⟩
  have hLe : L = l0 ++ [endE] := by
    rw [hL, hl0, show N = (N - 1) + 1 by omega, List.range_succ, List.map_append, show (N - 1) + 1 - 1 = N - 1 by omega]
    show _ ++ [g (N - 1)] = _
    rw [hEnd]
  have hE0 : ∀ x, x ∈ l0 → LogE x := fun x hx => by
    rw [hl0] at hx
    obtain ⟨i, hi, rfl⟩ := List.mem_map.1 hx
    have hi := List.mem_range.1 hi
    exact hLog i (by omega)
  have hl59 : l0.length ≤ 59 := by rw [hl0, List.length_map, List.length_range]; omega
  have hLl : Lst endE L N g := by rw [hL]; exact lst_of _ _ _
  have hgX : ∀ x, x ∈ L → LogX x := fun x hx => by
    rw [hLe] at hx
    rcases List.mem_append.1 hx with hx | hx
    · exact .inl (hE0 x hx)
    · simp at hx; exact .inr hx
  have hLn : L.length = N := hLl.1.symm
  have hjl : 0 ≤ j.late ∧ j.late ≤ 20 := by unfold JobOkP at hj; omega
  obtain ⟨⟨⟨k1, G1⟩, ⟨c, P⟩, d, Q⟩, ⟨hG1, hP1, hQ1⟩, hF1⟩ := x_frFed j N g (by omega) hj L hLl hgX
  dsimp only at hG1 hP1 hQ1 hF1
  have hfl := fed_len hj L hgX (by omega)
  have hc : c ≤ 40000 := by rw [hP1.1]; omega
  have hd : d ≤ 400 := by rw [hQ1.1]; omega
  have hdL : d ≤ maxLen := Nat.le_trans hd (by decide)
  have hF1 := meets_frz hF1 rfl
  obtain ⟨bp, hbp, hPu⟩ := c_LogPunctual L N g hLl (by omega) hgX j.late hjl
  obtain ⟨nt, Gt, hGt⟩ := lst_ex zTab (ofL j.piece (fedL j L).2.2.1)
  have hO1 := meets_frz (c_Of (fedL j L).2.2.1 c P hP1 (by omega) j.piece nt Gt hGt) rfl
  have hntL : nt ≤ maxLen := Nat.le_trans (show nt ≤ 40000 by rw [hGt.1]; exact Nat.le_trans (ofL_len _ _) (by rw [← hP1.1]; exact hc)) (by decide)
  have hTb := c_frTab nt hntL Gt
  have hR0 := recsK_rec hgX
  have hR1 := recsK_len L
  obtain ⟨nr, Gr, hGr⟩ := lst_ex endE (recsK L)
  have hnr : nr ≤ 28 := by rw [hGr.1]; omega
  have hLR := meets_frz (c_LogRecs L N g hLl (by omega) (fun x hx h1 => by
    have := hR0 x (List.mem_filter.2 ⟨hx, decide_eq_true h1⟩)
    exact (recP_kv this).2.1) nr Gr hGr) rfl
  have hLa := meets_frz (c_LatRecs d (by omega) Q) rfl
  obtain ⟨PL, hK⟩ := known_end hj hE0 hl59
  obtain ⟨e1, e2⟩ := fed_end hj hE0 hl59
  obtain ⟨hsnd, hpok⟩ := fed_S hj L hgX (by omega)
  rw [← hLe] at hK e1 e2
  obtain ⟨T, hT⟩ : ∃ T, T = ofL j.piece (fedL j L).2.2.1 := ⟨_, rfl⟩
  obtain ⟨QL, hQL⟩ : ∃ QL, QL = (fedL j L).2.2.2 := ⟨_, rfl⟩
  obtain ⟨R, hR⟩ : ∃ R, R = recsK L := ⟨_, rfl⟩
  have hperm := hK.perm
  have htab := hK.tab
  have hpunc := hK.punc
  have hcnt := hK.cnt
  have hpos := hK.pos
  rw [← hT] at hcnt hpos htab
  rw [← hQL, ← hR] at hperm hpunc
  rw [← hR] at hGr hR0
  rw [← hT] at hGt
  rw [← hQL] at hQ1
  rw [e1] at hF1
  have hk1 : k1 = 0 := by rw [hG1.1, e2]; rfl
  subst hk1
  have hRl : R.length ≤ 28 := by rw [← hGr.1]; exact hnr
  have hPS := c_PanSound (fedL j L).2.2.1 c P hP1 (by omega) hsnd.snd hpok
  have hcb : 0 ≤ tCnt T ∧ tCnt T ≤ 1000 := by
    have h1 := hperm.length_eq
    rw [List.length_append] at h1
    have h2 := pairs_len hj R hR0
    rw [hcnt]; omega
  obtain ⟨ct, hct⟩ : ∃ ct, ct = tCnt T := ⟨_, rfl⟩
  have hTC := c_TabCount T nt Gt hGt (by rw [hGt.1, hT]; exact Nat.le_trans (ofL_len _ _) (by rw [← hP1.1]; omega)) (fun i _ => by
    have := tCnt_take (T := T) (fun r hr => hpos r hr) i
    omega) ct hct
  rw [← hct] at hcb hcnt
  have hspc := spc_of hj hGr (by omega) hR0
  obtain ⟨np, Gp, hGp⟩ := lst_ex zLat (pairsOf j R)
  have hPr := c_Spc j nr (Nat.le_trans hnr (by decide)) Gr np Gp (by rw [hspc]; exact lst_tells eLat hGp)
  have hPr := meets_frz hPr rfl
  have hnum : ct + (d : Int) = (np : Int) := by
    have h1 := hperm.length_eq
    rw [List.length_append] at h1
    rw [hcnt, hGp.1, hQ1.1]; omega
  have hGo : ∀ {A : Ar}, real = A → A.bite (A.bite (A.bite (A.cmp .gtr (A.int 0) 0) true (A.cmp .neq 1000 1000)) true (A.bnot true)) true (A.cmp .neq (A.ar .add .i64 ct (A.int d)) (A.int np)) = true → False := fun hA h => by
    subst hA
    have h : (bif (bif (bif decide ((0 : Int) > 0) then true else ((1000 : Int) != 1000)) then true else (!true)) then true else (IntKind.i64.wrap (ct + (d : Int)) != (np : Int))) = true := h
    rw [IntWalk.i64_in _ (by omega), hnum] at h
    simp at h
  obtain ⟨nw, Gw, hGw⟩ := lst_ex endE (lessL R (QL.map (·.itm)))
  have hLt : Lst endE (QL.map (·.itm)) d (fun i => (Q i).itm) := ⟨by rw [List.length_map]; exact hQ1.1, fun k hk => by
    have h := lst_at hQ1 hk
    rw [List.getD_eq_getElem?_getD, List.getElem?_map, h]; rfl⟩
  have hnw : nw ≤ 28 := by rw [hGw.1]; exact Nat.le_trans (lessL_len _ _) hRl
  have hWo := meets_frz (c_SpcWithout R nr Gr hGr (by omega) (QL.map (·.itm)) d (fun i => (Q i).itm) hLt (by omega) nw Gw hGw) rfl
  have hspw := spc_of hj hGw (by omega) (less_recs hR0)
  obtain ⟨ns, Gs, hGs⟩ := lst_ex zTab (spcT j.kind (spcL j nw Gw))
  have hST := meets_frz (c_SpcT j nw (Nat.le_trans hnw (by decide)) Gw ns Gs hGs) rfl
  have hsame : j.kind ≠ 2 → (j.kind = 3 → bp = true) → nt = ns ∧ ∀ i, i < nt → Gt i = Gs i := fun h2 h3 => by
    refine lst_same hGt ?_
    rw [hspw] at hGs
    have hk := hj.2.2.1
    by_cases hk3 : j.kind = 3
    · have hp := hbp.1 (h3 hk3)
      obtain ⟨q1, q2⟩ := hpunc hp
      have : T = spcT j.kind (pairsOf j (lessL R (QL.map (·.itm)))) := by
        rw [htab fun _ => hp, q1, q2]; rfl
      rw [this]; exact hGs
    · have : T = spcT j.kind (pairsOf j (lessL R (QL.map (·.itm)))) := by
        rw [htab fun h => absurd h hk3]
        exact tab_one hj (by omega) hR0 (by omega) hperm
      rw [this]; exact hGs
  repeat' first
    | apply And.intro
    | exact True.intro
    | with_reducible rfl
    | exact same_of hA rfl
    | refine br_of hA (fun _ => ?_) (fun _ => ?_)
    | exact imp_of hA id
    | (refine imp_of hA ?_; subst hA; simp only [real, Bool.true_and]; exact id)
    | (refine ind_of hA ?_; decide +kernel)
    | (refine call_of hA hM _ hDraw ?_; cbv)
    | (refine call_of hA hM _ hF1 ?_; cbv)
    | (refine call_of hA hM _ hLR ?_; cbv)
    | (refine call_of hA hM _ hO1 ?_; cbv)
    | (refine call_of hA hM _ hPS ?_; cbv)
    | (refine call_of hA hM _ hTC ?_; cbv)
    | (refine call_of hA hM _ hPr ?_; cbv)
    | (refine call_of hA hM _ hPu ?_; cbv)
    | (refine call_of hA hM _ hWo ?_; cbv)
    | (refine call_of hA hM _ hLa ?_; cbv)
    | (refine call_of hA hM _ hST ?_; cbv)
    | (refine call_of hA hM _ c_frOk ?_; cbv)
    | fail
  · exfalso
    rename_i h
    clear hDraw hF1 hLR hO1 hPS hTC hPr hPu hWo hLa hST
    exact hGo hA h
  · rename_i h3 h2
    have h2 : j.kind = 2 := by subst hA; exact of_decide_eq_true (show decide (j.kind = 2) = true from h2)
    have hk3 : j.kind ≠ 3 := by omega
    clear hDraw hF1 hLR hO1 hPS hTC hPr hPu hWo hLa hST hsame h3
    have hTP : T = spcT j.kind PL := htab fun h => absurd h hk3
    refine loop_of hA (α := { i : Nat // i ≤ nt }) (fun y => st_tba nt Gt nr Gr d Q y.1) (fun y => nt - y.1) ⟨0, Nat.zero_le _⟩ ?_ ?_
    · refine cov_of ?_ ?_ ?_
      · cbv; subst hA; repeat' first | apply And.intro | exact True.intro | exact congrArg (fun x => DV.v (.int .i64 x)) (rfl) | rfl
      · cbv; try (subst hA; repeat' first | apply And.intro | exact True.intro | rfl | (intro _ _; rfl) | (intro k hk; exact absurd hk (Nat.not_lt_zero k)) | (intro q hq; exact push_if eItm rfl _ _ _ _ q hq))
      · cbv; try (subst hA; repeat' first | apply And.intro | exact True.intro | rfl | exact .inr trivial | exact .inl trivial)
    rintro ⟨i, hi⟩
    have hi : i ≤ nt := hi
    obtain ⟨r, hr⟩ : ∃ r, r = Gt i := ⟨_, rfl⟩
    obtain ⟨nin, Gin, hGin⟩ := lst_ex endE (R.filter (inRw r))
    obtain ⟨nlt, Glt, hGlt⟩ := lst_ex endE (itmsW r.key r.win QL)
    obtain ⟨nl, Gl, hGl⟩ := lst_ex endE (lessL (R.filter (inRw r)) (itmsW r.key r.win QL))
    have hnin : nin ≤ 28 := by rw [hGin.1]; exact Nat.le_trans (List.length_filter_le _ _) hRl
    have hnlt : nlt ≤ 400 := by rw [hGlt.1]; unfold itmsW; rw [List.length_map]; exact Nat.le_trans (List.length_filter_le _ _) (by rw [← hQ1.1]; exact hd)
    have hnl : nl ≤ 28 := by rw [hGl.1]; exact Nat.le_trans (lessL_len _ _) (Nat.le_trans (List.length_filter_le _ _) hRl)
    have hnlL : nl ≤ maxLen := Nat.le_trans hnl (by decide)
    have hWi := c_SpcWithout (R.filter (inRw r)) nin Gin hGin (by omega) (itmsW r.key r.win QL) nlt Glt hGlt (by omega) nl Gl hGl
    have hagg : i < nt → aggF ((lessL (R.filter (inRw r)) (itmsW r.key r.win QL)).map (·.v)) = r.agg := fun h => by
      refine row_law hj hk3 hR0 (by omega) hperm ?_
      rw [← hTP, hr]; exact lst_in hGt h
    cbv
    repeat' first
      | apply And.intro
      | exact True.intro
      | with_reducible rfl
      | exact same_of hA rfl
      | refine br_of hA (fun _ => ?_) (fun _ => ?_)
      | exact imp_of hA id
      | (refine imp_of hA ?_; subst hA; simp only [real, Bool.true_and]; exact id)
      | (refine ind_of hA ?_; decide +kernel)
      | (refine call_of hA hM _ c_frOk ?_; cbv)
      | (refine inb_lt hA ?_; first | exact lt2_of hA (by assumption) | exact lt_of hA (by assumption))
      | fail
    rename_i hlk0
    have hlk : i < nt := by first | exact lt2_of hA hlk0 | exact lt_of hA hlk0
    have hit := hlk
    refine loop_of hA (α := { q : Nat × Nat × (Nat → ItmT) // q.1 ≤ nr ∧ Lst endE ((R.take q.1).filter (inRw r)) q.2.1 q.2.2 }) (fun y => st_tbb nt Gt nr Gr d Q i y.1.1 y.1.2.1 y.1.2.2) (fun y => nr - y.1.1) ⟨(0, 0, fun _ => endE), Nat.zero_le _, rfl, fun k hk => absurd hk (Nat.not_lt_zero k)⟩ ?_ ?_
    · refine cov_of ?_ ?_ ?_
      · cbv; subst hA; repeat' first | apply And.intro | exact True.intro | exact congrArg (fun x => DV.v (.int .i64 x)) (rfl) | rfl
      · cbv; try (subst hA; repeat' first | apply And.intro | exact True.intro | rfl | (intro _ _; rfl) | (intro k hk; exact absurd hk (Nat.not_lt_zero k)) | (intro q hq; exact push_if eItm rfl _ _ _ _ q hq))
      · cbv; try (subst hA; repeat' first | apply And.intro | exact True.intro | rfl | exact .inr trivial | exact .inl trivial)
    rintro ⟨⟨k, c1, G9⟩, hk, hG⟩
    have hk : k ≤ nr := hk
    have hG : Lst endE ((R.take k).filter (inRw r)) c1 G9 := hG
    have hc1 : c1 ≤ 28 := by rw [hG.1]; exact Nat.le_trans (List.length_filter_le _ _) (by rw [List.length_take]; omega)
    have hnext : k < nr → (R.take (k + 1)).filter (inRw r) = (R.take k).filter (inRw r) ++ if inRw r (Gr k) = true then [Gr k] else [] := fun h => by
      rw [lst_take hGr h, List.filter_append]
      congr 1
      rw [List.filter_cons]; rfl
    cbv
    repeat' first
      | apply And.intro
      | exact True.intro
      | with_reducible rfl
      | exact same_of hA rfl
      | refine br_of hA (fun _ => ?_) (fun _ => ?_)
      | exact imp_of hA id
      | (refine imp_of hA ?_; subst hA; simp only [real, Bool.true_and]; exact id)
      | (refine ind_of hA ?_; decide +kernel)
      | (refine inb_lt hA ?_; first | exact lt2_of hA (by assumption) | exact lt_of hA (by assumption))
      | exact room_add2 hA (by omega) (by decide)
      | fail
    · rename_i hlk0 hc
      have hlk : k < nr := by first | exact lt2_of hA hlk0 | exact lt_of hA hlk0
      have hin : inRw r (Gr k) = true := by
        rw [hr, ← in_b]
        subst hA
        exact hc
      refine ⟨⟨(k + 1, c1 + 1, fun q => if q < c1 then G9 q else Gr k), hlk, ?_⟩, by simp only; omega, cov_of ?_ ?_ ?_⟩
      · simp only
        rw [hnext hlk, if_pos hin]; exact lst_snoc hG
      · cbv; subst hA; repeat' first | apply And.intro | exact True.intro | exact congrArg (fun x => DV.v (.int .i64 x)) (up64 hlk (Nat.le_trans hnr (by decide))) | rfl
      · cbv; try (subst hA; repeat' first | apply And.intro | exact True.intro | rfl | (intro _ _; rfl) | (intro k hk; exact absurd hk (Nat.not_lt_zero k)) | (intro q hq; exact push_if eItm rfl _ _ _ _ q hq))
      · cbv; try (subst hA; repeat' first | apply And.intro | exact True.intro | rfl | exact .inr trivial | exact .inl trivial)
    · rename_i hlk0 hc
      have hlk : k < nr := by first | exact lt2_of hA hlk0 | exact lt_of hA hlk0
      have hin : inRw r (Gr k) = false := by
        rw [hr, ← in_b]
        subst hA
        exact hc
      refine ⟨⟨(k + 1, c1, G9), hlk, ?_⟩, by simp only; omega, cov_of ?_ ?_ ?_⟩
      · simp only
        rw [hnext hlk, if_neg (by rw [hin]; simp), List.append_nil]; exact hG
      · cbv; subst hA; repeat' first | apply And.intro | exact True.intro | exact congrArg (fun x => DV.v (.int .i64 x)) (up64 hlk (Nat.le_trans hnr (by decide))) | rfl
      · cbv; try (subst hA; repeat' first | apply And.intro | exact True.intro | rfl | (intro _ _; rfl) | (intro k hk; exact absurd hk (Nat.not_lt_zero k)) | (intro q hq; exact push_if eItm rfl _ _ _ _ q hq))
      · cbv; try (subst hA; repeat' first | apply And.intro | exact True.intro | rfl | exact .inr trivial | exact .inl trivial)
    rename_i hge0
    have hkn : k = nr := by first | (have := ge2_of hA hge0; omega) | (have := ge_of hA hge0; omega)
    have hG : Lst endE (R.filter (inRw r)) c1 G9 := by rw [hkn, lst_all hGr] at hG; exact hG
    refine loop_of hA (α := { q : Nat × Nat × (Nat → ItmT) // q.1 ≤ d ∧ Lst endE (itmsW r.key r.win (QL.take q.1)) q.2.1 q.2.2 }) (fun y => st_tbc nt Gt nr Gr d Q i c1 G9 y.1.1 y.1.2.1 y.1.2.2) (fun y => d - y.1.1) ⟨(0, 0, fun _ => endE), Nat.zero_le _, rfl, fun k hk => absurd hk (Nat.not_lt_zero k)⟩ ?_ ?_
    · refine cov_of ?_ ?_ ?_
      · cbv; subst hA; repeat' first | apply And.intro | exact True.intro | exact congrArg (fun x => DV.v (.int .i64 x)) (rfl) | rfl
      · cbv; try (subst hA; repeat' first | apply And.intro | exact True.intro | rfl | (intro _ _; rfl) | (intro k hk; exact absurd hk (Nat.not_lt_zero k)) | (intro q hq; exact push_if eItm rfl _ _ _ _ q hq))
      · cbv; try (subst hA; repeat' first | apply And.intro | exact True.intro | rfl | exact .inr trivial | exact .inl trivial)
    rintro ⟨⟨k, c2, G2⟩, hk, hG2⟩
    have hk : k ≤ d := hk
    have hG2 : Lst endE (itmsW r.key r.win (QL.take k)) c2 G2 := hG2
    have hc2 : c2 ≤ 400 := by rw [hG2.1]; unfold itmsW; rw [List.length_map]; exact Nat.le_trans (List.length_filter_le _ _) (by rw [List.length_take]; omega)
    have hnext2 : k < d → itmsW r.key r.win (QL.take (k + 1)) = itmsW r.key r.win (QL.take k) ++ if qB r.key r.win (Q k) = true then [(Q k).itm] else [] := fun h => by
      unfold itmsW
      rw [lst_take hQ1 h, List.filter_append, List.map_append]
      congr 1
      rw [List.filter_cons]
      split <;> rfl
    cbv
    repeat' first
      | apply And.intro
      | exact True.intro
      | with_reducible rfl
      | exact same_of hA rfl
      | refine br_of hA (fun _ => ?_) (fun _ => ?_)
      | exact imp_of hA id
      | (refine imp_of hA ?_; subst hA; simp only [real, Bool.true_and]; exact id)
      | (refine ind_of hA ?_; decide +kernel)
      | (refine inb_lt hA ?_; first | exact lt2_of hA (by assumption) | exact lt_of hA (by assumption))
      | exact room_add2 hA (by omega) (by decide)
      | fail
    · rename_i hlk0 hc
      have hlk : k < d := by first | exact lt2_of hA hlk0 | exact lt_of hA hlk0
      have hin : qB r.key r.win (Q k) = true := by
        rw [hr, ← q_b]
        subst hA
        exact hc
      refine ⟨⟨(k + 1, c2 + 1, fun q => if q < c2 then G2 q else (Q k).itm), hlk, ?_⟩, by simp only; omega, cov_of ?_ ?_ ?_⟩
      · simp only
        rw [hnext2 hlk, if_pos hin]; exact lst_snoc hG2
      · cbv; subst hA; repeat' first | apply And.intro | exact True.intro | exact congrArg (fun x => DV.v (.int .i64 x)) (up64 hlk hdL) | rfl
      · cbv; try (subst hA; repeat' first | apply And.intro | exact True.intro | rfl | (intro _ _; rfl) | (intro k hk; exact absurd hk (Nat.not_lt_zero k)) | (intro q hq; exact push_if eItm rfl _ _ _ _ q hq))
      · cbv; try (subst hA; repeat' first | apply And.intro | exact True.intro | rfl | exact .inr trivial | exact .inl trivial)
    · rename_i hlk0 hc
      have hlk : k < d := by first | exact lt2_of hA hlk0 | exact lt_of hA hlk0
      have hin : qB r.key r.win (Q k) = false := by
        rw [hr, ← q_b]
        subst hA
        exact hc
      refine ⟨⟨(k + 1, c2, G2), hlk, ?_⟩, by simp only; omega, cov_of ?_ ?_ ?_⟩
      · simp only
        rw [hnext2 hlk, if_neg (by rw [hin]; simp), List.append_nil]; exact hG2
      · cbv; subst hA; repeat' first | apply And.intro | exact True.intro | exact congrArg (fun x => DV.v (.int .i64 x)) (up64 hlk hdL) | rfl
      · cbv; try (subst hA; repeat' first | apply And.intro | exact True.intro | rfl | (intro _ _; rfl) | (intro k hk; exact absurd hk (Nat.not_lt_zero k)) | (intro q hq; exact push_if eItm rfl _ _ _ _ q hq))
      · cbv; try (subst hA; repeat' first | apply And.intro | exact True.intro | rfl | exact .inr trivial | exact .inl trivial)
    rename_i hge1
    have hkd : k = d := by first | (have := ge2_of hA hge1; omega) | (have := ge_of hA hge1; omega)
    have hG2 : Lst endE (itmsW r.key r.win QL) c2 G2 := by rw [hkd, lst_all hQ1] at hG2; exact hG2
    have hWi := c_SpcWithout (R.filter (inRw r)) c1 G9 hG (by omega) (itmsW r.key r.win QL) c2 G2 hG2 (by omega) nl Gl hGl
    refine call_of2 hA hM _ hWi (by subst hA; first | rfl | (simp only [sub0r]; done) | (simp only [sub0r]; rfl)) ?_
    cbv
    repeat' first
      | apply And.intro
      | exact True.intro
      | with_reducible rfl
      | exact same_of hA rfl
      | refine br_of hA (fun _ => ?_) (fun _ => ?_)
      | exact imp_of hA id
      | (refine imp_of hA ?_; subst hA; simp only [real, Bool.true_and]; exact id)
      | (refine ind_of hA ?_; decide +kernel)
      | (refine inb_lt hA ?_; first | exact lt2_of hA (by assumption) | exact lt_of hA (by assumption))
      | exact flat_it hA _ _
      | fail
    refine loop_of hA (α := { q : Nat × AggT // q.1 ≤ nl ∧ q.2 = aggF (((lessL (R.filter (inRw r)) (itmsW r.key r.win QL)).take q.1).map (·.v)) }) (fun y => st_tbd nt Gt nr Gr d Q i nl Gl y.1.1 y.1.2) (fun y => nl - y.1.1) ⟨(0, zAgg), Nat.zero_le _, rfl⟩ ?_ ?_
    · refine cov_of ?_ ?_ ?_
      · cbv; subst hA; repeat' first | apply And.intro | exact True.intro | exact congrArg (fun x => DV.v (.int .i64 x)) (rfl) | rfl
      · cbv; try (subst hA; repeat' first | apply And.intro | exact True.intro | rfl | (intro _ _; rfl) | (intro k hk; exact absurd hk (Nat.not_lt_zero k)) | (intro q hq; exact push_if eItm rfl _ _ _ _ q hq))
      · cbv; try (subst hA; repeat' first | apply And.intro | exact True.intro | rfl | exact .inr trivial | exact .inl trivial)
    rintro ⟨⟨k3, a3⟩, hk3', ha3⟩
    have hk3' : k3 ≤ nl := hk3'
    have ha3 : a3 = aggF (((lessL (R.filter (inRw r)) (itmsW r.key r.win QL)).take k3).map (·.v)) := ha3
    obtain ⟨a4, ha4⟩ : ∃ a4, a4 = aggAdd a3 (Gl k3).v := ⟨_, rfl⟩
    have hAd := c_AggAdd a3 (Gl k3).v a4 ha4
    have hnext3 : k3 < nl → a4 = aggF (((lessL (R.filter (inRw r)) (itmsW r.key r.win QL)).take (k3 + 1)).map (·.v)) := fun h => by
      rw [lst_take hGl h, List.map_append, List.map_cons, List.map_nil, aggF_snoc, ← ha3, ha4]
    cbv
    repeat' first
      | apply And.intro
      | exact True.intro
      | with_reducible rfl
      | exact same_of hA rfl
      | refine br_of hA (fun _ => ?_) (fun _ => ?_)
      | exact imp_of hA id
      | (refine imp_of hA ?_; subst hA; simp only [real, Bool.true_and]; exact id)
      | (refine ind_of hA ?_; decide +kernel)
      | (refine inb_lt hA ?_; first | exact lt2_of hA (by assumption) | exact lt_of hA (by assumption))
      | exact flat_it hA _ _
      | (refine call_of2 hA hM _ hAd (by subst hA; show [xd (eAgg a3), XT.c (.d (eI (Gl (0 + k3)).v))] = _; rw [Nat.zero_add]) ?_; cbv)
      | fail
    · rename_i hlk0
      have hlk : k3 < nl := by first | exact lt2_of hA hlk0 | exact lt_of hA hlk0
      refine ⟨⟨(k3 + 1, a4), hlk, hnext3 hlk⟩, by simp only; omega, cov_of ?_ ?_ ?_⟩
      · cbv; subst hA; repeat' first | apply And.intro | exact True.intro | exact congrArg (fun x => DV.v (.int .i64 x)) (up64 hlk hnlL) | rfl
      · cbv; try (subst hA; repeat' first | apply And.intro | exact True.intro | rfl | (intro _ _; rfl) | (intro k hk; exact absurd hk (Nat.not_lt_zero k)) | (intro q hq; exact push_if eItm rfl _ _ _ _ q hq))
      · cbv; try (subst hA; repeat' first | apply And.intro | exact True.intro | rfl | exact .inr trivial | exact .inl trivial)
    · exfalso
      rename_i hge3 hc
      have hkl : k3 = nl := by first | (have := ge2_of hA hge3; omega) | (have := ge_of hA hge3; omega)
      have ha : a3 = (Gt i).agg := by
        rw [ha3, hkl, lst_all hGl, hagg hit, hr]
      subst hA
      have hc : (!(a3.n == (Gt i).agg.n && (a3.sum == (Gt i).agg.sum && (a3.least == (Gt i).agg.least && (a3.most == (Gt i).agg.most && true))))) = true := hc
      rw [ha] at hc
      simp at hc
    · refine ⟨⟨i + 1, hit⟩, by simp only; omega, cov_of ?_ ?_ ?_⟩
      · cbv; subst hA; repeat' first | apply And.intro | exact True.intro | exact congrArg (fun x => DV.v (.int .i64 x)) (up64 hit hntL) | rfl
      · cbv; try (subst hA; repeat' first | apply And.intro | exact True.intro | rfl | (intro _ _; rfl) | (intro k hk; exact absurd hk (Nat.not_lt_zero k)) | (intro q hq; exact push_if eItm rfl _ _ _ _ q hq))
      · cbv; try (subst hA; repeat' first | apply And.intro | exact True.intro | rfl | exact .inr trivial | exact .inl trivial)
  · rename_i h3 h2
    have hne2 : j.kind ≠ 2 := by subst hA; exact of_decide_eq_false (show decide (j.kind = 2) = false from h2)
    have hb3 : j.kind = 3 → bp = true := fun hk => by
      subst hA
      have h3 : (bif j.kind == 3 then (!bp) else false) = false := h3
      rw [show (j.kind == 3) = true by rw [hk]; rfl] at h3
      cases hb : bp with
      | true => rfl
      | false => rw [hb] at h3; cases h3
    obtain ⟨hnn, hgg⟩ := hsame hne2 hb3
    subst hnn
    have hTb2 := meets_args (args := [.c (.d (.sl 7 nt fun i => eTab (Gt i))), .c (.d (.sl 7 nt fun i => eTab (Gs i)))]) hTb ⟨DLe.rfl, le_own (fun i hi => by rw [hgg i hi]), trivial⟩
    refine call_of hA hM _ hTb2 ?_
    cbv
    repeat' first
      | apply And.intro
      | exact True.intro
      | with_reducible rfl
      | exact same_of hA rfl
      | refine br_of hA (fun _ => ?_) (fun _ => ?_)
      | exact imp_of hA id
      | (refine imp_of hA ?_; subst hA; simp only [real, Bool.true_and]; exact id)
      | (refine ind_of hA ?_; decide +kernel)
      | (refine call_of hA hM _ c_frOk ?_; cbv)
      | fail
    all_goals
      subst hA
      rfl
end Go.Rk
