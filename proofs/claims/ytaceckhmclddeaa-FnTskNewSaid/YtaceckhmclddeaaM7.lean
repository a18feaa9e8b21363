/- The walk over this seat's functions, part 7: what each of them answers, at all data. -/
import Derived.Test.YtaceckhmclddeaaM1
import Derived.Test.YtaceckhmclddeaaM2
import Derived.Test.YtaceckhmclddeaaM3
import Derived.Test.YtaceckhmclddeaaM4
import Derived.Test.YtaceckhmclddeaaM5
import Derived.Test.YtaceckhmclddeaaM6
import Derived.Test.YtaceckhmclddeaaRows
import Derived.WalkKit
import Derived.ProofKit
import Derived.OpenShut
import Derived.ShutString
import Derived.ChangeOld
import Derived.SizedLaws
import Derived.DataShut
import Derived.Shelf.Spec.SlicesInsertGrow
/- Tasks: draw. -/
namespace Go.Rk
set_option linter.unusedSimpArgs false
set_option linter.unusedVariables false
open Go.Proofs
set_option maxRecDepth 100000
set_option maxHeartbeats 1000000
def st_dt (m : Nat) (b : Nat → Int) (j : JobT) (s : OpStT) (i c : Nat) (q : Int) (G : Nat → Int) : St := ⟨[(9, .c (.d (eI i))), (8, .c (.own 1088 0 c 1)), (7, .c (.bp 448 1 0)), (6, .c (.bp 384 1 0)), (5, .c (.bp 704 1 0)), (3, .c (.bp 192 1 0)), (2, .c (.bp 128 1 0))], [(1088, 1, .arr 1 c fun k => [eI (G k)]), (448, 1, .box [.d (eI s.mark), .d (.sl 13 s.rows.n fun i => eRow (s.rows.g i))]), (384, 1, .box ((eJob j).map .d)), (704, 1, .box [.d (.sl 1 m fun i => [eU (b i)]), .d (eI q)]), (192, 1, .box [.d (eI 0), .d (.v nilS)]), (128, 1, .box [.d (eI 0), .d (eI 0), .d (eI 0), .d (eI 0), .d (eI 0), .d (eI 0), .d (eI 0), .d (eB false), .d (eI 0), .d (eI 0)])]⟩
theorem x_drawTskNew (M0 : Nat) (b : Nat → Int) (hb : ∀ i, 0 ≤ b i ∧ b i ≤ 255) : ∃ y : JobT × OpStT × Nat × (Nat → Int), (y.2.1.rows.n ≤ 261 ∧ y.2.2.1 ≤ 5) ∧ Meets Try.prog 38 [.c (.d (.sl 1 M0 fun i => [eU (b i)]))] ⟨.tup [xd (eJob y.1), .agg [.d (eI y.2.1.mark), .d (.sl 13 y.2.1.rows.n fun i => eRow (y.2.1.rows.g i))], .c (.own 1 y.2.2.1 fun i => [eI (y.2.2.2 i)])], [none]⟩ := by
  obtain ⟨m, hmm⟩ : ∃ m : Nat, m = if 2000 < M0 then 2000 else M0 := ⟨_, rfl⟩
  have hm : m ≤ 2000 := by rw [hmm]; split <;> omega
  have ho := m_open M0 b m hmm
  refine meets_ex (H := [8, 10]) (EX := EXD) ttok mixed ([none]) Try.func38 rfl (by kernel_rfl) (by decide) (fun _ => rfl) ?_
  generalize hA : real = A
  generalize hM : MeetsB Try.prog = M
  cbv
  repeat' first
    | apply And.intro
    | exact True.intro
    | with_reducible rfl
    | exact same_of hA rfl
    | refine br_of hA (fun _ => ?_) (fun _ => ?_)
    | exact imp_of hA id
    | (refine imp_of hA ?_; subst hA; simp only [real, Bool.true_and]; exact id)
    | (refine ind_of hA ?_; decide +kernel)
    | (refine call_of hA hM _ ho ?_; cbv)
    | (refine call_ex hA hM (x_any m hm b hb _ (by omega) _ (by omega)) ?_; rintro ⟨⟨j, s⟩, q⟩ ⟨hq0, hq1, hs⟩; dsimp only at hq0 hq1 hs; cbv)
    | fail
  refine loop_of hA (α := { y : Nat × Int × (Nat → Int) // y.1 ≤ 4 ∧ 0 ≤ y.2.1 ∧ y.2.1 ≤ 1000 + (y.1 : Int) }) (fun y => st_dt m b j s y.1.1 y.1.1 y.1.2.1 y.1.2.2) (fun y => 4 - y.1.1) ⟨(0, q, fun _ => 0), Nat.zero_le _, hq0, by (show q ≤ 1000 + 0); omega⟩ ?_ ?_
  · refine cov_of ?_ ?_ ?_
    · cbv; try (subst hA; repeat' first | apply And.intro | exact True.intro | rfl | (intro _ _; rfl) | (intro k hk; exact absurd hk (Nat.not_lt_zero k)) | exact .inr (Nat.le_refl _))
    · cbv; try (subst hA; repeat' first | apply And.intro | exact True.intro | rfl | (intro _ _; rfl) | (intro k hk; exact absurd hk (Nat.not_lt_zero k)) | (intro _ _; rfl) | (intro k hk; exact absurd hk (Nat.not_lt_zero k)) | exact .inr (Nat.le_refl _))
    · cbv; try (subst hA; repeat' first | apply And.intro | exact True.intro | rfl | exact .inr trivial | exact .inl trivial)
  rintro ⟨⟨i, q1, G⟩, hi, hp0, hp1⟩
  have hi : i ≤ 4 := hi
  have hp0 : 0 ≤ q1 := hp0
  have hp1 : q1 ≤ 1000 + (i : Int) := hp1
  have hpb : q1 ≤ 1004 := by omega
  have hpn : q1 + 1 ≤ 1000 + ((i + 1 : Nat) : Int) := by omega
  have hlt4 : ∀ {A : Ar}, real = A → A.bite (A.cmp .lss (Int.ofNat i) j.srcs) (A.cmp .lss (Int.ofNat i) 4) false = true → i < 4 := fun hA h => by
    subst hA
    have h : (bif decide ((i : Int) < j.srcs) then decide ((i : Int) < 4) else false) = true := h
    cases h1 : decide ((i : Int) < j.srcs) with
    | false => rw [h1] at h; cases h
    | true => rw [h1] at h; have h := of_decide_eq_true h; omega
  cbv
  repeat' first
    | apply And.intro
    | exact True.intro
    | with_reducible rfl
    | exact same_of hA rfl
    | refine br_of hA (fun _ => ?_) (fun _ => ?_)
    | exact imp_of hA id
    | (refine imp_of hA ?_; subst hA; simp only [real, Bool.true_and]; exact id)
    | (refine ind_of hA ?_; decide +kernel)
    | (refine call_ex hA hM (x_pick m hm b hb _ (by omega) _ (by omega)) ?_; rintro ⟨x, q⟩ ⟨hx0, hx1, hq⟩; dsimp only at hx0 hx1 hq; cbv)
    | (refine nz_of hA ?_; decide)
    | (refine inb_of hA (fun _ => ?_); subst hA; (have h9 := tmod_in (a := x) (n := 4) hx0 (by decide)); exact h9)
    | exact room_add2 hA (by omega) (by decide)
    | (refine inb_of hA (fun _ => ?_); (first | omega | (constructor <;> omega)))
    | fail
  · have hl4 : i < 4 := hlt4 hA (by assumption)
    obtain ⟨vv, hvv⟩ : ∃ vv : Int, vv = real.sel [s.mark, real.ar .add .i64 s.mark 3, 1000, -1] (real.add 0 (real.nat (real.ar .rem .i64 x 4))) := ⟨_, rfl⟩
    refine ⟨⟨(i + 1, q, fun k => if k < i then G k else vv), hl4, by simp only; omega, (by rw [hq]; exact hpn)⟩, by simp only; omega, cov_of ?_ ?_ ?_⟩
    · subst hA; (repeat' first | exact True.intro | exact rfl | exact congrArg (fun x => DV.v (.int .i64 x)) (up64 hl4 (by decide)) | apply And.intro)
    · subst hA
      (repeat' first | exact True.intro | exact rfl | apply And.intro | (intro _ _; first | rfl | trivial))
      all_goals
        intro k hk
        subst hvv
        refine (push_at rfl i (fun k => [eI (G k)]) _ _ k hk).trans ?_
        by_cases e : k < i
        · rw [if_pos e]
          show _ = [eI (if k < i then G k else _)]
          rw [if_pos e]
        · rw [if_neg e]
          show _ = [eI (if k < i then G k else _)]
          (rw [if_neg e]; try rfl)
    · subst hA; (repeat' first | exact True.intro | exact rfl | apply And.intro | exact .inl rfl | exact .inr (le_of_nble rfl))
  · refine stop_of hA (st_dt m b j s i i q1 G) (cov_of ?_ ?_ ?_) ?_
    · subst hA <;> (repeat' first | exact True.intro | exact rfl | apply And.intro)
    · subst hA
      (repeat' first | exact True.intro | exact rfl | apply And.intro | (intro _ _; first | rfl | trivial))
    · subst hA; (repeat' first | exact True.intro | exact rfl | apply And.intro | exact .inl rfl | exact .inr (le_of_nble rfl))
    cbv
    repeat' first
      | apply And.intro
      | exact True.intro
      | with_reducible rfl
      | exact same_of hA rfl
      | refine br_of hA (fun _ => ?_) (fun _ => ?_)
      | exact imp_of hA id
      | (refine imp_of hA ?_; subst hA; simp only [real, Bool.true_and]; exact id)
      | (refine ind_of hA ?_; decide +kernel)
      | (refine call_ex hA hM (x_pick m hm b hb _ (by omega) _ (by omega)) ?_; rintro ⟨x, q⟩ ⟨hx0, hx1, hq⟩; dsimp only at hx0 hx1 hq; cbv)
      | exact room_add2 hA (by omega) (by decide)
      | exact room_n hA (by omega) (by decide)
      | fail
    · obtain ⟨G2, hG2⟩ : ∃ G2 : Nat → Int, G2 = fun k => if k < i then G k else 0 := ⟨_, rfl⟩
      refine stop_of hA ⟨[(8, .c (.own 1088 0 (i + 1) 1)), (7, .c (.bp 448 1 0)), (6, .c (.bp 384 1 0)), (3, .c (.bp 192 1 0)), (2, .c (.bp 128 1 0))], [(1088, 1, .arr 1 (i + 1) fun k => [eI (G2 k)]), (448, 1, .box [.d (eI s.mark), .d (.sl 13 s.rows.n fun i => eRow (s.rows.g i))]), (384, 1, .box ((eJob j).map .d)), (192, 1, .box [.d (eI 0), .d (.v nilS)]), (128, 1, .box [.d (eI 0), .d (eI 0), .d (eI 0), .d (eI 0), .d (eI 0), .d (eI 0), .d (eI 0), .d (eB false), .d (eI 0), .d (eI 0)])]⟩ (cov_of ?_ ?_ ?_) ?_
      · subst hA <;> (repeat' first | exact True.intro | exact rfl | apply And.intro)
      · subst hA
        (repeat' first | exact True.intro | exact rfl | apply And.intro | (intro _ _; first | rfl | trivial))
        all_goals
          intro k hk
          subst hG2
          refine (push_at rfl i (fun k => [eI (G k)]) _ _ k hk).trans ?_
          by_cases e : k < i
          · rw [if_pos e]
            show _ = [eI (if k < i then G k else _)]
            rw [if_pos e]
          · rw [if_neg e]
            show _ = [eI (if k < i then G k else _)]
            (rw [if_neg e]; try rfl)
      · subst hA; (repeat' first | exact True.intro | exact rfl | apply And.intro | exact .inl rfl | exact .inr (le_of_nble rfl))
      cbv
      repeat' first
        | apply And.intro
        | exact True.intro
        | with_reducible rfl
        | exact same_of hA rfl
        | refine br_of hA (fun _ => ?_) (fun _ => ?_)
        | exact imp_of hA id
        | (refine imp_of hA ?_; subst hA; simp only [real, Bool.true_and]; exact id)
        | (refine ind_of hA ?_; decide +kernel)
        | (refine fin_of hA ⟨⟨j, s, (i + 1), G2⟩, ?_, rfl, rfl⟩; exact ⟨hs, by simp only; omega⟩)
        | fail
    · refine stop_of hA ⟨[(8, .c (.own 1088 0 i 1)), (7, .c (.bp 448 1 0)), (6, .c (.bp 384 1 0)), (3, .c (.bp 192 1 0)), (2, .c (.bp 128 1 0))], [(1088, 1, .arr 1 i fun k => [eI (G k)]), (448, 1, .box [.d (eI s.mark), .d (.sl 13 s.rows.n fun i => eRow (s.rows.g i))]), (384, 1, .box ((eJob j).map .d)), (192, 1, .box [.d (eI 0), .d (.v nilS)]), (128, 1, .box [.d (eI 0), .d (eI 0), .d (eI 0), .d (eI 0), .d (eI 0), .d (eI 0), .d (eI 0), .d (eB false), .d (eI 0), .d (eI 0)])]⟩ (cov_of ?_ ?_ ?_) ?_
      · subst hA <;> (repeat' first | exact True.intro | exact rfl | apply And.intro)
      · subst hA
        (repeat' first | exact True.intro | exact rfl | apply And.intro | (intro _ _; first | rfl | trivial))
      · subst hA; (repeat' first | exact True.intro | exact rfl | apply And.intro | exact .inl rfl | exact .inr (le_of_nble rfl))
      cbv
      repeat' first
        | apply And.intro
        | exact True.intro
        | with_reducible rfl
        | exact same_of hA rfl
        | refine br_of hA (fun _ => ?_) (fun _ => ?_)
        | exact imp_of hA id
        | (refine imp_of hA ?_; subst hA; simp only [real, Bool.true_and]; exact id)
        | (refine ind_of hA ?_; decide +kernel)
        | (refine fin_of hA ⟨⟨j, s, i, G⟩, ?_, rfl, rfl⟩; exact ⟨hs, by simp only; omega⟩)
        | fail
end Go.Rk
/- Tables: pan. -/
namespace Go.Rk
set_option linter.unusedSimpArgs false
set_option linter.unusedVariables false
open Go.Proofs
set_option maxRecDepth 100000
set_option maxHeartbeats 1000000
open Classical in
set_option maxRecDepth 100000 in
theorem c_PanOk (p : PaneT) : ∃ b, (b = true ↔ PaneOkP p) ∧ Meets Try.prog 52 [xd (ePane p)] ⟨.one (.c (.d (eB b))), [none]⟩ := by
  obtain ⟨b, hb⟩ : ∃ b, b = decide (PaneOkP p) := ⟨_, rfl⟩
  refine ⟨b, by rw [hb, decide_eq_true_eq], ?_⟩
  refine meets_of (H := []) (EX := EXA) ttok mixed Try.func52 rfl (by kernel_rfl) (by decide) ?_
  generalize hA : real = A
  generalize hM : MeetsB Try.prog = M
  cbv
  repeat' first
    | apply And.intro
    | exact True.intro
    | with_reducible rfl
    | exact same_of hA rfl
    | refine br_of hA (fun _ => ?_) (fun _ => ?_)
    | exact imp_of hA id
    | (refine imp_of hA ?_; subst hA; simp only [real, Bool.true_and]; exact id)
    | (refine ind_of hA ?_; decide +kernel)
    | (refine call_ex hA hM (c_in _ _ _) (fun _ _ => ?_); cbv)
    | (refine call_ex hA hM (c_isKey _) (fun _ _ => ?_); cbv)
    | (refine call_ex hA hM (c_WinOk _ _) (fun _ _ => ?_); cbv)
    | (refine call_ex hA hM (c_AggOk _ _ _ _) (fun _ _ => ?_); cbv)
    | (refine call_ex hA hM (c_isRec _) (fun _ _ => ?_); cbv)
  all_goals obtain ⟨key, ⟨s, e⟩, no, kind, ⟨n, sum, least, most⟩⟩ := p
  all_goals subst hA
  all_goals refine congrArg (fun b => XA.one (.c (.d (eB b)))) (Bool.eq_iff_iff.2 ?_)
  all_goals subst_vars
  all_goals simp only [real, bifA, bifB, bifC, bifD, beqB, decide_eq_true_eq, decide_eq_false_iff_not, beqI, bneI, beqIF, bneIF, ne_eq, Bool.and_eq_true, Bool.or_eq_true, Bool.not_eq_true', Bool.not_eq_false', Bool.and_eq_false_iff, Bool.or_eq_false_iff, Bool.false_eq_true, and_false, false_and, or_false, false_or, and_true, true_and, not_true_eq_false, not_false_eq_true, true_iff, false_iff, IntKind.wrap_i64, PaneOkP, WinOkP, AggOkP] at *
  all_goals omega
open Classical in
set_option maxRecDepth 100000 in
theorem c_LatOk (l : LatT) : ∃ b, (b = true ↔ LatOkP l) ∧ Meets Try.prog 152 [xd (eLat l)] ⟨.one (.c (.d (eB b))), [none]⟩ := by
  obtain ⟨b, hb⟩ : ∃ b, b = decide (LatOkP l) := ⟨_, rfl⟩
  refine ⟨b, by rw [hb, decide_eq_true_eq], ?_⟩
  refine meets_of (H := []) (EX := EXA) ttok mixed Try.func152 rfl (by kernel_rfl) (by decide) ?_
  generalize hA : real = A
  generalize hM : MeetsB Try.prog = M
  cbv
  repeat' first
    | apply And.intro
    | exact True.intro
    | with_reducible rfl
    | exact same_of hA rfl
    | refine br_of hA (fun _ => ?_) (fun _ => ?_)
    | exact imp_of hA id
    | (refine imp_of hA ?_; subst hA; simp only [real, Bool.true_and]; exact id)
    | (refine ind_of hA ?_; decide +kernel)
    | (refine call_ex hA hM (c_isRec _ _ _ _ _) (fun _ _ => ?_); cbv)
    | (refine call_ex hA hM (c_WinOk _ _) (fun _ _ => ?_); cbv)
    | (refine call_ex hA hM (c_in _ _ _) (fun _ _ => ?_); cbv)
  all_goals obtain ⟨⟨kind, t, key, v, n⟩, ⟨s, e⟩⟩ := l
  all_goals subst hA
  all_goals refine congrArg (fun b => XA.one (.c (.d (eB b)))) (Bool.eq_iff_iff.2 ?_)
  all_goals subst_vars
  all_goals simp only [real, bifA, bifB, bifC, bifD, beqB, decide_eq_true_eq, decide_eq_false_iff_not, beqI, bneI, beqIF, bneIF, ne_eq, Bool.and_eq_true, Bool.or_eq_true, Bool.not_eq_true', Bool.not_eq_false', Bool.and_eq_false_iff, Bool.or_eq_false_iff, Bool.false_eq_true, and_false, false_and, or_false, false_or, and_true, true_and, not_true_eq_false, not_false_eq_true, true_iff, false_iff, IntKind.wrap_i64, LatOkP, ItmOkP, WinOkP, AggOkP] at *
  all_goals omega
end Go.Rk
/- Draws: comparisons. -/
namespace Go.Rk
set_option linter.unusedSimpArgs false
set_option linter.unusedVariables false
open Go.Proofs
set_option maxRecDepth 100000
set_option maxHeartbeats 1000000
def st_frPanes (n : Nat) (g : Nat → PaneT) (i : Nat) : St := ⟨[(5, .c (.d (eI i))), (0, .c (.d (.sl 9 n fun i => ePane (g i)))), (1, .c (.d (.sl 9 n fun i => ePane (g i))))], []⟩
theorem c_frPanes (n : Nat) (hn : n ≤ maxLen) (g : Nat → PaneT) : Meets Try.prog 25 [.c (.d (.sl 9 n fun i => ePane (g i))), .c (.d (.sl 9 n fun i => ePane (g i)))] ⟨.one (.c (.d (eB true))), [none, none]⟩ := by
  refine meets_of (H := []) (EX := EXA) ttok mixed Try.func25 rfl (by kernel_rfl) (by decide) ?_
  generalize hA : real = A
  generalize hM : MeetsB Try.prog = M
  cbv
  repeat' first
    | (refine br_f hA ?_ ?_; focus (subst hA; simp [real]; done))
    | apply And.intro
    | exact True.intro
    | with_reducible rfl
    | exact same_of hA rfl
    | refine br_of hA (fun _ => ?_) (fun _ => ?_)
    | exact imp_of hA id
    | (refine imp_of hA ?_; subst hA; simp only [real, Bool.true_and]; exact id)
    | (refine ind_of hA ?_; decide +kernel)
  refine loop_of hA (α := { i : Nat // i ≤ n }) (fun x => st_frPanes n g x.1) (fun x => n - x.1) ⟨0, Nat.zero_le _⟩ ?_ ?_
  · refine cov_of ?_ ?_ ?_
    · cbv; try (subst hA; repeat' first | apply And.intro | exact True.intro | rfl)
    · cbv; try (subst hA; repeat' first | apply And.intro | exact True.intro | rfl)
    · cbv
  rintro ⟨i, hi⟩
  cbv
  repeat' first
    | (refine br_f hA ?_ ?_; focus (subst hA; simp [real]; done))
    | apply And.intro
    | exact True.intro
    | with_reducible rfl
    | exact same_of hA rfl
    | refine br_of hA (fun _ => ?_) (fun _ => ?_)
    | exact imp_of hA id
    | (refine imp_of hA ?_; subst hA; simp only [real, Bool.true_and]; exact id)
    | (refine ind_of hA ?_; decide +kernel)
    | (refine inb_of hA fun _ => ?_; subst hA; simp only [real, Bool.and_eq_true, Bool.not_eq_true', Bool.not_eq_false', decide_eq_true_eq, Int.ofNat_eq_natCast, IntKind.wrap_i64] at *; omega)
  rename_i hlt
  have hlt' : i < n := by subst hA; simp only [real, decide_eq_true_eq, Int.ofNat_eq_natCast] at hlt; omega
  refine ⟨⟨i + 1, by omega⟩, by simp only; omega, cov_of ?_ ?_ ?_⟩
  · cbv
    subst hA
    repeat' first | apply And.intro | exact True.intro | exact congrArg (fun x => DV.v (.int .i64 x)) (up64 hlt' hn) | rfl | (intro k hk; exact push_at rfl _ _ _ _ k hk)
  · cbv; try (subst hA; repeat' first | apply And.intro | exact True.intro | rfl)
  · cbv
def st_frLates (n : Nat) (g : Nat → LatT) (i : Nat) : St := ⟨[(5, .c (.d (eI i))), (0, .c (.d (.sl 7 n fun i => eLat (g i)))), (1, .c (.d (.sl 7 n fun i => eLat (g i))))], []⟩
theorem c_frLates (n : Nat) (hn : n ≤ maxLen) (g : Nat → LatT) : Meets Try.prog 17 [.c (.d (.sl 7 n fun i => eLat (g i))), .c (.d (.sl 7 n fun i => eLat (g i)))] ⟨.one (.c (.d (eB true))), [none, none]⟩ := by
  refine meets_of (H := []) (EX := EXA) ttok mixed Try.func17 rfl (by kernel_rfl) (by decide) ?_
  generalize hA : real = A
  generalize hM : MeetsB Try.prog = M
  cbv
  repeat' first
    | (refine br_f hA ?_ ?_; focus (subst hA; simp [real]; done))
    | apply And.intro
    | exact True.intro
    | with_reducible rfl
    | exact same_of hA rfl
    | refine br_of hA (fun _ => ?_) (fun _ => ?_)
    | exact imp_of hA id
    | (refine imp_of hA ?_; subst hA; simp only [real, Bool.true_and]; exact id)
    | (refine ind_of hA ?_; decide +kernel)
  refine loop_of hA (α := { i : Nat // i ≤ n }) (fun x => st_frLates n g x.1) (fun x => n - x.1) ⟨0, Nat.zero_le _⟩ ?_ ?_
  · refine cov_of ?_ ?_ ?_
    · cbv; try (subst hA; repeat' first | apply And.intro | exact True.intro | rfl)
    · cbv; try (subst hA; repeat' first | apply And.intro | exact True.intro | rfl)
    · cbv
  rintro ⟨i, hi⟩
  cbv
  repeat' first
    | (refine br_f hA ?_ ?_; focus (subst hA; simp [real]; done))
    | apply And.intro
    | exact True.intro
    | with_reducible rfl
    | exact same_of hA rfl
    | refine br_of hA (fun _ => ?_) (fun _ => ?_)
    | exact imp_of hA id
    | (refine imp_of hA ?_; subst hA; simp only [real, Bool.true_and]; exact id)
    | (refine ind_of hA ?_; decide +kernel)
    | (refine inb_of hA fun _ => ?_; subst hA; simp only [real, Bool.and_eq_true, Bool.not_eq_true', Bool.not_eq_false', decide_eq_true_eq, Int.ofNat_eq_natCast, IntKind.wrap_i64] at *; omega)
  rename_i hlt
  have hlt' : i < n := by subst hA; simp only [real, decide_eq_true_eq, Int.ofNat_eq_natCast] at hlt; omega
  refine ⟨⟨i + 1, by omega⟩, by simp only; omega, cov_of ?_ ?_ ?_⟩
  · cbv
    subst hA
    repeat' first | apply And.intro | exact True.intro | exact congrArg (fun x => DV.v (.int .i64 x)) (up64 hlt' hn) | rfl | (intro k hk; exact push_at rfl _ _ _ _ k hk)
  · cbv; try (subst hA; repeat' first | apply And.intro | exact True.intro | rfl)
  · cbv
def st_frOp (mk : Int) (n : Nat) (g : Nat → RowT) (i : Nat) : St := ⟨[(5, .c (.d (eI i))), (3, .c (.bp 192 1 0)), (2, .c (.bp 128 1 0))], [(192, 1, .box [.d (eI mk), .d (.sl 13 n fun i => eRow (g i))]), (128, 1, .box [.d (eI mk), .d (.sl 13 n fun i => eRow (g i))])]⟩
theorem c_frOp (mk : Int) (n : Nat) (hn : n ≤ maxLen) (g : Nat → RowT) : Meets Try.prog 24 [.agg [.d (eI mk), .d (.sl 13 n fun i => eRow (g i))], .agg [.d (eI mk), .d (.sl 13 n fun i => eRow (g i))]] ⟨.one (.c (.d (eB true))), [none, none]⟩ := by
  refine meets_of (H := []) (EX := EXA) ttok mixed Try.func24 rfl (by kernel_rfl) (by decide) ?_
  generalize hA : real = A
  generalize hM : MeetsB Try.prog = M
  cbv
  repeat' first
    | (refine br_f hA ?_ ?_; focus (subst hA; simp [real]; done))
    | apply And.intro
    | exact True.intro
    | with_reducible rfl
    | exact same_of hA rfl
    | refine br_of hA (fun _ => ?_) (fun _ => ?_)
    | exact imp_of hA id
    | (refine imp_of hA ?_; subst hA; simp only [real, Bool.true_and]; exact id)
    | (refine ind_of hA ?_; decide +kernel)
  refine loop_of hA (α := { i : Nat // i ≤ n }) (fun x => st_frOp mk n g x.1) (fun x => n - x.1) ⟨0, Nat.zero_le _⟩ ?_ ?_
  · refine cov_of ?_ ?_ ?_
    · cbv; try (subst hA; repeat' first | apply And.intro | exact True.intro | rfl)
    · cbv; try (subst hA; repeat' first | apply And.intro | exact True.intro | rfl)
    · cbv
  rintro ⟨i, hi⟩
  cbv
  repeat' first
    | (refine br_f hA ?_ ?_; focus (subst hA; simp [real]; done))
    | apply And.intro
    | exact True.intro
    | with_reducible rfl
    | exact same_of hA rfl
    | refine br_of hA (fun _ => ?_) (fun _ => ?_)
    | exact imp_of hA id
    | (refine imp_of hA ?_; subst hA; simp only [real, Bool.true_and]; exact id)
    | (refine ind_of hA ?_; decide +kernel)
    | (refine inb_of hA fun _ => ?_; subst hA; simp only [real, Bool.and_eq_true, Bool.not_eq_true', Bool.not_eq_false', decide_eq_true_eq, Int.ofNat_eq_natCast, IntKind.wrap_i64] at *; omega)
  rename_i hlt
  have hlt' : i < n := by subst hA; simp only [real, decide_eq_true_eq, Int.ofNat_eq_natCast] at hlt; omega
  refine ⟨⟨i + 1, by omega⟩, by simp only; omega, cov_of ?_ ?_ ?_⟩
  · cbv
    subst hA
    repeat' first | apply And.intro | exact True.intro | exact congrArg (fun x => DV.v (.int .i64 x)) (up64 hlt' hn) | rfl | (intro k hk; exact push_at rfl _ _ _ _ k hk)
  · cbv; try (subst hA; repeat' first | apply And.intro | exact True.intro | rfl)
  · cbv; try (subst hA; repeat' first | apply And.intro | exact True.intro | rfl | exact .inr trivial | exact .inl trivial)
theorem c_frOk : Meets Try.prog 20 [] ⟨.one (.c (.d (eB true))), []⟩ := by
  have h : Meets Try.prog 61 [.agg [.d (eI 0), .d (eI 1)]] ⟨.one (.c (.d (eB true))), [none]⟩ := by
    obtain ⟨b, hb, h⟩ := c_WinOk 0 1
    have e : b = true := by rw [hb]; decide
    rw [e] at h; exact h
  refine meets_of (H := []) (EX := EXA) ttok mixed Try.func20 rfl (by kernel_rfl) (by decide) ?_
  generalize hA : real = A
  generalize hM : MeetsB Try.prog = M
  cbv
  repeat' first
    | apply And.intro
    | exact True.intro
    | with_reducible rfl
    | exact same_of hA rfl
    | refine br_of hA (fun _ => ?_) (fun _ => ?_)
    | exact imp_of hA id
    | (refine imp_of hA ?_; subst hA; simp only [real, Bool.true_and]; exact id)
    | (refine ind_of hA ?_; decide +kernel)
    | (refine call_of hA hM _ h ?_; cbv)
end Go.Rk
/- Tasks: tsk. -/
namespace Go.Rk
set_option linter.unusedSimpArgs false
set_option linter.unusedVariables false
open Go.Proofs
set_option maxRecDepth 100000
set_option maxHeartbeats 1000000
def stIxItm0 (n : Nat) (g : Nat → ItmT) (F : FuncId) (i : Nat) : St := ⟨[(8, .c (.d (eI i))), (7, .c (.d (eI n))), (0, .c (.d (.sl 5 n fun i => eItm (g i)))), (1, .c (.d (.fn F [])))], []⟩
set_option maxRecDepth 100000 in
theorem c_IndexItm0 (n : Nat) (hn : n ≤ maxLen) (g : Nat → ItmT) (F : FuncId) (Q : ItmT → Prop) (hc : ∀ r, ∃ b, (b = true ↔ Q r) ∧ Meets Try.prog F [xd (eItm r)] ⟨.one (.c (.d (eB b))), [none]⟩) : ∃ x, FirstIx n (fun i => Q (g i)) x ∧ Meets Try.prog 128 [.c (.d (.sl 5 n fun i => eItm (g i))), .c (.d (.fn F []))] ⟨.one (.c (.d (eI x))), [none, none]⟩ := by
  obtain ⟨x, hx⟩ := firstIx_ex n fun i => Q (g i)
  refine ⟨x, hx, ?_⟩
  refine meets_of (H := []) (EX := EXA) ttok mixed Try.func128 rfl (by kernel_rfl) (by decide) ?_
  generalize hA : real = A
  generalize hM : MeetsB Try.prog = M
  cbv
  repeat' first
    | apply And.intro
    | exact True.intro
    | with_reducible rfl
    | exact same_of hA rfl
    | refine br_of hA (fun _ => ?_) (fun _ => ?_)
    | exact imp_of hA id
    | (refine imp_of hA ?_; subst hA; simp only [real, Bool.true_and]; exact id)
    | (refine ind_of hA ?_; decide +kernel)
  refine loop_of hA (α := { i : Nat // i ≤ n ∧ ∀ j, j < i → ¬ Q (g j) }) (fun x => stIxItm0 n g F x.1) (fun x => n - x.1) ⟨0, Nat.zero_le _, fun j h => absurd h (Nat.not_lt_zero _)⟩ ?_ ?_
  · refine cov_of ?_ ?_ ?_
    · cbv; subst hA; exact ⟨rfl, rfl, trivial⟩
    · cbv
    · cbv
  rintro ⟨i, hi, hb⟩
  cbv
  repeat' first
    | apply And.intro
    | exact True.intro
    | with_reducible rfl
    | exact same_of hA rfl
    | refine br_of hA (fun _ => ?_) (fun _ => ?_)
    | exact imp_of hA id
    | (refine imp_of hA ?_; subst hA; simp only [real, Bool.true_and]; exact id)
    | (refine ind_of hA ?_; decide +kernel)
    | (refine inb_of hA fun _ => ?_; subst hA; simp only [real, decide_eq_true_eq, Int.ofNat_eq_natCast] at *; omega)
  · refine call_ex hA hM (hc (g (A.nat (Int.ofNat i)))) (fun b hbb => ?_)
    cbv
    repeat' first
      | apply And.intro
      | exact True.intro
      | with_reducible rfl
      | exact same_of hA rfl
      | refine br_of hA (fun _ => ?_) (fun _ => ?_)
      | exact imp_of hA id
      | (refine imp_of hA ?_; subst hA; simp only [real, Bool.true_and]; exact id)
      | (refine ind_of hA ?_; decide +kernel)
    · rename_i hlt ht
      subst hA
      simp only [real, decide_eq_true_eq, Int.ofNat_eq_natCast, Int.toNat_natCast] at *
      obtain rfl := firstIx_one hx (.at i (by omega) (hbb.1 ht) hb)
      rfl
    · rename_i hlt ht
      have hlt' : i < n := by subst hA; simp only [real, decide_eq_true_eq, Int.ofNat_eq_natCast] at hlt; omega
      refine ⟨⟨i + 1, by omega, fun j hj => ?_⟩, by simp only; omega, cov_of ?_ ?_ ?_⟩
      · by_cases e : j = i
        · subst e
          subst hA
          intro hq
          have := hbb.2 hq
          rw [ht] at this
          cases this
        · exact hb j (by omega)
      · cbv
        subst hA
        exact ⟨congrArg (fun x => DV.v (.int .i64 x)) (up64 hlt' hn), trivial⟩
      · cbv
      · cbv
  · subst hA
    simp only [real, decide_eq_false_iff_not, Int.ofNat_eq_natCast] at *
    obtain rfl := firstIx_one hx (.none fun j hj => hb j (by omega))
    rfl
set_option maxRecDepth 100000 in
theorem c_ContainsItm0 (n : Nat) (hn : n ≤ maxLen) (g : Nat → ItmT) (F : FuncId) (Q : ItmT → Prop) (hc : ∀ r, ∃ b, (b = true ↔ Q r) ∧ Meets Try.prog F [xd (eItm r)] ⟨.one (.c (.d (eB b))), [none]⟩) : ∃ b, (b = true ↔ ∃ i, i < n ∧ Q (g i)) ∧ Meets Try.prog 85 [.c (.d (.sl 5 n fun i => eItm (g i))), .c (.d (.fn F []))] ⟨.one (.c (.d (eB b))), [none, none]⟩ := by
  obtain ⟨x, hx, hm⟩ := c_IndexItm0 n hn g F Q hc
  obtain ⟨b, hb⟩ : ∃ b, b = decide (0 ≤ x) := ⟨_, rfl⟩
  have hxx := firstIx_neg hx
  refine ⟨b, by rw [hb, decide_eq_true_eq]; exact hxx.1, ?_⟩
  refine meets_of (H := []) (EX := EXA) ttok mixed Try.func85 rfl (by kernel_rfl) (by decide) ?_
  generalize hA : real = A
  generalize hM : MeetsB Try.prog = M
  cbv
  repeat' first
    | apply And.intro
    | exact True.intro
    | with_reducible rfl
    | exact same_of hA rfl
    | refine br_of hA (fun _ => ?_) (fun _ => ?_)
    | exact imp_of hA id
    | (refine imp_of hA ?_; subst hA; simp only [real, Bool.true_and]; exact id)
    | (refine ind_of hA ?_; decide +kernel)
    | (refine call_of hA hM _ hm ?_; cbv)
  all_goals subst hA
  all_goals refine congrArg (fun b => XA.one (.c (.d (eB b)))) (Bool.eq_iff_iff.2 ?_)
  all_goals subst_vars
  all_goals try simp only [real, bifA, bifB, bifC, bifD, decide_eq_true_eq, decide_eq_false_iff_not, beq_iff_eq, bne_iff_ne, beq_eq_false_iff_ne, bne_eq_false_iff_eq, ne_eq, Bool.and_eq_true, Bool.or_eq_true, Bool.not_eq_true', Bool.not_eq_false', Bool.and_eq_false_iff, Bool.or_eq_false_iff, Bool.false_eq_true, and_false, false_and, or_false, false_or, and_true, true_and, not_true_eq_false, not_false_eq_true, true_iff, false_iff, IntKind.wrap_i64] at *
  all_goals first
    | omega
    | skip
def stIxTskIn1 (n : Nat) (g : Nat → TskInT) (F : FuncId) (c0 : DV) (i : Nat) : St := ⟨[(8, .c (.d (eI i))), (7, .c (.d (eI n))), (0, .c (.d (.sl 3 n fun i => eTskIn (g i)))), (1, .c (.d (.fn F [c0])))], []⟩
set_option maxRecDepth 100000 in
theorem c_IndexTskIn1 (n : Nat) (hn : n ≤ maxLen) (g : Nat → TskInT) (F : FuncId) (c0 : DV) (Q : TskInT → Prop) (hc : ∀ r, ∃ b, (b = true ↔ Q r) ∧ Meets Try.prog F [xd (eTskIn r), .c (.d c0)] ⟨.one (.c (.d (eB b))), [none, none]⟩) : ∃ x, FirstIx n (fun i => Q (g i)) x ∧ Meets Try.prog 132 [.c (.d (.sl 3 n fun i => eTskIn (g i))), .c (.d (.fn F [c0]))] ⟨.one (.c (.d (eI x))), [none, none]⟩ := by
  obtain ⟨x, hx⟩ := firstIx_ex n fun i => Q (g i)
  refine ⟨x, hx, ?_⟩
  refine meets_of (H := []) (EX := EXA) ttok mixed Try.func132 rfl (by kernel_rfl) (by decide) ?_
  generalize hA : real = A
  generalize hM : MeetsB Try.prog = M
  cbv
  repeat' first
    | apply And.intro
    | exact True.intro
    | with_reducible rfl
    | exact same_of hA rfl
    | refine br_of hA (fun _ => ?_) (fun _ => ?_)
    | exact imp_of hA id
    | (refine imp_of hA ?_; subst hA; simp only [real, Bool.true_and]; exact id)
    | (refine ind_of hA ?_; decide +kernel)
  refine loop_of hA (α := { i : Nat // i ≤ n ∧ ∀ j, j < i → ¬ Q (g j) }) (fun x => stIxTskIn1 n g F c0 x.1) (fun x => n - x.1) ⟨0, Nat.zero_le _, fun j h => absurd h (Nat.not_lt_zero _)⟩ ?_ ?_
  · refine cov_of ?_ ?_ ?_
    · cbv; subst hA; exact ⟨rfl, rfl, trivial⟩
    · cbv
    · cbv
  rintro ⟨i, hi, hb⟩
  cbv
  repeat' first
    | apply And.intro
    | exact True.intro
    | with_reducible rfl
    | exact same_of hA rfl
    | refine br_of hA (fun _ => ?_) (fun _ => ?_)
    | exact imp_of hA id
    | (refine imp_of hA ?_; subst hA; simp only [real, Bool.true_and]; exact id)
    | (refine ind_of hA ?_; decide +kernel)
    | (refine inb_of hA fun _ => ?_; subst hA; simp only [real, decide_eq_true_eq, Int.ofNat_eq_natCast] at *; omega)
  · refine call_ex hA hM (hc (g (A.nat (Int.ofNat i)))) (fun b hbb => ?_)
    cbv
    repeat' first
      | apply And.intro
      | exact True.intro
      | with_reducible rfl
      | exact same_of hA rfl
      | refine br_of hA (fun _ => ?_) (fun _ => ?_)
      | exact imp_of hA id
      | (refine imp_of hA ?_; subst hA; simp only [real, Bool.true_and]; exact id)
      | (refine ind_of hA ?_; decide +kernel)
    · rename_i hlt ht
      subst hA
      simp only [real, decide_eq_true_eq, Int.ofNat_eq_natCast, Int.toNat_natCast] at *
      obtain rfl := firstIx_one hx (.at i (by omega) (hbb.1 ht) hb)
      rfl
    · rename_i hlt ht
      have hlt' : i < n := by subst hA; simp only [real, decide_eq_true_eq, Int.ofNat_eq_natCast] at hlt; omega
      refine ⟨⟨i + 1, by omega, fun j hj => ?_⟩, by simp only; omega, cov_of ?_ ?_ ?_⟩
      · by_cases e : j = i
        · subst e
          subst hA
          intro hq
          have := hbb.2 hq
          rw [ht] at this
          cases this
        · exact hb j (by omega)
      · cbv
        subst hA
        exact ⟨congrArg (fun x => DV.v (.int .i64 x)) (up64 hlt' hn), trivial⟩
      · cbv
      · cbv
  · subst hA
    simp only [real, decide_eq_false_iff_not, Int.ofNat_eq_natCast] at *
    obtain rfl := firstIx_one hx (.none fun j hj => hb j (by omega))
    rfl
set_option maxRecDepth 100000 in
theorem c_ContainsTskIn1 (n : Nat) (hn : n ≤ maxLen) (g : Nat → TskInT) (F : FuncId) (c0 : DV) (Q : TskInT → Prop) (hc : ∀ r, ∃ b, (b = true ↔ Q r) ∧ Meets Try.prog F [xd (eTskIn r), .c (.d c0)] ⟨.one (.c (.d (eB b))), [none, none]⟩) : ∃ b, (b = true ↔ ∃ i, i < n ∧ Q (g i)) ∧ Meets Try.prog 91 [.c (.d (.sl 3 n fun i => eTskIn (g i))), .c (.d (.fn F [c0]))] ⟨.one (.c (.d (eB b))), [none, none]⟩ := by
  obtain ⟨x, hx, hm⟩ := c_IndexTskIn1 n hn g F c0 Q hc
  obtain ⟨b, hb⟩ : ∃ b, b = decide (0 ≤ x) := ⟨_, rfl⟩
  have hxx := firstIx_neg hx
  refine ⟨b, by rw [hb, decide_eq_true_eq]; exact hxx.1, ?_⟩
  refine meets_of (H := []) (EX := EXA) ttok mixed Try.func91 rfl (by kernel_rfl) (by decide) ?_
  generalize hA : real = A
  generalize hM : MeetsB Try.prog = M
  cbv
  repeat' first
    | apply And.intro
    | exact True.intro
    | with_reducible rfl
    | exact same_of hA rfl
    | refine br_of hA (fun _ => ?_) (fun _ => ?_)
    | exact imp_of hA id
    | (refine imp_of hA ?_; subst hA; simp only [real, Bool.true_and]; exact id)
    | (refine ind_of hA ?_; decide +kernel)
    | (refine call_of hA hM _ hm ?_; cbv)
  all_goals subst hA
  all_goals refine congrArg (fun b => XA.one (.c (.d (eB b)))) (Bool.eq_iff_iff.2 ?_)
  all_goals subst_vars
  all_goals try simp only [real, bifA, bifB, bifC, bifD, decide_eq_true_eq, decide_eq_false_iff_not, beq_iff_eq, bne_iff_ne, beq_eq_false_iff_ne, bne_eq_false_iff_eq, ne_eq, Bool.and_eq_true, Bool.or_eq_true, Bool.not_eq_true', Bool.not_eq_false', Bool.and_eq_false_iff, Bool.or_eq_false_iff, Bool.false_eq_true, and_false, false_and, or_false, false_or, and_true, true_and, not_true_eq_false, not_false_eq_true, true_iff, false_iff, IntKind.wrap_i64] at *
  all_goals first
    | omega
    | skip
def stIxPane0 (n : Nat) (g : Nat → PaneT) (F : FuncId) (i : Nat) : St := ⟨[(8, .c (.d (eI i))), (7, .c (.d (eI n))), (0, .c (.d (.sl 9 n fun i => ePane (g i)))), (1, .c (.d (.fn F [])))], []⟩
set_option maxRecDepth 100000 in
theorem c_IndexPane0 (n : Nat) (hn : n ≤ maxLen) (g : Nat → PaneT) (F : FuncId) (Q : PaneT → Prop) (hc : ∀ r, ∃ b, (b = true ↔ Q r) ∧ Meets Try.prog F [xd (ePane r)] ⟨.one (.c (.d (eB b))), [none]⟩) : ∃ x, FirstIx n (fun i => Q (g i)) x ∧ Meets Try.prog 126 [.c (.d (.sl 9 n fun i => ePane (g i))), .c (.d (.fn F []))] ⟨.one (.c (.d (eI x))), [none, none]⟩ := by
  obtain ⟨x, hx⟩ := firstIx_ex n fun i => Q (g i)
  refine ⟨x, hx, ?_⟩
  refine meets_of (H := []) (EX := EXA) ttok mixed Try.func126 rfl (by kernel_rfl) (by decide) ?_
  generalize hA : real = A
  generalize hM : MeetsB Try.prog = M
  cbv
  repeat' first
    | apply And.intro
    | exact True.intro
    | with_reducible rfl
    | exact same_of hA rfl
    | refine br_of hA (fun _ => ?_) (fun _ => ?_)
    | exact imp_of hA id
    | (refine imp_of hA ?_; subst hA; simp only [real, Bool.true_and]; exact id)
    | (refine ind_of hA ?_; decide +kernel)
  refine loop_of hA (α := { i : Nat // i ≤ n ∧ ∀ j, j < i → ¬ Q (g j) }) (fun x => stIxPane0 n g F x.1) (fun x => n - x.1) ⟨0, Nat.zero_le _, fun j h => absurd h (Nat.not_lt_zero _)⟩ ?_ ?_
  · refine cov_of ?_ ?_ ?_
    · cbv; subst hA; exact ⟨rfl, rfl, trivial⟩
    · cbv
    · cbv
  rintro ⟨i, hi, hb⟩
  cbv
  repeat' first
    | apply And.intro
    | exact True.intro
    | with_reducible rfl
    | exact same_of hA rfl
    | refine br_of hA (fun _ => ?_) (fun _ => ?_)
    | exact imp_of hA id
    | (refine imp_of hA ?_; subst hA; simp only [real, Bool.true_and]; exact id)
    | (refine ind_of hA ?_; decide +kernel)
    | (refine inb_of hA fun _ => ?_; subst hA; simp only [real, decide_eq_true_eq, Int.ofNat_eq_natCast] at *; omega)
  · refine call_ex hA hM (hc (g (A.nat (Int.ofNat i)))) (fun b hbb => ?_)
    cbv
    repeat' first
      | apply And.intro
      | exact True.intro
      | with_reducible rfl
      | exact same_of hA rfl
      | refine br_of hA (fun _ => ?_) (fun _ => ?_)
      | exact imp_of hA id
      | (refine imp_of hA ?_; subst hA; simp only [real, Bool.true_and]; exact id)
      | (refine ind_of hA ?_; decide +kernel)
    · rename_i hlt ht
      subst hA
      simp only [real, decide_eq_true_eq, Int.ofNat_eq_natCast, Int.toNat_natCast] at *
      obtain rfl := firstIx_one hx (.at i (by omega) (hbb.1 ht) hb)
      rfl
    · rename_i hlt ht
      have hlt' : i < n := by subst hA; simp only [real, decide_eq_true_eq, Int.ofNat_eq_natCast] at hlt; omega
      refine ⟨⟨i + 1, by omega, fun j hj => ?_⟩, by simp only; omega, cov_of ?_ ?_ ?_⟩
      · by_cases e : j = i
        · subst e
          subst hA
          intro hq
          have := hbb.2 hq
          rw [ht] at this
          cases this
        · exact hb j (by omega)
      · cbv
        subst hA
        exact ⟨congrArg (fun x => DV.v (.int .i64 x)) (up64 hlt' hn), trivial⟩
      · cbv
      · cbv
  · subst hA
    simp only [real, decide_eq_false_iff_not, Int.ofNat_eq_natCast] at *
    obtain rfl := firstIx_one hx (.none fun j hj => hb j (by omega))
    rfl
set_option maxRecDepth 100000 in
theorem c_ContainsPane0 (n : Nat) (hn : n ≤ maxLen) (g : Nat → PaneT) (F : FuncId) (Q : PaneT → Prop) (hc : ∀ r, ∃ b, (b = true ↔ Q r) ∧ Meets Try.prog F [xd (ePane r)] ⟨.one (.c (.d (eB b))), [none]⟩) : ∃ b, (b = true ↔ ∃ i, i < n ∧ Q (g i)) ∧ Meets Try.prog 82 [.c (.d (.sl 9 n fun i => ePane (g i))), .c (.d (.fn F []))] ⟨.one (.c (.d (eB b))), [none, none]⟩ := by
  obtain ⟨x, hx, hm⟩ := c_IndexPane0 n hn g F Q hc
  obtain ⟨b, hb⟩ : ∃ b, b = decide (0 ≤ x) := ⟨_, rfl⟩
  have hxx := firstIx_neg hx
  refine ⟨b, by rw [hb, decide_eq_true_eq]; exact hxx.1, ?_⟩
  refine meets_of (H := []) (EX := EXA) ttok mixed Try.func82 rfl (by kernel_rfl) (by decide) ?_
  generalize hA : real = A
  generalize hM : MeetsB Try.prog = M
  cbv
  repeat' first
    | apply And.intro
    | exact True.intro
    | with_reducible rfl
    | exact same_of hA rfl
    | refine br_of hA (fun _ => ?_) (fun _ => ?_)
    | exact imp_of hA id
    | (refine imp_of hA ?_; subst hA; simp only [real, Bool.true_and]; exact id)
    | (refine ind_of hA ?_; decide +kernel)
    | (refine call_of hA hM _ hm ?_; cbv)
  all_goals subst hA
  all_goals refine congrArg (fun b => XA.one (.c (.d (eB b)))) (Bool.eq_iff_iff.2 ?_)
  all_goals subst_vars
  all_goals try simp only [real, bifA, bifB, bifC, bifD, decide_eq_true_eq, decide_eq_false_iff_not, beq_iff_eq, bne_iff_ne, beq_eq_false_iff_ne, bne_eq_false_iff_eq, ne_eq, Bool.and_eq_true, Bool.or_eq_true, Bool.not_eq_true', Bool.not_eq_false', Bool.and_eq_false_iff, Bool.or_eq_false_iff, Bool.false_eq_true, and_false, false_and, or_false, false_or, and_true, true_and, not_true_eq_false, not_false_eq_true, true_iff, false_iff, IntKind.wrap_i64] at *
  all_goals first
    | omega
    | skip
def stIxLat0 (n : Nat) (g : Nat → LatT) (F : FuncId) (i : Nat) : St := ⟨[(8, .c (.d (eI i))), (7, .c (.d (eI n))), (0, .c (.d (.sl 7 n fun i => eLat (g i)))), (1, .c (.d (.fn F [])))], []⟩
set_option maxRecDepth 100000 in
theorem c_IndexLat0 (n : Nat) (hn : n ≤ maxLen) (g : Nat → LatT) (F : FuncId) (Q : LatT → Prop) (hc : ∀ r, ∃ b, (b = true ↔ Q r) ∧ Meets Try.prog F [xd (eLat r)] ⟨.one (.c (.d (eB b))), [none]⟩) : ∃ x, FirstIx n (fun i => Q (g i)) x ∧ Meets Try.prog 162 [.c (.d (.sl 7 n fun i => eLat (g i))), .c (.d (.fn F []))] ⟨.one (.c (.d (eI x))), [none, none]⟩ := by
  obtain ⟨x, hx⟩ := firstIx_ex n fun i => Q (g i)
  refine ⟨x, hx, ?_⟩
  refine meets_of (H := []) (EX := EXA) ttok mixed Try.func162 rfl (by kernel_rfl) (by decide) ?_
  generalize hA : real = A
  generalize hM : MeetsB Try.prog = M
  cbv
  repeat' first
    | apply And.intro
    | exact True.intro
    | with_reducible rfl
    | exact same_of hA rfl
    | refine br_of hA (fun _ => ?_) (fun _ => ?_)
    | exact imp_of hA id
    | (refine imp_of hA ?_; subst hA; simp only [real, Bool.true_and]; exact id)
    | (refine ind_of hA ?_; decide +kernel)
  refine loop_of hA (α := { i : Nat // i ≤ n ∧ ∀ j, j < i → ¬ Q (g j) }) (fun x => stIxLat0 n g F x.1) (fun x => n - x.1) ⟨0, Nat.zero_le _, fun j h => absurd h (Nat.not_lt_zero _)⟩ ?_ ?_
  · refine cov_of ?_ ?_ ?_
    · cbv; subst hA; exact ⟨rfl, rfl, trivial⟩
    · cbv
    · cbv
  rintro ⟨i, hi, hb⟩
  cbv
  repeat' first
    | apply And.intro
    | exact True.intro
    | with_reducible rfl
    | exact same_of hA rfl
    | refine br_of hA (fun _ => ?_) (fun _ => ?_)
    | exact imp_of hA id
    | (refine imp_of hA ?_; subst hA; simp only [real, Bool.true_and]; exact id)
    | (refine ind_of hA ?_; decide +kernel)
    | (refine inb_of hA fun _ => ?_; subst hA; simp only [real, decide_eq_true_eq, Int.ofNat_eq_natCast] at *; omega)
  · refine call_ex hA hM (hc (g (A.nat (Int.ofNat i)))) (fun b hbb => ?_)
    cbv
    repeat' first
      | apply And.intro
      | exact True.intro
      | with_reducible rfl
      | exact same_of hA rfl
      | refine br_of hA (fun _ => ?_) (fun _ => ?_)
      | exact imp_of hA id
      | (refine imp_of hA ?_; subst hA; simp only [real, Bool.true_and]; exact id)
      | (refine ind_of hA ?_; decide +kernel)
    · rename_i hlt ht
      subst hA
      simp only [real, decide_eq_true_eq, Int.ofNat_eq_natCast, Int.toNat_natCast] at *
      obtain rfl := firstIx_one hx (.at i (by omega) (hbb.1 ht) hb)
      rfl
    · rename_i hlt ht
      have hlt' : i < n := by subst hA; simp only [real, decide_eq_true_eq, Int.ofNat_eq_natCast] at hlt; omega
      refine ⟨⟨i + 1, by omega, fun j hj => ?_⟩, by simp only; omega, cov_of ?_ ?_ ?_⟩
      · by_cases e : j = i
        · subst e
          subst hA
          intro hq
          have := hbb.2 hq
          rw [ht] at this
          cases this
        · exact hb j (by omega)
      · cbv
        subst hA
        exact ⟨congrArg (fun x => DV.v (.int .i64 x)) (up64 hlt' hn), trivial⟩
      · cbv
      · cbv
  · subst hA
    simp only [real, decide_eq_false_iff_not, Int.ofNat_eq_natCast] at *
    obtain rfl := firstIx_one hx (.none fun j hj => hb j (by omega))
    rfl
set_option maxRecDepth 100000 in
theorem c_ContainsLat0 (n : Nat) (hn : n ≤ maxLen) (g : Nat → LatT) (F : FuncId) (Q : LatT → Prop) (hc : ∀ r, ∃ b, (b = true ↔ Q r) ∧ Meets Try.prog F [xd (eLat r)] ⟨.one (.c (.d (eB b))), [none]⟩) : ∃ b, (b = true ↔ ∃ i, i < n ∧ Q (g i)) ∧ Meets Try.prog 153 [.c (.d (.sl 7 n fun i => eLat (g i))), .c (.d (.fn F []))] ⟨.one (.c (.d (eB b))), [none, none]⟩ := by
  obtain ⟨x, hx, hm⟩ := c_IndexLat0 n hn g F Q hc
  obtain ⟨b, hb⟩ : ∃ b, b = decide (0 ≤ x) := ⟨_, rfl⟩
  have hxx := firstIx_neg hx
  refine ⟨b, by rw [hb, decide_eq_true_eq]; exact hxx.1, ?_⟩
  refine meets_of (H := []) (EX := EXA) ttok mixed Try.func153 rfl (by kernel_rfl) (by decide) ?_
  generalize hA : real = A
  generalize hM : MeetsB Try.prog = M
  cbv
  repeat' first
    | apply And.intro
    | exact True.intro
    | with_reducible rfl
    | exact same_of hA rfl
    | refine br_of hA (fun _ => ?_) (fun _ => ?_)
    | exact imp_of hA id
    | (refine imp_of hA ?_; subst hA; simp only [real, Bool.true_and]; exact id)
    | (refine ind_of hA ?_; decide +kernel)
    | (refine call_of hA hM _ hm ?_; cbv)
  all_goals subst hA
  all_goals refine congrArg (fun b => XA.one (.c (.d (eB b)))) (Bool.eq_iff_iff.2 ?_)
  all_goals subst_vars
  all_goals try simp only [real, bifA, bifB, bifC, bifD, decide_eq_true_eq, decide_eq_false_iff_not, beq_iff_eq, bne_iff_ne, beq_eq_false_iff_ne, bne_eq_false_iff_eq, ne_eq, Bool.and_eq_true, Bool.or_eq_true, Bool.not_eq_true', Bool.not_eq_false', Bool.and_eq_false_iff, Bool.or_eq_false_iff, Bool.false_eq_true, and_false, false_and, or_false, false_or, and_true, true_and, not_true_eq_false, not_false_eq_true, true_iff, false_iff, IntKind.wrap_i64] at *
  all_goals first
    | omega
    | skip
def stIxint0 (n : Nat) (g : Nat → Int) (F : FuncId) (i : Nat) : St := ⟨[(8, .c (.d (eI i))), (7, .c (.d (eI n))), (0, .c (.d (.sl 1 n fun i => [eI (g i)]))), (1, .c (.d (.fn F [])))], []⟩
set_option maxRecDepth 100000 in
theorem c_Indexint0 (n : Nat) (hn : n ≤ maxLen) (g : Nat → Int) (F : FuncId) (Q : Int → Prop) (hc : ∀ r, ∃ b, (b = true ↔ Q r) ∧ Meets Try.prog F [.c (.d (eI r))] ⟨.one (.c (.d (eB b))), [none]⟩) : ∃ x, FirstIx n (fun i => Q (g i)) x ∧ Meets Try.prog 149 [.c (.d (.sl 1 n fun i => [eI (g i)])), .c (.d (.fn F []))] ⟨.one (.c (.d (eI x))), [none, none]⟩ := by
  obtain ⟨x, hx⟩ := firstIx_ex n fun i => Q (g i)
  refine ⟨x, hx, ?_⟩
  refine meets_of (H := []) (EX := EXA) ttok mixed Try.func149 rfl (by kernel_rfl) (by decide) ?_
  generalize hA : real = A
  generalize hM : MeetsB Try.prog = M
  cbv
  repeat' first
    | apply And.intro
    | exact True.intro
    | with_reducible rfl
    | exact same_of hA rfl
    | refine br_of hA (fun _ => ?_) (fun _ => ?_)
    | exact imp_of hA id
    | (refine imp_of hA ?_; subst hA; simp only [real, Bool.true_and]; exact id)
    | (refine ind_of hA ?_; decide +kernel)
  refine loop_of hA (α := { i : Nat // i ≤ n ∧ ∀ j, j < i → ¬ Q (g j) }) (fun x => stIxint0 n g F x.1) (fun x => n - x.1) ⟨0, Nat.zero_le _, fun j h => absurd h (Nat.not_lt_zero _)⟩ ?_ ?_
  · refine cov_of ?_ ?_ ?_
    · cbv; subst hA; exact ⟨rfl, rfl, trivial⟩
    · cbv
    · cbv
  rintro ⟨i, hi, hb⟩
  cbv
  repeat' first
    | apply And.intro
    | exact True.intro
    | with_reducible rfl
    | exact same_of hA rfl
    | refine br_of hA (fun _ => ?_) (fun _ => ?_)
    | exact imp_of hA id
    | (refine imp_of hA ?_; subst hA; simp only [real, Bool.true_and]; exact id)
    | (refine ind_of hA ?_; decide +kernel)
    | (refine inb_of hA fun _ => ?_; subst hA; simp only [real, decide_eq_true_eq, Int.ofNat_eq_natCast] at *; omega)
  · refine call_ex hA hM (hc (g (A.nat (Int.ofNat i)))) (fun b hbb => ?_)
    cbv
    repeat' first
      | apply And.intro
      | exact True.intro
      | with_reducible rfl
      | exact same_of hA rfl
      | refine br_of hA (fun _ => ?_) (fun _ => ?_)
      | exact imp_of hA id
      | (refine imp_of hA ?_; subst hA; simp only [real, Bool.true_and]; exact id)
      | (refine ind_of hA ?_; decide +kernel)
    · rename_i hlt ht
      subst hA
      simp only [real, decide_eq_true_eq, Int.ofNat_eq_natCast, Int.toNat_natCast] at *
      obtain rfl := firstIx_one hx (.at i (by omega) (hbb.1 ht) hb)
      rfl
    · rename_i hlt ht
      have hlt' : i < n := by subst hA; simp only [real, decide_eq_true_eq, Int.ofNat_eq_natCast] at hlt; omega
      refine ⟨⟨i + 1, by omega, fun j hj => ?_⟩, by simp only; omega, cov_of ?_ ?_ ?_⟩
      · by_cases e : j = i
        · subst e
          subst hA
          intro hq
          have := hbb.2 hq
          rw [ht] at this
          cases this
        · exact hb j (by omega)
      · cbv
        subst hA
        exact ⟨congrArg (fun x => DV.v (.int .i64 x)) (up64 hlt' hn), trivial⟩
      · cbv
      · cbv
  · subst hA
    simp only [real, decide_eq_false_iff_not, Int.ofNat_eq_natCast] at *
    obtain rfl := firstIx_one hx (.none fun j hj => hb j (by omega))
    rfl
set_option maxRecDepth 100000 in
theorem c_Containsint0 (n : Nat) (hn : n ≤ maxLen) (g : Nat → Int) (F : FuncId) (Q : Int → Prop) (hc : ∀ r, ∃ b, (b = true ↔ Q r) ∧ Meets Try.prog F [.c (.d (eI r))] ⟨.one (.c (.d (eB b))), [none]⟩) : ∃ b, (b = true ↔ ∃ i, i < n ∧ Q (g i)) ∧ Meets Try.prog 130 [.c (.d (.sl 1 n fun i => [eI (g i)])), .c (.d (.fn F []))] ⟨.one (.c (.d (eB b))), [none, none]⟩ := by
  obtain ⟨x, hx, hm⟩ := c_Indexint0 n hn g F Q hc
  obtain ⟨b, hb⟩ : ∃ b, b = decide (0 ≤ x) := ⟨_, rfl⟩
  have hxx := firstIx_neg hx
  refine ⟨b, by rw [hb, decide_eq_true_eq]; exact hxx.1, ?_⟩
  refine meets_of (H := []) (EX := EXA) ttok mixed Try.func130 rfl (by kernel_rfl) (by decide) ?_
  generalize hA : real = A
  generalize hM : MeetsB Try.prog = M
  cbv
  repeat' first
    | apply And.intro
    | exact True.intro
    | with_reducible rfl
    | exact same_of hA rfl
    | refine br_of hA (fun _ => ?_) (fun _ => ?_)
    | exact imp_of hA id
    | (refine imp_of hA ?_; subst hA; simp only [real, Bool.true_and]; exact id)
    | (refine ind_of hA ?_; decide +kernel)
    | (refine call_of hA hM _ hm ?_; cbv)
  all_goals subst hA
  all_goals refine congrArg (fun b => XA.one (.c (.d (eB b)))) (Bool.eq_iff_iff.2 ?_)
  all_goals subst_vars
  all_goals try simp only [real, bifA, bifB, bifC, bifD, decide_eq_true_eq, decide_eq_false_iff_not, beq_iff_eq, bne_iff_ne, beq_eq_false_iff_ne, bne_eq_false_iff_eq, ne_eq, Bool.and_eq_true, Bool.or_eq_true, Bool.not_eq_true', Bool.not_eq_false', Bool.and_eq_false_iff, Bool.or_eq_false_iff, Bool.false_eq_true, and_false, false_and, or_false, false_or, and_true, true_and, not_true_eq_false, not_false_eq_true, true_iff, false_iff, IntKind.wrap_i64] at *
  all_goals first
    | omega
    | skip
def st_TskHeld (n : Nat) (g : Nat → TskInT) (hn : n ≤ maxLen) (op : OpStT) (wall : Int) (pend : TxnT) (i c : Nat) : St := ⟨[(9, .c (.d (eI i))), (8, .c (.d (eI n))), (7, .c (.d (.sl 3 n fun i => eTskIn (g i)))), (3, .c (.d (eI c)))], []⟩
set_option maxRecDepth 100000 in
theorem c_TskHeld (t : TskT) : ∃ x : Int, x = ((cntB (fun i => (t.ins.g i).held) t.ins.n : Nat) : Int) ∧ Meets Try.prog 43 [xd (eTsk t)] ⟨.one (.c (.d (eI x))), [none]⟩ := by
  obtain ⟨x, hx⟩ : ∃ x : Int, x = ((cntB (fun i => (t.ins.g i).held) t.ins.n : Nat) : Int) := ⟨_, rfl⟩
  refine ⟨x, hx, ?_⟩
  obtain ⟨⟨n, g, hn⟩, op, wall, pend⟩ := t
  have hx : x = ((cntB (fun i => (g i).held) n : Nat) : Int) := hx
  refine meets_of (H := []) (EX := EXA) ttok mixed Try.func43 rfl (by kernel_rfl) (by decide) ?_
  generalize hA : real = A
  generalize hM : MeetsB Try.prog = M
  cbv
  repeat' first
    | apply And.intro
    | exact True.intro
    | with_reducible rfl
    | exact same_of hA rfl
    | refine br_of hA (fun _ => ?_) (fun _ => ?_)
    | exact imp_of hA id
    | (refine imp_of hA ?_; subst hA; simp only [real, Bool.true_and]; exact id)
    | (refine ind_of hA ?_; decide +kernel)
  refine loop_of hA (α := { q : Nat × Nat // q.1 ≤ n ∧ q.2 = cntB (fun i => (g i).held) q.1 }) (fun y => st_TskHeld n g hn op wall pend y.1.1 y.1.2) (fun y => n - y.1.1) ⟨(0, 0), Nat.zero_le _, rfl⟩ ?_ ?_
  · refine cov_of ?_ ?_ ?_
    · cbv; try (subst hA; repeat' first | apply And.intro | exact True.intro | rfl)
    · cbv; try (subst hA; repeat' first | apply And.intro | exact True.intro | rfl)
    · cbv
  rintro ⟨⟨i, c⟩, hi, hc⟩
  have hc : c = cntB (fun i => (g i).held) i := hc
  have hi : i ≤ n := hi
  have hcl : c ≤ i := by rw [hc]; exact cntB_le _ _
  cbv
  repeat' first
    | apply And.intro
    | exact True.intro
    | with_reducible rfl
    | exact same_of hA rfl
    | refine br_of hA (fun _ => ?_) (fun _ => ?_)
    | exact imp_of hA id
    | (refine imp_of hA ?_; subst hA; simp only [real, Bool.true_and]; exact id)
    | (refine ind_of hA ?_; decide +kernel)
    | (refine inb_of hA fun _ => ?_; subst hA; simp only [real, Bool.and_eq_true, Bool.not_eq_true', Bool.not_eq_false', decide_eq_true_eq, Int.ofNat_eq_natCast, IntKind.wrap_i64] at *; omega)
  · rename_i hlt hh
    have hlt' : i < n := by subst hA; simp only [real, decide_eq_true_eq, Int.ofNat_eq_natCast] at hlt; omega
    have hh : (g i).held = true := by subst hA; exact hh
    refine ⟨⟨(i + 1, c + 1), by simp only; omega, by simp only; unfold cntB; rw [if_pos hh, ← hc]⟩, by simp only; omega, cov_of ?_ ?_ ?_⟩
    · cbv
      subst hA
      repeat' first | apply And.intro | exact True.intro | exact congrArg (fun x => DV.v (.int .i64 x)) (up64 hlt' hn) | exact congrArg (fun x => DV.v (.int .i64 x)) (up64 (show c < n by omega) hn) | rfl | (intro k hk; exact push_at rfl _ _ _ _ k hk)
    · cbv; try (subst hA; repeat' first | apply And.intro | exact True.intro | rfl)
    · cbv
  · rename_i hlt hh
    have hlt' : i < n := by subst hA; simp only [real, decide_eq_true_eq, Int.ofNat_eq_natCast] at hlt; omega
    have hh : (g i).held = false := by subst hA; exact hh
    refine ⟨⟨(i + 1, c), by simp only; omega, by simp only; unfold cntB; rw [if_neg (by rw [hh]; simp), ← hc]; rfl⟩, by simp only; omega, cov_of ?_ ?_ ?_⟩
    · cbv
      subst hA
      repeat' first | apply And.intro | exact True.intro | exact congrArg (fun x => DV.v (.int .i64 x)) (up64 hlt' hn) | exact congrArg (fun x => DV.v (.int .i64 x)) (up64 (show c < n by omega) hn) | rfl | (intro k hk; exact push_at rfl _ _ _ _ k hk)
    · cbv; try (subst hA; repeat' first | apply And.intro | exact True.intro | rfl)
    · cbv
  · rename_i hge
    have : i = n := by
      subst hA
      simp only [real, decide_eq_false_iff_not, Int.ofNat_eq_natCast] at hge
      omega
    subst this
    exact congrArg (fun x => XA.one (.c (.d (eI x)))) (by rw [hx, ← hc]; rfl)
def st_sLow (n : Nat) (g : Nat → TskInT) (hn : n ≤ maxLen) (op : OpStT) (wall : Int) (pend : TxnT) (i : Nat) (v : Int) : St := ⟨[(4, .c (.d (eI i))), (3, .c (.d (eI v))), (1, .c (.bp 64 1 0))], [(64, 1, .box ((eTsk ⟨⟨n, g, hn⟩, op, wall, pend⟩).map .d))]⟩
set_option maxRecDepth 100000 in
theorem c_sTskLow (t : TskT) (x : Int) (hx : LowP 1000 t.ins.n (fun i => (t.ins.g i).mark) x) : Meets Try.prog 45 [xd (eTsk t)] ⟨.one (.c (.d (eI x))), [none]⟩ := by
  obtain ⟨⟨n, g, hn⟩, op, wall, pend⟩ := t
  have hx : LowP 1000 n (fun i => (g i).mark) x := hx
  refine meets_of (H := []) (EX := EXA) ttok mixed Try.func45 rfl (by kernel_rfl) (by decide) ?_
  generalize hA : real = A
  generalize hM : MeetsB Try.prog = M
  cbv
  repeat' first
    | apply And.intro
    | exact True.intro
    | with_reducible rfl
    | exact same_of hA rfl
    | refine br_of hA (fun _ => ?_) (fun _ => ?_)
    | exact imp_of hA id
    | (refine imp_of hA ?_; subst hA; simp only [real, Bool.true_and]; exact id)
    | (refine ind_of hA ?_; decide +kernel)
  refine loop_of hA (α := { q : Nat × Int // q.1 ≤ n ∧ LowP 1000 q.1 (fun i => (g i).mark) q.2 }) (fun y => st_sLow n g hn op wall pend y.1.1 y.1.2) (fun y => n - y.1.1) ⟨(0, 1000), Nat.zero_le _, Int.le_refl _, fun i h => absurd h (Nat.not_lt_zero i), .inl rfl⟩ ?_ ?_
  · refine cov_of ?_ ?_ ?_
    · cbv; try (subst hA; repeat' first | apply And.intro | exact True.intro | rfl)
    · cbv; try (subst hA; repeat' first | apply And.intro | exact True.intro | rfl)
    · cbv
  rintro ⟨⟨i, v⟩, hi, hc⟩
  have hc : LowP 1000 i (fun i => (g i).mark) v := hc
  have hi : i ≤ n := hi
  have hs := lowP_step hc
  cbv
  repeat' first
    | apply And.intro
    | exact True.intro
    | with_reducible rfl
    | exact same_of hA rfl
    | refine br_of hA (fun _ => ?_) (fun _ => ?_)
    | exact imp_of hA id
    | (refine imp_of hA ?_; subst hA; simp only [real, Bool.true_and]; exact id)
    | (refine ind_of hA ?_; decide +kernel)
    | (refine inb_of hA fun _ => ?_; subst hA; simp only [real, Bool.and_eq_true, Bool.not_eq_true', Bool.not_eq_false', decide_eq_true_eq, Int.ofNat_eq_natCast, IntKind.wrap_i64] at *; omega)
  · rename_i hlt hh
    have hlt' : i < n := by subst hA; simp only [real, decide_eq_true_eq, Int.ofNat_eq_natCast] at hlt; omega
    have hh :  (g i).mark < v := by subst hA; exact of_decide_eq_true hh
    rw [if_pos hh] at hs
    refine ⟨⟨(i + 1, (g i).mark), by simp only; omega, hs⟩, by simp only; omega, cov_of ?_ ?_ ?_⟩
    · cbv
      subst hA
      repeat' first | apply And.intro | exact True.intro | exact congrArg (fun x => DV.v (.int .i64 x)) (up64 hlt' hn) | rfl | (intro k hk; exact push_at rfl _ _ _ _ k hk)
    · cbv; try (subst hA; repeat' first | apply And.intro | exact True.intro | rfl)
    · cbv
  · rename_i hlt hh
    have hlt' : i < n := by subst hA; simp only [real, decide_eq_true_eq, Int.ofNat_eq_natCast] at hlt; omega
    have hh : ¬ (g i).mark < v := by subst hA; exact of_decide_eq_false hh
    rw [if_neg hh] at hs
    refine ⟨⟨(i + 1, v), by simp only; omega, hs⟩, by simp only; omega, cov_of ?_ ?_ ?_⟩
    · cbv
      subst hA
      repeat' first | apply And.intro | exact True.intro | exact congrArg (fun x => DV.v (.int .i64 x)) (up64 hlt' hn) | rfl | (intro k hk; exact push_at rfl _ _ _ _ k hk)
    · cbv; try (subst hA; repeat' first | apply And.intro | exact True.intro | rfl)
    · cbv
  · rename_i hge
    have : i = n := by
      subst hA
      simp only [real, decide_eq_false_iff_not, Int.ofNat_eq_natCast] at hge
      omega
    subst this
    exact congrArg (fun x => XA.one (.c (.d (eI x)))) (lowP_one hc hx)
def st_marks (n : Nat) (g : Nat → TskInT) (i : Nat) (row : Nat → List DV) : St := ⟨[(9, .c (.d (eI i))), (8, .c (.d (eI n))), (7, .c (.d (.sl 3 n fun i => eTskIn (g i)))), (3, .c (.own 1088 0 i 1))], [(1088, 1, .arr 1 i row)]⟩
set_option maxRecDepth 100000 in
theorem c_marks (t : TskT) (hb : t.ins.n ≤ 1048576) : Meets Try.prog 97 [xd (eTsk t)] ⟨.one (.c (.own 1 t.ins.n fun i => [eI (t.ins.g i).mark])), [none]⟩ := by
  obtain ⟨⟨n, g, hn⟩, op, wall, pend⟩ := t
  have hb : n ≤ 1048576 := hb
  show Meets _ _ _ ⟨.one (.c (.own 1 n fun i => [eI (g i).mark])), [none]⟩
  refine meets_of (H := [7]) (EX := EXA) ttok mixed Try.func97 rfl (by kernel_rfl) (by decide) ?_
  generalize hA : real = A
  generalize hM : MeetsB Try.prog = M
  cbv
  repeat' first
    | apply And.intro
    | exact True.intro
    | with_reducible rfl
    | exact same_of hA rfl
    | refine br_of hA (fun _ => ?_) (fun _ => ?_)
    | exact imp_of hA id
    | (refine imp_of hA ?_; subst hA; simp only [real, Bool.true_and]; exact id)
    | (refine ind_of hA ?_; decide +kernel)
  refine loop_of hA (α := { q : Nat × (Nat → List DV) // q.1 ≤ n ∧ ∀ k, k < q.1 → q.2 k = [eI (g k).mark] }) (fun y => st_marks n g y.1.1 y.1.2) (fun y => n - y.1.1) ⟨(0, fun _ => []), Nat.zero_le _, fun k h => absurd h (Nat.not_lt_zero k)⟩ ?_ ?_
  · refine cov_prom 3 1088 1 1 (fun _ => []) (by cbv) (by cbv) (cov_of ?_ ?_ ?_)
    · cbv; try (subst hA; repeat' first | apply And.intro | exact True.intro | rfl)
    · cbv; try (subst hA; repeat' first | apply And.intro | exact True.intro | rfl | exact (fun _ _ => rfl))
    · cbv
  rintro ⟨⟨i, row⟩, hi, hr⟩
  have hi : i ≤ n := hi
  have hr : ∀ k, k < i → row k = [eI (g k).mark] := hr
  cbv
  repeat' first
    | apply And.intro
    | exact True.intro
    | with_reducible rfl
    | exact same_of hA rfl
    | refine br_of hA (fun _ => ?_) (fun _ => ?_)
    | exact imp_of hA id
    | (refine imp_of hA ?_; subst hA; simp only [real, Bool.true_and]; exact id)
    | (refine ind_of hA ?_; decide +kernel)
    | (refine inb_of hA fun _ => ?_; subst hA; simp only [real, Bool.and_eq_true, Bool.not_eq_true', Bool.not_eq_false', decide_eq_true_eq, Int.ofNat_eq_natCast, IntKind.wrap_i64] at *; omega)
    | (refine room_n hA ?_ (by decide); subst hA; simp only [real, decide_eq_true_eq, Int.ofNat_eq_natCast] at *; omega)
  · rename_i hlt
    have hlt' : i < n := by subst hA; simp only [real, decide_eq_true_eq, Int.ofNat_eq_natCast] at hlt; omega
    refine ⟨⟨(i + 1, fun k => if k < i then row k else [eI (g i).mark]), by simp only; omega, fun k hk => ?_⟩, by simp only; omega, cov_of ?_ ?_ ?_⟩
    · simp only at hk ⊢
      by_cases e : k < i
      · rw [if_pos e]; exact hr k e
      · rw [if_neg e]
        have : k = i := by omega
        rw [this]
    · cbv
      subst hA
      repeat' first | apply And.intro | exact True.intro | exact congrArg (fun x => DV.v (.int .i64 x)) (up64 hlt' hn) | rfl | (intro k hk; exact push_at rfl _ _ _ _ k hk)
    · cbv
      subst hA
      repeat' first | apply And.intro | exact True.intro | rfl | (intro k hk; exact push_at rfl _ _ _ _ k hk)
    · cbv
  · rename_i hge
    have : i = n := by
      subst hA
      simp only [real, decide_eq_false_iff_not, Int.ofNat_eq_natCast] at hge
      omega
    subst this
    refine stop_of hA ⟨[(3, .c (.own 1088 0 i 1))], [(1088, 1, .arr 1 i fun k => [eI (g k).mark])]⟩ (cov_of ?_ ?_ ?_) ?_
    · cbv
    · cbv
      exact ⟨fun q hq => hr q hq, trivial⟩
    · cbv
    · cbv
      repeat' first
        | apply And.intro
        | exact True.intro
        | with_reducible rfl
        | exact same_of hA rfl
        | refine br_of hA (fun _ => ?_) (fun _ => ?_)
        | exact imp_of hA id
        | (refine imp_of hA ?_; subst hA; simp only [real, Bool.true_and]; exact id)
        | (refine ind_of hA ?_; decide +kernel)
def st_min (n : Nat) (g : Nat → Int) (i : Nat) (v : Int) : St := ⟨[(4, .c (.d (eI i))), (3, .c (.d (eI v))), (0, .c (.d (.sl 1 n fun i => [eI (g i)])))], []⟩
set_option maxRecDepth 100000 in
theorem c_min (n : Nat) (hn : n ≤ maxLen) (g : Nat → Int) (h0 : 0 < n) (x : Int) (hx : MinP n g x) : Meets Try.prog 96 [.c (.d (.sl 1 n fun i => [eI (g i)]))] ⟨.one (.c (.d (eI x))), [none]⟩ := by
  refine meets_of (H := []) (EX := EXA) ttok mixed Try.func96 rfl (by kernel_rfl) (by decide) ?_
  generalize hA : real = A
  generalize hM : MeetsB Try.prog = M
  cbv
  repeat' first
    | apply And.intro
    | exact True.intro
    | with_reducible rfl
    | exact same_of hA rfl
    | refine br_of hA (fun _ => ?_) (fun _ => ?_)
    | exact imp_of hA id
    | (refine imp_of hA ?_; subst hA; simp only [real, Bool.true_and]; exact id)
    | (refine ind_of hA ?_; decide +kernel)
    | (refine inb_of hA fun _ => ?_; subst hA; simp only [real, Bool.and_eq_true, Bool.not_eq_true', Bool.not_eq_false', decide_eq_true_eq, Int.ofNat_eq_natCast, IntKind.wrap_i64] at *; omega)
  · exfalso
    rename_i h
    subst hA
    simp only [real, decide_eq_true_eq, Int.ofNat_eq_natCast] at h
    omega
  refine loop_of hA (α := { q : Nat × Int // 1 ≤ q.1 ∧ q.1 ≤ n ∧ LowP (g 0) q.1 g q.2 }) (fun y => st_min n g y.1.1 y.1.2) (fun y => n - y.1.1) ⟨(1, g 0), Nat.le_refl _, h0, Int.le_refl _, fun i h => (by have e : i = 0 := Nat.lt_one_iff.1 h; rw [e]; exact Int.le_refl _), .inl rfl⟩ ?_ ?_
  · refine cov_of ?_ ?_ ?_
    · cbv; try (subst hA; repeat' first | apply And.intro | exact True.intro | rfl)
    · cbv; try (subst hA; repeat' first | apply And.intro | exact True.intro | rfl)
    · cbv
  rintro ⟨⟨i, v⟩, h1, hi, hc⟩
  have hc : LowP (g 0) i g v := hc
  have hi : i ≤ n := hi
  have hs := lowP_step hc
  cbv
  repeat' first
    | apply And.intro
    | exact True.intro
    | with_reducible rfl
    | exact same_of hA rfl
    | refine br_of hA (fun _ => ?_) (fun _ => ?_)
    | exact imp_of hA id
    | (refine imp_of hA ?_; subst hA; simp only [real, Bool.true_and]; exact id)
    | (refine ind_of hA ?_; decide +kernel)
    | (refine inb_of hA fun _ => ?_; subst hA; simp only [real, Bool.and_eq_true, Bool.not_eq_true', Bool.not_eq_false', decide_eq_true_eq, Int.ofNat_eq_natCast, IntKind.wrap_i64] at *; omega)
  · rename_i hlt
    have hlt' : i < n := by subst hA; simp only [real, decide_eq_true_eq, Int.ofNat_eq_natCast] at hlt; omega
    obtain ⟨v2, hv2⟩ : ∃ v2 : Int, v2 = (if g i < v then g i else v) := ⟨_, rfl⟩
    rw [← hv2] at hs
    refine ⟨⟨(i + 1, v2), by simp only; omega, by simp only; omega, hs⟩, by simp only; omega, cov_of ?_ ?_ ?_⟩
    · cbv
      subst hA
      repeat' first | apply And.intro | exact True.intro | exact congrArg (fun x => DV.v (.int .i64 x)) (up64 hlt' hn) | exact congrArg (fun x => DV.v (.int .i64 x)) hv2.symm | rfl | (intro k hk; exact push_at rfl _ _ _ _ k hk)
    · cbv
    · cbv
  · rename_i hge
    have : i = n := by
      subst hA
      simp only [real, decide_eq_false_iff_not, Int.ofNat_eq_natCast] at hge
      omega
    subst this
    exact congrArg (fun x => XA.one (.c (.d (eI x)))) (minP_one (minP_of h0 hc) hx)
set_option maxRecDepth 100000 in
theorem c_TskLow (t : TskT) (hb : t.ins.n ≤ 1048576) (x : Int) (hx : LowP 1000 t.ins.n (fun i => (t.ins.g i).mark) x) : Meets Try.prog 44 [xd (eTsk t)] ⟨.one (.c (.d (eI x))), [none]⟩ := by
  have hm := c_marks t hb
  obtain ⟨⟨n, g, hn⟩, op, wall, pend⟩ := t
  have hb : n ≤ 1048576 := hb
  have hx : LowP 1000 n (fun i => (g i).mark) x := hx
  have hm : Meets _ _ _ ⟨.one (.c (.own 1 n fun i => [eI (g i).mark])), [none]⟩ := hm
  have hMx : MinP (n + 1) (fun i => if i < n then (g i).mark else if i = n then 1000 else 0) x := minP_ofLow (fun i hi => if_pos hi) (by simp) hx
  refine meets_of (H := []) (EX := EXA) ttok mixed Try.func44 rfl (by kernel_rfl) (by decide) ?_
  generalize hA : real = A
  generalize hM : MeetsB Try.prog = M
  cbv
  repeat' first
    | apply And.intro
    | exact True.intro
    | with_reducible rfl
    | exact same_of hA rfl
    | refine br_of hA (fun _ => ?_) (fun _ => ?_)
    | exact imp_of hA id
    | (refine imp_of hA ?_; subst hA; simp only [real, Bool.true_and]; exact id)
    | (refine ind_of hA ?_; decide +kernel)
    | (refine call_of hA hM _ hm ?_; cbv)
    | exact room_add hA (by omega) (by decide)
    | (refine call_of2 hA hM _ (c_min (n + 1) (Nat.le_trans (Nat.add_le_add_right hb 1) (by decide)) _ (by omega) x hMx) (congrArg (fun d => [XT.c (.d d)]) (low_arg hA n _ 1000)) ?_; cbv)
open Classical in
set_option maxRecDepth 100000 in
theorem c_notItm (x : ItmT) : ∃ b, (b = true ↔ ¬ ItmOkP x) ∧ Meets Try.prog 133 [xd (eItm x)] ⟨.one (.c (.d (eB b))), [none]⟩ := by
  obtain ⟨b, hb⟩ : ∃ b : Bool, (b = true ↔ ¬ ItmOkP x) := ⟨decide (¬ ItmOkP x), by rw [decide_eq_true_eq]⟩
  refine ⟨b, hb, ?_⟩
  refine meets_of (H := []) (EX := EXA) ttok mixed Try.func133 rfl (by kernel_rfl) (by decide) ?_
  generalize hA : real = A
  generalize hM : MeetsB Try.prog = M
  cbv
  repeat' first
    | apply And.intro
    | exact True.intro
    | with_reducible rfl
    | exact same_of hA rfl
    | refine br_of hA (fun _ => ?_) (fun _ => ?_)
    | exact imp_of hA id
    | (refine imp_of hA ?_; subst hA; simp only [real, Bool.true_and]; exact id)
    | (refine ind_of hA ?_; decide +kernel)
    | (refine call_ex hA hM (c_ItmOkP x) (fun _ _ => ?_); cbv)
  rename_i b1 hb1
  refine congrArg (fun b => XA.one (.c (.d (eB b)))) (Bool.eq_iff_iff.2 ?_)
  subst hA
  rw [hb, ← hb1]
  simp [real]
open Classical in
set_option maxRecDepth 100000 in
theorem c_InOk (j : JobT) (c : TskInT) : ∃ b, (b = true ↔ InOkP j c) ∧ Meets Try.prog 93 [xd (eTskIn c), xd (eJob j)] ⟨.one (.c (.d (eB b))), [none, none]⟩ := by
  obtain ⟨b, hb⟩ : ∃ b : Bool, (b = true ↔ InOkP j c) := ⟨decide (InOkP j c), by rw [decide_eq_true_eq]⟩
  refine ⟨b, hb, ?_⟩
  have hcon := c_ContainsItm0 c.queue.n c.queue.hn c.queue.g 133 _ c_notItm
  refine meets_of (H := []) (EX := EXA) ttok mixed Try.func93 rfl (by kernel_rfl) (by decide) ?_
  generalize hA : real = A
  generalize hM : MeetsB Try.prog = M
  cbv
  repeat' first
    | apply And.intro
    | exact True.intro
    | with_reducible rfl
    | exact same_of hA rfl
    | refine br_of hA (fun _ => ?_) (fun _ => ?_)
    | exact imp_of hA id
    | (refine imp_of hA ?_; subst hA; simp only [real, Bool.true_and]; exact id)
    | (refine ind_of hA ?_; decide +kernel)
    | (refine call_ex hA hM (c_isTime _) (fun _ _ => ?_); cbv)
    | (refine call_ex hA hM hcon (fun _ _ => ?_); cbv)
  rename_i b1 hb1 b2 hb2
  refine congrArg (fun b => XA.one (.c (.d (eB b)))) (Bool.eq_iff_iff.2 ?_)
  have e2 := nex hb2
  subst hA; subst hb1
  rw [hb]
  simp only [real, bifA, bifB, bifC, bifD, beqB, decide_eq_true_eq, decide_eq_false_iff_not, beqI, bneI, beqIF, bneIF, ne_eq, Bool.and_eq_true, Bool.or_eq_true, Bool.not_eq_true', Bool.not_eq_false', Bool.and_eq_false_iff, Bool.or_eq_false_iff, Bool.false_eq_true, and_false, false_and, or_false, false_or, and_true, true_and, not_true_eq_false, not_false_eq_true, true_iff, false_iff, Int.ofNat_eq_natCast, Int.toNat_natCast]
  rw [e2]
  exact ⟨fun h => ⟨h.1.1, h.1.2, h.2⟩, fun h => ⟨⟨h.1, h.2.1⟩, h.2.2⟩⟩
open Classical in
set_option maxRecDepth 100000 in
theorem c_notPan (p : PaneT) : ∃ b, (b = true ↔ ¬ PaneOkP p) ∧ Meets Try.prog 150 [xd (ePane p)] ⟨.one (.c (.d (eB b))), [none]⟩ := by
  obtain ⟨b, hb⟩ : ∃ b : Bool, (b = true ↔ ¬ PaneOkP p) := ⟨decide (¬ PaneOkP p), by rw [decide_eq_true_eq]⟩
  refine ⟨b, hb, ?_⟩
  refine meets_of (H := []) (EX := EXA) ttok mixed Try.func150 rfl (by kernel_rfl) (by decide) ?_
  generalize hA : real = A
  generalize hM : MeetsB Try.prog = M
  cbv
  repeat' first
    | apply And.intro
    | exact True.intro
    | with_reducible rfl
    | exact same_of hA rfl
    | refine br_of hA (fun _ => ?_) (fun _ => ?_)
    | exact imp_of hA id
    | (refine imp_of hA ?_; subst hA; simp only [real, Bool.true_and]; exact id)
    | (refine ind_of hA ?_; decide +kernel)
    | (refine call_ex hA hM (c_PanOk p) (fun _ _ => ?_); cbv)
  rename_i b1 hb1
  refine congrArg (fun b => XA.one (.c (.d (eB b)))) (Bool.eq_iff_iff.2 ?_)
  subst hA
  rw [hb, ← hb1]
  simp [real]
open Classical in
set_option maxRecDepth 100000 in
theorem c_notLat (l : LatT) : ∃ b, (b = true ↔ ¬ LatOkP l) ∧ Meets Try.prog 151 [xd (eLat l)] ⟨.one (.c (.d (eB b))), [none]⟩ := by
  obtain ⟨b, hb⟩ : ∃ b : Bool, (b = true ↔ ¬ LatOkP l) := ⟨decide (¬ LatOkP l), by rw [decide_eq_true_eq]⟩
  refine ⟨b, hb, ?_⟩
  refine meets_of (H := []) (EX := EXA) ttok mixed Try.func151 rfl (by kernel_rfl) (by decide) ?_
  generalize hA : real = A
  generalize hM : MeetsB Try.prog = M
  cbv
  repeat' first
    | apply And.intro
    | exact True.intro
    | with_reducible rfl
    | exact same_of hA rfl
    | refine br_of hA (fun _ => ?_) (fun _ => ?_)
    | exact imp_of hA id
    | (refine imp_of hA ?_; subst hA; simp only [real, Bool.true_and]; exact id)
    | (refine ind_of hA ?_; decide +kernel)
    | (refine call_ex hA hM (c_LatOk l) (fun _ _ => ?_); cbv)
  rename_i b1 hb1
  refine congrArg (fun b => XA.one (.c (.d (eB b)))) (Bool.eq_iff_iff.2 ?_)
  subst hA
  rw [hb, ← hb1]
  simp [real]
open Classical in
set_option maxRecDepth 100000 in
theorem c_told (ps : Sl PaneT) (ls : Sl LatT) (m : Int) : ∃ b, (b = true ↔ ToldP m ps ls) ∧ Meets Try.prog 134 [.c (.d (.sl 9 ps.n fun i => ePane (ps.g i))), .c (.d (.sl 7 ls.n fun i => eLat (ls.g i))), .c (.d (eI m))] ⟨.one (.c (.d (eB b))), [none, none, none]⟩ := by
  obtain ⟨b, hb⟩ : ∃ b : Bool, (b = true ↔ ToldP m ps ls) := ⟨decide (ToldP m ps ls), by rw [decide_eq_true_eq]⟩
  refine ⟨b, hb, ?_⟩
  have hcp := c_ContainsPane0 ps.n ps.hn ps.g 150 _ c_notPan
  have hcl := c_ContainsLat0 ls.n ls.hn ls.g 151 _ c_notLat
  refine meets_of (H := []) (EX := EXA) ttok mixed Try.func134 rfl (by kernel_rfl) (by decide) ?_
  generalize hA : real = A
  generalize hM : MeetsB Try.prog = M
  cbv
  repeat' first
    | apply And.intro
    | exact True.intro
    | with_reducible rfl
    | exact same_of hA rfl
    | refine br_of hA (fun _ => ?_) (fun _ => ?_)
    | exact imp_of hA id
    | (refine imp_of hA ?_; subst hA; simp only [real, Bool.true_and]; exact id)
    | (refine ind_of hA ?_; decide +kernel)
    | (refine call_ex hA hM hcp (fun _ _ => ?_); cbv)
    | (refine call_ex hA hM hcl (fun _ _ => ?_); cbv)
  rename_i b1 hb1 b2 hb2
  refine congrArg (fun b => XA.one (.c (.d (eB b)))) (Bool.eq_iff_iff.2 ?_)
  have e1 := nex hb1
  have e2 := nex hb2
  subst hA
  rw [hb]
  simp only [real, bifA, bifB, bifC, bifD, beqB, decide_eq_true_eq, decide_eq_false_iff_not, beqI, bneI, beqIF, bneIF, ne_eq, Bool.and_eq_true, Bool.or_eq_true, Bool.not_eq_true', Bool.not_eq_false', Bool.and_eq_false_iff, Bool.or_eq_false_iff, Bool.false_eq_true, and_false, false_and, or_false, false_or, and_true, true_and, not_true_eq_false, not_false_eq_true, true_iff, false_iff, Int.ofNat_eq_natCast, Int.toNat_natCast]
  rw [e1, e2]
  exact ⟨fun h => ⟨h.1.1.1, h.1.1.2, h.1.2, h.2⟩, fun h => ⟨⟨⟨h.1, h.2.1⟩, h.2.2.1⟩, h.2.2.2⟩⟩
open Classical in
set_option maxRecDepth 100000 in
theorem c_TxnOk (x : TxnT) : ∃ b, (b = true ↔ TxnOkP x) ∧ Meets Try.prog 95 [xd (eTxn x)] ⟨.one (.c (.d (eB b))), [none]⟩ := by
  obtain ⟨b, hb⟩ : ∃ b : Bool, (b = true ↔ TxnOkP x) := ⟨decide (TxnOkP x), by rw [decide_eq_true_eq]⟩
  refine ⟨b, hb, ?_⟩
  refine meets_of (H := []) (EX := EXA) ttok mixed Try.func95 rfl (by kernel_rfl) (by decide) ?_
  generalize hA : real = A
  generalize hM : MeetsB Try.prog = M
  cbv
  repeat' first
    | apply And.intro
    | exact True.intro
    | with_reducible rfl
    | exact same_of hA rfl
    | refine br_of hA (fun _ => ?_) (fun _ => ?_)
    | exact imp_of hA id
    | (refine imp_of hA ?_; subst hA; simp only [real, Bool.true_and]; exact id)
    | (refine ind_of hA ?_; decide +kernel)
    | (refine call_ex hA hM (c_in _ _ _) (fun _ _ => ?_); cbv)
    | (refine call_ex hA hM (c_told x.panes x.lates _) (fun _ _ => ?_); cbv)
  rename_i b1 hb1 b2 hb2
  refine congrArg (fun b => XA.one (.c (.d (eB b)))) (Bool.eq_iff_iff.2 ?_)
  subst hA; subst hb1
  rw [hb]
  simp only [real, bifA, bifB, bifC, bifD, beqB, decide_eq_true_eq, decide_eq_false_iff_not, beqI, bneI, beqIF, bneIF, ne_eq, Bool.and_eq_true, Bool.or_eq_true, Bool.not_eq_true', Bool.not_eq_false', Bool.and_eq_false_iff, Bool.or_eq_false_iff, Bool.false_eq_true, and_false, false_and, or_false, false_or, and_true, true_and, not_true_eq_false, not_false_eq_true, true_iff, false_iff, Int.ofNat_eq_natCast, Int.toNat_natCast]
  rw [hb2]
  exact Iff.rfl
open Classical in
set_option maxRecDepth 100000 in
theorem c_notIn (j : JobT) (c : TskInT) : ∃ b, (b = true ↔ ¬ InOkP j c) ∧ Meets Try.prog 92 [xd (eTskIn c), .c (.d (.p (eJob j)))] ⟨.one (.c (.d (eB b))), [none, none]⟩ := by
  obtain ⟨b, hb⟩ : ∃ b : Bool, (b = true ↔ ¬ InOkP j c) := ⟨decide (¬ InOkP j c), by rw [decide_eq_true_eq]⟩
  refine ⟨b, hb, ?_⟩
  refine meets_of (H := []) (EX := EXA) ttok mixed Try.func92 rfl (by kernel_rfl) (by decide) ?_
  generalize hA : real = A
  generalize hM : MeetsB Try.prog = M
  cbv
  repeat' first
    | apply And.intro
    | exact True.intro
    | with_reducible rfl
    | exact same_of hA rfl
    | refine br_of hA (fun _ => ?_) (fun _ => ?_)
    | exact imp_of hA id
    | (refine imp_of hA ?_; subst hA; simp only [real, Bool.true_and]; exact id)
    | (refine ind_of hA ?_; decide +kernel)
    | (refine call_ex hA hM (c_InOk j c) (fun _ _ => ?_); cbv)
  rename_i b1 hb1
  refine congrArg (fun b => XA.one (.c (.d (eB b)))) (Bool.eq_iff_iff.2 ?_)
  subst hA
  rw [hb, ← hb1]
  simp [real]
open Classical in
set_option maxRecDepth 100000 in
theorem c_TskOk (j : JobT) (t : TskT) (hbd : t.ins.n ≤ 1048576) : ∃ b, (b = true ↔ TskOkP j t) ∧ Meets Try.prog 42 [xd (eJob j), xd (eTsk t)] ⟨.one (.c (.d (eB b))), [none, none]⟩ := by
  obtain ⟨b, hb⟩ : ∃ b : Bool, (b = true ↔ TskOkP j t) := ⟨decide (TskOkP j t), by rw [decide_eq_true_eq]⟩
  refine ⟨b, hb, ?_⟩
  obtain ⟨x, hx⟩ := lowP_ex 1000 t.ins.n (fun i => (t.ins.g i).mark)
  have hlow := c_TskLow t hbd x hx
  obtain ⟨c, hc, hheld⟩ := c_TskHeld t
  have hcon := c_ContainsTskIn1 t.ins.n t.ins.hn t.ins.g 92 (.p (eJob j)) _ (c_notIn j)
  refine meets_of (H := []) (EX := EXA) ttok mixed Try.func42 rfl (by kernel_rfl) (by decide) ?_
  generalize hA : real = A
  generalize hM : MeetsB Try.prog = M
  cbv
  repeat' first
    | apply And.intro
    | exact True.intro
    | with_reducible rfl
    | exact same_of hA rfl
    | refine br_of hA (fun _ => ?_) (fun _ => ?_)
    | exact imp_of hA id
    | (refine imp_of hA ?_; subst hA; simp only [real, Bool.true_and]; exact id)
    | (refine ind_of hA ?_; decide +kernel)
    | (refine call_of hA hM _ hheld ?_; cbv)
    | (refine call_of hA hM _ hlow ?_; cbv)
    | (refine call_ex hA hM (c_in _ _ _) (fun _ _ => ?_); cbv)
    | (refine call_ex hA hM (c_OpOk j t.op) (fun _ _ => ?_); cbv)
    | (refine call_ex hA hM hcon (fun _ _ => ?_); cbv)
    | (refine call_ex hA hM (c_TxnOk t.pend) (fun _ _ => ?_); cbv)
  · rename_i b1 hb1 b2 hb2 hbad
    refine congrArg (fun b => XA.one (.c (.d (eB b)))) ?_
    subst hA
    simp only [real, bifA, bifB, bifC, bifD, beqB, decide_eq_true_eq, decide_eq_false_iff_not, beqI, bneI, beqIF, bneIF, ne_eq, Classical.not_not, Bool.and_eq_true, Bool.or_eq_true, Bool.not_eq_true', Bool.not_eq_false', Bool.and_eq_false_iff, Bool.or_eq_false_iff, Bool.false_eq_true, and_false, false_and, or_false, false_or, and_true, true_and, not_true_eq_false, not_false_eq_true, true_iff, false_iff, Int.ofNat_eq_natCast, Int.toNat_natCast] at hbad
    have hbad : (b1 = false ∨ ¬ (t.ins.n : Int) = j.srcs) ∨ b2 = true := hbad
    cases b with
    | false => rfl
    | true =>
      exfalso
      have h := hb.1 rfl
      rcases hbad with (h1 | h1) | h1
      · have := hb1.2 h.1
        rw [h1] at this; cases this
      · exact h1 h.2.1
      · obtain ⟨i, hi, hh⟩ := hb2.1 h1
        exact hh (h.2.2.2.2.2.1 i hi)
  rename_i b1 hb1 b2 hb2 hgood b3 hb3 b4 hb4
  refine congrArg (fun b => XA.one (.c (.d (eB b)))) (Bool.eq_iff_iff.2 ?_)
  have e2 := nex hb2
  subst hA; subst hb3
  rw [hb]
  simp only [real, bifA, bifB, bifC, bifD, beqB, decide_eq_true_eq, decide_eq_false_iff_not, beqI, bneI, beqIF, bneIF, ne_eq, Classical.not_not, Bool.and_eq_true, Bool.or_eq_true, Bool.not_eq_true', Bool.not_eq_false', Bool.and_eq_false_iff, Bool.or_eq_false_iff, Bool.false_eq_true, and_false, false_and, or_false, false_or, and_true, true_and, not_true_eq_false, not_false_eq_true, true_iff, false_iff, Int.ofNat_eq_natCast, Int.toNat_natCast] at hgood
  have hgood : (b1 = true ∧ (t.ins.n : Int) = j.srcs) ∧ b2 = false := hgood
  simp only [real, bifA, bifB, bifC, bifD, beqB, decide_eq_true_eq, decide_eq_false_iff_not, beqI, bneI, beqIF, bneIF, ne_eq, Bool.and_eq_true, Bool.or_eq_true, Bool.not_eq_true', Bool.not_eq_false', Bool.and_eq_false_iff, Bool.or_eq_false_iff, Bool.false_eq_true, and_false, false_and, or_false, false_or, and_true, true_and, not_true_eq_false, not_false_eq_true, true_iff, false_iff, Int.ofNat_eq_natCast, Int.toNat_natCast]
  rw [hb4]
  constructor
  · rintro ⟨⟨⟨⟨h1, h2⟩, h3⟩, h4⟩, h5⟩
    have h1 : c < (t.ins.n : Int) := h1
    have h3 : t.op.mark = x := h3
    exact ⟨hb1.1 hgood.1.1, hgood.1.2, h2, h5, h4, e2.1 hgood.2, (show cntB (fun i => (t.ins.g i).held) t.ins.n < t.ins.n by have h9 := h1; rw [hc] at h9; exact Int.ofNat_lt.1 h9), (show LowP 1000 t.ins.n (fun i => (t.ins.g i).mark) t.op.mark by rw [h3]; exact hx)⟩
  · intro h
    have h1 : cntB (fun i => (t.ins.g i).held) t.ins.n < t.ins.n := h.2.2.2.2.2.2.1
    exact ⟨⟨⟨⟨(show c < (t.ins.n : Int) by rw [hc]; exact Int.ofNat_lt.2 h1), h.2.2.1⟩, lowP_one h.2.2.2.2.2.2.2 hx⟩, h.2.2.2.2.1⟩, h.2.2.2.1⟩
open Classical in
set_option maxRecDepth 100000 in
theorem c_notTime (n : Int) : ∃ b, (b = true ↔ ¬ (0 ≤ n ∧ n ≤ 1000)) ∧ Meets Try.prog 131 [.c (.d (eI n))] ⟨.one (.c (.d (eB b))), [none]⟩ := by
  obtain ⟨b, hb⟩ : ∃ b : Bool, (b = true ↔ ¬ (0 ≤ n ∧ n ≤ 1000)) := ⟨decide (¬ (0 ≤ n ∧ n ≤ 1000)), by rw [decide_eq_true_eq]⟩
  refine ⟨b, hb, ?_⟩
  refine meets_of (H := []) (EX := EXA) ttok mixed Try.func131 rfl (by kernel_rfl) (by decide) ?_
  generalize hA : real = A
  generalize hM : MeetsB Try.prog = M
  cbv
  repeat' first
    | apply And.intro
    | exact True.intro
    | with_reducible rfl
    | exact same_of hA rfl
    | refine br_of hA (fun _ => ?_) (fun _ => ?_)
    | exact imp_of hA id
    | (refine imp_of hA ?_; subst hA; simp only [real, Bool.true_and]; exact id)
    | (refine ind_of hA ?_; decide +kernel)
    | (refine call_ex hA hM (c_isTime _) (fun _ _ => ?_); cbv)
  rename_i b1 hb1
  refine congrArg (fun b => XA.one (.c (.d (eB b)))) (Bool.eq_iff_iff.2 ?_)
  subst hA
  rw [hb, hb1]
  simp [real]
  omega
open Classical in
set_option maxRecDepth 100000 in
theorem c_marksOk (j : JobT) (ms : Sl Int) : ∃ b, (b = true ↔ MarksP j ms) ∧ Meets Try.prog 88 [xd (eJob j), .c (.d (.sl 1 ms.n fun i => [eI (ms.g i)]))] ⟨.one (.c (.d (eB b))), [none, none]⟩ := by
  obtain ⟨b, hb⟩ : ∃ b : Bool, (b = true ↔ MarksP j ms) := ⟨decide (MarksP j ms), by rw [decide_eq_true_eq]⟩
  refine ⟨b, hb, ?_⟩
  have hcon := c_Containsint0 ms.n ms.hn ms.g 131 _ c_notTime
  refine meets_of (H := []) (EX := EXA) ttok mixed Try.func88 rfl (by kernel_rfl) (by decide) ?_
  generalize hA : real = A
  generalize hM : MeetsB Try.prog = M
  cbv
  repeat' first
    | apply And.intro
    | exact True.intro
    | with_reducible rfl
    | exact same_of hA rfl
    | refine br_of hA (fun _ => ?_) (fun _ => ?_)
    | exact imp_of hA id
    | (refine imp_of hA ?_; subst hA; simp only [real, Bool.true_and]; exact id)
    | (refine ind_of hA ?_; decide +kernel)
    | (refine call_ex hA hM hcon (fun _ _ => ?_); cbv)
  rename_i b1 hb1
  refine congrArg (fun b => XA.one (.c (.d (eB b)))) (Bool.eq_iff_iff.2 ?_)
  have e1 := nex hb1
  subst hA
  rw [hb]
  simp only [real, bifA, bifB, bifC, bifD, beqB, decide_eq_true_eq, decide_eq_false_iff_not, beqI, bneI, beqIF, bneIF, ne_eq, Bool.and_eq_true, Bool.or_eq_true, Bool.not_eq_true', Bool.not_eq_false', Bool.and_eq_false_iff, Bool.or_eq_false_iff, Bool.false_eq_true, and_false, false_and, or_false, false_or, and_true, true_and, not_true_eq_false, not_false_eq_true, true_iff, false_iff, Int.ofNat_eq_natCast, Int.toNat_natCast]
  rw [e1]
  exact Iff.rfl
end Go.Rk
/- Tasks: fr. -/
namespace Go.Rk
set_option linter.unusedSimpArgs false
set_option linter.unusedVariables false
open Go.Proofs
set_option maxRecDepth 100000
set_option maxHeartbeats 1000000
def st_frItems (n : Nat) (g : Nat → ItmT) (i : Nat) : St := ⟨[(5, .c (.d (eI i))), (0, .c (.d (.sl 5 n fun i => eItm (g i)))), (1, .c (.d (.sl 5 n fun i => eItm (g i))))], []⟩
theorem c_frItems (n : Nat) (hn : n ≤ maxLen) (g : Nat → ItmT) : Meets Try.prog 90 [.c (.d (.sl 5 n fun i => eItm (g i))), .c (.d (.sl 5 n fun i => eItm (g i)))] ⟨.one (.c (.d (eB true))), [none, none]⟩ := by
  refine meets_of (H := []) (EX := EXA) ttok mixed Try.func90 rfl (by kernel_rfl) (by decide) ?_
  generalize hA : real = A
  generalize hM : MeetsB Try.prog = M
  cbv
  repeat' first
    | (refine br_f hA ?_ ?_; focus (subst hA; simp [real]; done))
    | apply And.intro
    | exact True.intro
    | with_reducible rfl
    | exact same_of hA rfl
    | refine br_of hA (fun _ => ?_) (fun _ => ?_)
    | exact imp_of hA id
    | (refine imp_of hA ?_; subst hA; simp only [real, Bool.true_and]; exact id)
    | (refine ind_of hA ?_; decide +kernel)
  refine loop_of hA (α := { i : Nat // i ≤ n }) (fun x => st_frItems n g x.1) (fun x => n - x.1) ⟨0, Nat.zero_le _⟩ ?_ ?_
  · refine cov_of ?_ ?_ ?_
    · cbv; try (subst hA; repeat' first | apply And.intro | exact True.intro | rfl)
    · cbv; try (subst hA; repeat' first | apply And.intro | exact True.intro | rfl)
    · cbv
  rintro ⟨i, hi⟩
  cbv
  repeat' first
    | (refine br_f hA ?_ ?_; focus (subst hA; simp [real]; done))
    | apply And.intro
    | exact True.intro
    | with_reducible rfl
    | exact same_of hA rfl
    | refine br_of hA (fun _ => ?_) (fun _ => ?_)
    | exact imp_of hA id
    | (refine imp_of hA ?_; subst hA; simp only [real, Bool.true_and]; exact id)
    | (refine ind_of hA ?_; decide +kernel)
    | (refine inb_of hA fun _ => ?_; subst hA; simp only [real, Bool.and_eq_true, Bool.not_eq_true', Bool.not_eq_false', decide_eq_true_eq, Int.ofNat_eq_natCast, IntKind.wrap_i64] at *; omega)
  rename_i hlt
  have hlt' : i < n := by subst hA; simp only [real, decide_eq_true_eq, Int.ofNat_eq_natCast] at hlt; omega
  refine ⟨⟨i + 1, by omega⟩, by simp only; omega, cov_of ?_ ?_ ?_⟩
  · cbv
    subst hA
    repeat' first | apply And.intro | exact True.intro | exact congrArg (fun x => DV.v (.int .i64 x)) (up64 hlt' hn) | rfl | (intro k hk; exact push_at rfl _ _ _ _ k hk)
  · cbv; try (subst hA; repeat' first | apply And.intro | exact True.intro | rfl)
  · cbv
theorem c_frTxn (x : TxnT) : Meets Try.prog 89 [xd (eTxn x), xd (eTxn x)] ⟨.one (.c (.d (eB true))), [none, none]⟩ := by
  obtain ⟨m, ⟨n, g, hn⟩, ⟨n2, g2, hn2⟩⟩ := x
  have hP := c_frPanes n hn g
  have hL := c_frLates n2 hn2 g2
  show Meets _ _ [xd [eI m, .sl 9 n fun i => ePane (g i), .sl 7 n2 fun i => eLat (g2 i)], xd [eI m, .sl 9 n fun i => ePane (g i), .sl 7 n2 fun i => eLat (g2 i)]] _
  refine meets_of (H := []) (EX := EXA) ttok mixed Try.func89 rfl (by kernel_rfl) (by decide) ?_
  generalize hA : real = A
  generalize hM : MeetsB Try.prog = M
  cbv
  repeat' first
    | apply And.intro
    | exact True.intro
    | with_reducible rfl
    | exact same_of hA rfl
    | refine br_of hA (fun _ => ?_) (fun _ => ?_)
    | exact imp_of hA id
    | (refine imp_of hA ?_; subst hA; simp only [real, Bool.true_and]; exact id)
    | (refine ind_of hA ?_; decide +kernel)
    | (refine call_of hA hM _ hP ?_; cbv)
    | (refine call_of hA hM _ hL ?_; cbv)
  all_goals
    subst hA
    refine congrArg (fun b => XA.one (.c (.d (eB b)))) ?_
    show (bif (bif (m == m) then true else false) then true else false) = true
    simp
def st_frTask (t : TskT) (i : Nat) : St := ⟨[(5, .c (.d (eI i))), (3, .c (.bp 192 1 0)), (2, .c (.bp 128 1 0))], [(192, 1, .box ((eTsk t).map .d)), (128, 1, .box ((eTsk t).map .d))]⟩
theorem c_frTask (t : TskT) : Meets Try.prog 40 [xd (eTsk t), xd (eTsk t)] ⟨.one (.c (.d (eB true))), [none, none]⟩ := by
  have hT := c_frTxn t.pend
  have hO := c_frOp t.op.mark t.op.rows.n t.op.rows.hn t.op.rows.g
  have hnL := t.ins.hn
  refine meets_of (H := []) (EX := EXA) ttok mixed Try.func40 rfl (by kernel_rfl) (by decide) ?_
  generalize hA : real = A
  generalize hM : MeetsB Try.prog = M
  cbv
  repeat' first
    | (refine br_f hA ?_ ?_; focus (subst hA; simp [real]; done))
    | apply And.intro
    | exact True.intro
    | with_reducible rfl
    | exact same_of hA rfl
    | refine br_of hA (fun _ => ?_) (fun _ => ?_)
    | exact imp_of hA id
    | (refine imp_of hA ?_; subst hA; simp only [real, Bool.true_and]; exact id)
    | (refine ind_of hA ?_; decide +kernel)
    | (refine call_of hA hM _ hT ?_; cbv)
    | (refine call_of hA hM _ hO ?_; cbv)
  refine loop_of hA (α := { i : Nat // i ≤ t.ins.n }) (fun x => st_frTask t x.1) (fun x => t.ins.n - x.1) ⟨0, Nat.zero_le _⟩ ?_ ?_
  · refine cov_of ?_ ?_ ?_
    · cbv; try (subst hA; repeat' first | apply And.intro | exact True.intro | rfl)
    · cbv; try (subst hA; repeat' first | apply And.intro | exact True.intro | rfl)
    · cbv
  rintro ⟨i, hi⟩
  have hi : i ≤ t.ins.n := hi
  have hQ := c_frItems (t.ins.g i).queue.n (t.ins.g i).queue.hn (t.ins.g i).queue.g
  cbv
  repeat' first
    | (refine br_f hA ?_ ?_; focus (clear hQ; subst hA; have e1 : real.nat (Int.ofNat i) = i := rfl; simp [real]; done))
    | apply And.intro
    | exact True.intro
    | with_reducible rfl
    | exact same_of hA rfl
    | refine br_of hA (fun _ => ?_) (fun _ => ?_)
    | exact imp_of hA id
    | (refine imp_of hA ?_; subst hA; simp only [real, Bool.true_and]; exact id)
    | (refine ind_of hA ?_; decide +kernel)
    | (refine call_of2 hA hM _ hQ (by (subst hA; first | rfl | (simp only [sub0r]; try rfl))) ?_; cbv)
    | (refine inb_lt hA ?_; first | exact lt2_of hA (by assumption) | exact lt_of hA (by assumption))
    | (refine inb_of hA (fun _ => ?_); have hlt9 : i < t.ins.n := (by first | exact lt2_of hA (by assumption) | exact lt_of hA (by assumption)); exact ⟨Int.natCast_nonneg i, Int.ofNat_lt.2 hlt9⟩)
  rename_i hlt
  have hlt' : i < t.ins.n := by first | exact lt2_of hA hlt | exact lt_of hA hlt
  refine ⟨⟨i + 1, by omega⟩, by simp only; omega, cov_of ?_ ?_ ?_⟩
  · cbv
    subst hA
    repeat' first | apply And.intro | exact True.intro | exact congrArg (fun x => DV.v (.int .i64 x)) (up64 hlt' hnL) | rfl | (intro k hk; exact push_at rfl _ _ _ _ k hk)
  · cbv; try (subst hA; repeat' first | apply And.intro | exact True.intro | rfl)
  · cbv; try (subst hA; repeat' first | apply And.intro | exact True.intro | rfl | exact .inr trivial | exact .inl trivial)
end Go.Rk
/- Tasks: new. -/
namespace Go.Rk
set_option linter.unusedSimpArgs false
set_option linter.unusedVariables false
open Go.Proofs
set_option maxRecDepth 100000
set_option maxHeartbeats 1000000
def st_new (j : JobT) (mk : Int) (rn : Nat) (rg : Nat → RowT) (n : Nat) (ms : Nat → Int) (i : Nat) (R : Nat → Int) : St := ⟨[(26, .c (.d (eI i))), (25, .c (.d (eI n))), (24, .c (.d (.sl 1 n fun i => [eI (ms i)]))), (7, .c (.bp 448 1 0)), (6, .c (.bp 384 1 0))], [(2240, 1, .arr 3 i fun q => [.v nilS, eI (R q), eB false]), (448, 1, .box [.own 2240 0 i 1, .d (eI mk), .own 1409 0 rn 1, .d (eI 0), .d (eI 0), .d (.v nilS), .d (.v nilS)]), (1409, 1, .arr 13 rn fun q => eRow (rg q)), (384, 1, .box [.d (.v nilS), .d (eI 0), .d (.v nilS), .d (eI 0), .d (eI 0), .d (.v nilS), .d (.v nilS)])]⟩
theorem c_TskNew_ok (j : JobT) (s : OpStT) (hn : s.rows.n ≤ 1080000) (ms : Sl Int) (h : OpOkP j s ∧ MarksP j ms) : Meets Try.prog 39 [xd (eJob j), .agg [.d (eI s.mark), .d (.sl 13 s.rows.n fun i => eRow (s.rows.g i))], .c (.d (.sl 1 ms.n fun i => [eI (ms.g i)]))] ⟨.one (.agg [.own 3 ms.n fun i => [.v nilS, eI (ms.g i), eB false], .d (eI s.mark), .own 13 s.rows.n fun i => eRow (s.rows.g i), .d (eI 0), .d (eI 0), .d (.v nilS), .d (.v nilS)]), [none, none, none]⟩ := by
  obtain ⟨bo, hbo, hO⟩ := c_OpOk j s
  have cC := c_copied s.mark s.rows.n hn s.rows.g
  have hmL := ms.hn
  obtain ⟨bm, hbm, hM9⟩ := c_marksOk j ms
  refine meets_of (H := [9]) (EX := EXA) ttok mixed Try.func39 rfl (by kernel_rfl) (by decide) ?_
  generalize hA : real = A
  generalize hM : MeetsB Try.prog = M
  cbv
  have hgd : ∀ {A : Ar}, real = A → A.bite (A.bnot bo) true (A.bnot bm) = false → OpOkP j s ∧ MarksP j ms := fun hA h => by
    subst hA
    have h : (bif (!bo) then true else (!bm)) = false := h
    cases h1 : bo with
    | false => rw [h1] at h; cases h
    | true => rw [h1] at h; exact ⟨hbo.1 h1, hbm.1 (by simpa using h)⟩
  have hbd : ∀ {A : Ar}, real = A → A.bite (A.bnot bo) true (A.bnot bm) = true → False := fun hA h9 => by
    subst hA
    have h9 : (bif (!bo) then true else (!bm)) = true := h9
    rw [hbo.2 h.1, hbm.2 h.2] at h9
    simp at h9
  repeat' first
    | apply And.intro
    | exact True.intro
    | with_reducible rfl
    | exact same_of hA rfl
    | refine br_of hA (fun _ => ?_) (fun _ => ?_)
    | exact imp_of hA id
    | (refine imp_of hA ?_; subst hA; simp only [real, Bool.true_and]; exact id)
    | (refine ind_of hA ?_; decide +kernel)
    | (refine call_of hA hM _ hO ?_; cbv)
    | (refine call_of hA hM _ cC ?_; cbv)
    | (refine call_of hA hM _ hM9 ?_; cbv)
    | (refine (hbd hA ?_).elim; assumption)
    | fail
  have hms := h.2.1
  have hj1 := h.1.1.1
  have hsm : ms.n ≤ 3 := by omega
  refine loop_of hA (α := { y : Nat × (Nat → Int) // y.1 ≤ ms.n ∧ (∀ q, q < y.1 → y.2 q = ms.g q) }) (fun y => st_new j s.mark s.rows.n s.rows.g ms.n ms.g y.1.1 y.1.2) (fun y => ms.n - y.1.1) ⟨(0, fun _ => 0), Nat.zero_le _, fun q hq => absurd hq (Nat.not_lt_zero q)⟩ ?_ ?_
  · refine cov_promC 448 2240 1 3 (fun q => [.v nilS, eI 0, eB false]) [] [.d (eI s.mark), .own 1409 0 s.rows.n 1, .d (eI 0), .d (eI 0), .d (.v nilS), .d (.v nilS)] rfl rfl rfl (cov_of ?_ ?_ ?_)
    · cbv; try (subst hA; repeat' first | apply And.intro | exact True.intro | rfl)
    · cbv; try (subst hA; repeat' first | apply And.intro | exact True.intro | rfl | (intro k hk; exact absurd hk (Nat.not_lt_zero k)) | (intro _ _; rfl))
    · cbv; try (subst hA; repeat' first | apply And.intro | exact True.intro | rfl | exact .inr trivial | exact .inl trivial)
  rintro ⟨⟨i, R⟩, hi, hR⟩
  have hi : i ≤ ms.n := hi
  have hR : ∀ q, q < i → R q = ms.g q := hR
  have hltS : ∀ {A : Ar}, real = A → A.cmp .lss (Int.ofNat i) j.srcs = true → i < ms.n := fun hA h => by
    subst hA
    have h : decide ((i : Int) < j.srcs) = true := h
    have h := of_decide_eq_true h
    omega
  have hgeS : ∀ {A : Ar}, real = A → A.cmp .lss (Int.ofNat i) j.srcs = false → ms.n ≤ i := fun hA h => by
    subst hA
    have h : decide ((i : Int) < j.srcs) = false := h
    have h := of_decide_eq_false h
    omega
  cbv
  repeat' first
    | apply And.intro
    | exact True.intro
    | with_reducible rfl
    | exact same_of hA rfl
    | refine br_of hA (fun _ => ?_) (fun _ => ?_)
    | exact imp_of hA id
    | (refine imp_of hA ?_; subst hA; simp only [real, Bool.true_and]; exact id)
    | (refine ind_of hA ?_; decide +kernel)
    | (refine inb_lt hA ?_; first | exact lt2_of hA (by assumption) | exact lt_of hA (by assumption) | exact hltS hA (by assumption))
    | (refine inb_of hA (fun _ => ?_); have hlt9 : i < ms.n := (by first | exact lt2_of hA (by assumption) | exact lt_of hA (by assumption) | exact hltS hA (by assumption)); exact ⟨Int.natCast_nonneg i, Int.ofNat_lt.2 hlt9⟩)
    | exact room_add2 hA (by omega) (by decide)
    | exact room_n hA (by omega) (by decide)
    | fail
  · have hlt' : i < ms.n := by first | exact lt2_of hA (by assumption) | exact lt_of hA (by assumption) | exact hltS hA (by assumption)
    refine ⟨⟨(i + 1, fun q => if q < i then R q else ms.g i), hlt', fun q hq => ?_⟩, by simp only; omega, cov_of ?_ ?_ ?_⟩
    · simp only at hq ⊢
      by_cases e : q < i
      · rw [if_pos e]; exact hR q e
      · rw [if_neg e, show q = i by omega]
    · subst hA; (repeat' first | exact True.intro | exact rfl | exact congrArg (fun x => DV.v (.int .i64 x)) (up64 hlt' hmL) | apply And.intro)
    · subst hA
      (repeat' first | exact True.intro | exact rfl | apply And.intro | (intro _ _; first | rfl | trivial))
      all_goals
        intro q hq
        refine (push_at rfl i (fun q => [.v nilS, eI (R q), eB false]) _ _ q hq).trans ?_
        by_cases e : q < i
        · rw [if_pos e]
          show _ = [DV.v nilS, eI (if q < i then R q else ms.g i), eB false]
          rw [if_pos e]
        · rw [if_neg e]
          show _ = [DV.v nilS, eI (if q < i then R q else ms.g i), eB false]
          rw [if_neg e]; rfl
    · subst hA; (repeat' first | exact True.intro | exact rfl | apply And.intro | exact .inl rfl | exact .inr (le_of_nble rfl))
  · have hge' : ms.n ≤ i := by first | exact ge2_of hA (by assumption) | exact ge_of hA (by assumption) | exact hgeS hA (by assumption)
    have hin : i = ms.n := Nat.le_antisymm hi hge'
    subst hin
    refine stop_of hA ⟨[(7, .c (.bp 448 1 0)), (6, .c (.bp 384 1 0))], [(2240, 1, .arr 3 ms.n fun q => [.v nilS, eI (ms.g q), eB false]), (448, 1, .box [.own 2240 0 ms.n 1, .d (eI s.mark), .own 1409 0 s.rows.n 1, .d (eI 0), .d (eI 0), .d (.v nilS), .d (.v nilS)]), (1409, 1, .arr 13 s.rows.n fun q => eRow (s.rows.g q)), (384, 1, .box [.d (.v nilS), .d (eI 0), .d (.v nilS), .d (eI 0), .d (eI 0), .d (.v nilS), .d (.v nilS)])]⟩ (cov_of ?_ ?_ ?_) ?_
    · cbv
    · cbv
      exact ⟨fun q hq => by rw [hR q hq], by repeat' first | exact True.intro | exact rfl | apply And.intro | (intro _ _; rfl)⟩
    · cbv
    cbv
    repeat' first
      | apply And.intro
      | exact True.intro
      | with_reducible rfl
      | exact same_of hA rfl
      | refine br_of hA (fun _ => ?_) (fun _ => ?_)
      | exact imp_of hA id
      | (refine imp_of hA ?_; subst hA; simp only [real, Bool.true_and]; exact id)
      | (refine ind_of hA ?_; decide +kernel)
      | fail
theorem c_TskNew_bad (j : JobT) (s : OpStT) (hn : s.rows.n ≤ 1080000) (ms : Sl Int) (h : ¬ (OpOkP j s ∧ MarksP j ms)) : Meets Try.prog 39 [xd (eJob j), .agg [.d (eI s.mark), .d (.sl 13 s.rows.n fun i => eRow (s.rows.g i))], .c (.d (.sl 1 ms.n fun i => [eI (ms.g i)]))] ⟨.one (.agg [.d (.v nilS), .d (eI 0), .d (.v nilS), .d (eI 0), .d (eI 0), .d (.v nilS), .d (.v nilS)]), [none, none, none]⟩ := by
  obtain ⟨bo, hbo, hO⟩ := c_OpOk j s
  have cC := c_copied s.mark s.rows.n hn s.rows.g
  have hmL := ms.hn
  obtain ⟨bm, hbm, hM9⟩ := c_marksOk j ms
  refine meets_of (H := [9]) (EX := EXA) ttok mixed Try.func39 rfl (by kernel_rfl) (by decide) ?_
  generalize hA : real = A
  generalize hM : MeetsB Try.prog = M
  cbv
  have hgd : ∀ {A : Ar}, real = A → A.bite (A.bnot bo) true (A.bnot bm) = false → OpOkP j s ∧ MarksP j ms := fun hA h => by
    subst hA
    have h : (bif (!bo) then true else (!bm)) = false := h
    cases h1 : bo with
    | false => rw [h1] at h; cases h
    | true => rw [h1] at h; exact ⟨hbo.1 h1, hbm.1 (by simpa using h)⟩
  repeat' first
    | apply And.intro
    | exact True.intro
    | with_reducible rfl
    | exact same_of hA rfl
    | refine br_of hA (fun _ => ?_) (fun _ => ?_)
    | exact imp_of hA id
    | (refine imp_of hA ?_; subst hA; simp only [real, Bool.true_and]; exact id)
    | (refine ind_of hA ?_; decide +kernel)
    | (refine call_of hA hM _ hO ?_; cbv)
    | (refine call_of hA hM _ cC ?_; cbv)
    | (refine call_of hA hM _ hM9 ?_; cbv)
    | (refine (h (hgd hA ?_)).elim; assumption)
    | fail
def st_snew (j : JobT) (mk : Int) (rn : Nat) (rg : Nat → RowT) (n : Nat) (ms : Nat → Int) (i : Nat) (R : Nat → Int) : St := ⟨[(8, .c (.d (eI i))), (2, .c (.d (.sl 1 n fun i => [eI (ms i)]))), (3, .c (.bp 192 1 0)), (7, .c (.bp 448 1 0)), (6, .c (.bp 384 1 0))], [(192, 1, .box ((eJob j).map .d)), (2880, 1, .arr 3 i fun q => [.v nilS, eI (R q), eB false]), (448, 1, .box [.own 2880 0 i 1, .d (eI mk), .own 1409 0 rn 1, .d (eI 0), .d (eI 0), .d (.v nilS), .d (.v nilS)]), (1409, 1, .arr 13 rn fun q => eRow (rg q)), (384, 1, .box [.d (.v nilS), .d (eI 0), .d (.v nilS), .d (eI 0), .d (eI 0), .d (.v nilS), .d (.v nilS)])]⟩
theorem c_sTskNew_ok (j : JobT) (s : OpStT) (hn : s.rows.n ≤ 1080000) (ms : Sl Int) (h : OpOkP j s ∧ MarksP j ms) : Meets Try.prog 41 [xd (eJob j), .agg [.d (eI s.mark), .d (.sl 13 s.rows.n fun i => eRow (s.rows.g i))], .c (.d (.sl 1 ms.n fun i => [eI (ms.g i)]))] ⟨.one (.agg [.own 3 ms.n fun i => [.v nilS, eI (ms.g i), eB false], .d (eI s.mark), .own 13 s.rows.n fun i => eRow (s.rows.g i), .d (eI 0), .d (eI 0), .d (.v nilS), .d (.v nilS)]), [none, none, none]⟩ := by
  obtain ⟨bo, hbo, hO⟩ := c_sOpOk j s
  have cC := c_sCopy s.mark s.rows.n hn s.rows.g
  have hmL := ms.hn
  refine meets_of (H := [10]) (EX := EXA) ttok mixed Try.func41 rfl (by kernel_rfl) (by decide) ?_
  generalize hA : real = A
  generalize hM : MeetsB Try.prog = M
  cbv
  have hgd : ∀ {A : Ar}, real = A → A.bite (A.bnot bo) true (A.cmp .neq (A.int ms.n) j.srcs) = false → OpOkP j s ∧ (ms.n : Int) = j.srcs := fun hA h => by
    subst hA
    have h : (bif (!bo) then true else ((ms.n : Int) != j.srcs)) = false := h
    cases h1 : bo with
    | false => rw [h1] at h; cases h
    | true => rw [h1] at h; exact ⟨hbo.1 h1, by simpa using h⟩
  have hbd : ∀ {A : Ar}, real = A → A.bite (A.bnot bo) true (A.cmp .neq (A.int ms.n) j.srcs) = true → False := fun hA h9 => by
    subst hA
    have h9 : (bif (!bo) then true else ((ms.n : Int) != j.srcs)) = true := h9
    rw [hbo.2 h.1, h.2.1] at h9
    simp at h9
  repeat' first
    | apply And.intro
    | exact True.intro
    | with_reducible rfl
    | exact same_of hA rfl
    | refine br_of hA (fun _ => ?_) (fun _ => ?_)
    | exact imp_of hA id
    | (refine imp_of hA ?_; subst hA; simp only [real, Bool.true_and]; exact id)
    | (refine ind_of hA ?_; decide +kernel)
    | (refine call_of hA hM _ hO ?_; cbv)
    | (refine call_of hA hM _ cC ?_; cbv)
    | (refine (hbd hA ?_).elim; assumption)
    | fail
  have hms := h.2.1
  have hj1 := h.1.1.1
  have hsm : ms.n ≤ 3 := by omega
  refine loop_of hA (α := { y : Nat × (Nat → Int) // y.1 ≤ ms.n ∧ (∀ q, q < y.1 → y.2 q = ms.g q) }) (fun y => st_snew j s.mark s.rows.n s.rows.g ms.n ms.g y.1.1 y.1.2) (fun y => ms.n - y.1.1) ⟨(0, fun _ => 0), Nat.zero_le _, fun q hq => absurd hq (Nat.not_lt_zero q)⟩ ?_ ?_
  · refine cov_promC 448 2880 1 3 (fun q => [.v nilS, eI 0, eB false]) [] [.d (eI s.mark), .own 1409 0 s.rows.n 1, .d (eI 0), .d (eI 0), .d (.v nilS), .d (.v nilS)] rfl rfl rfl (cov_of ?_ ?_ ?_)
    · cbv; try (subst hA; repeat' first | apply And.intro | exact True.intro | rfl)
    · cbv; try (subst hA; repeat' first | apply And.intro | exact True.intro | rfl | (intro k hk; exact absurd hk (Nat.not_lt_zero k)) | (intro _ _; rfl))
    · cbv; try (subst hA; repeat' first | apply And.intro | exact True.intro | rfl | exact .inr trivial | exact .inl trivial)
  rintro ⟨⟨i, R⟩, hi, hR⟩
  have hi : i ≤ ms.n := hi
  have hR : ∀ q, q < i → R q = ms.g q := hR
  have hltS : ∀ {A : Ar}, real = A → A.cmp .lss (Int.ofNat i) j.srcs = true → i < ms.n := fun hA h => by
    subst hA
    have h : decide ((i : Int) < j.srcs) = true := h
    have h := of_decide_eq_true h
    omega
  have hgeS : ∀ {A : Ar}, real = A → A.cmp .lss (Int.ofNat i) j.srcs = false → ms.n ≤ i := fun hA h => by
    subst hA
    have h : decide ((i : Int) < j.srcs) = false := h
    have h := of_decide_eq_false h
    omega
  obtain ⟨b9, hb9, hIn⟩ := c_l1In (ms.g i) 0 1000
  have hneg : i < ms.n → ∀ {A : Ar}, real = A → A.bnot b9 = true → False := fun hlt9 {A} hA h9 => by
    have e9 : b9 = true := by rw [hb9]; exact decide_eq_true (h.2.2 i hlt9)
    rw [e9] at h9
    subst hA
    cases h9
  cbv
  repeat' first
    | apply And.intro
    | exact True.intro
    | with_reducible rfl
    | exact same_of hA rfl
    | refine br_of hA (fun _ => ?_) (fun _ => ?_)
    | exact imp_of hA id
    | (refine imp_of hA ?_; subst hA; simp only [real, Bool.true_and]; exact id)
    | (refine ind_of hA ?_; decide +kernel)
    | (refine inb_lt hA ?_; first | exact lt2_of hA (by assumption) | exact lt_of hA (by assumption) | exact hltS hA (by assumption))
    | (refine inb_of hA (fun _ => ?_); have hlt9 : i < ms.n := (by first | exact lt2_of hA (by assumption) | exact lt_of hA (by assumption) | exact hltS hA (by assumption)); exact ⟨Int.natCast_nonneg i, Int.ofNat_lt.2 hlt9⟩)
    | exact room_add2 hA (by omega) (by decide)
    | exact room_n hA (by omega) (by decide)
    | (refine call_of2 hA hM _ hIn (by (subst hA; first | rfl | (simp only [sub0r]; try rfl))) ?_; cbv)
    | (refine (hneg ?_ hA ?_).elim; (focus (first | exact lt2_of hA (by assumption) | exact lt_of hA (by assumption) | exact hltS hA (by assumption))); assumption)
    | fail
  · have hlt' : i < ms.n := by first | exact lt2_of hA (by assumption) | exact lt_of hA (by assumption) | exact hltS hA (by assumption)
    refine ⟨⟨(i + 1, fun q => if q < i then R q else ms.g i), hlt', fun q hq => ?_⟩, by simp only; omega, cov_of ?_ ?_ ?_⟩
    · simp only at hq ⊢
      by_cases e : q < i
      · rw [if_pos e]; exact hR q e
      · rw [if_neg e, show q = i by omega]
    · subst hA; (repeat' first | exact True.intro | exact rfl | exact congrArg (fun x => DV.v (.int .i64 x)) (up64 hlt' hmL) | apply And.intro)
    · subst hA
      (repeat' first | exact True.intro | exact rfl | apply And.intro | (intro _ _; first | rfl | trivial))
      all_goals
        intro q hq
        refine (push_at rfl i (fun q => [.v nilS, eI (R q), eB false]) _ _ q hq).trans ?_
        by_cases e : q < i
        · rw [if_pos e]
          show _ = [DV.v nilS, eI (if q < i then R q else ms.g i), eB false]
          rw [if_pos e]
        · rw [if_neg e]
          show _ = [DV.v nilS, eI (if q < i then R q else ms.g i), eB false]
          rw [if_neg e]; rfl
    · subst hA; (repeat' first | exact True.intro | exact rfl | apply And.intro | exact .inl rfl | exact .inr (le_of_nble rfl))
  · have hge' : ms.n ≤ i := by first | exact ge2_of hA (by assumption) | exact ge_of hA (by assumption) | exact hgeS hA (by assumption)
    have hin : i = ms.n := Nat.le_antisymm hi hge'
    subst hin
    refine stop_of hA ⟨[(7, .c (.bp 448 1 0)), (6, .c (.bp 384 1 0))], [(2880, 1, .arr 3 ms.n fun q => [.v nilS, eI (ms.g q), eB false]), (448, 1, .box [.own 2880 0 ms.n 1, .d (eI s.mark), .own 1409 0 s.rows.n 1, .d (eI 0), .d (eI 0), .d (.v nilS), .d (.v nilS)]), (1409, 1, .arr 13 s.rows.n fun q => eRow (s.rows.g q)), (384, 1, .box [.d (.v nilS), .d (eI 0), .d (.v nilS), .d (eI 0), .d (eI 0), .d (.v nilS), .d (.v nilS)])]⟩ (cov_of ?_ ?_ ?_) ?_
    · cbv
    · cbv
      exact ⟨fun q hq => by rw [hR q hq], by repeat' first | exact True.intro | exact rfl | apply And.intro | (intro _ _; rfl)⟩
    · cbv
    cbv
    repeat' first
      | apply And.intro
      | exact True.intro
      | with_reducible rfl
      | exact same_of hA rfl
      | refine br_of hA (fun _ => ?_) (fun _ => ?_)
      | exact imp_of hA id
      | (refine imp_of hA ?_; subst hA; simp only [real, Bool.true_and]; exact id)
      | (refine ind_of hA ?_; decide +kernel)
      | fail
theorem c_sTskNew_bad (j : JobT) (s : OpStT) (hn : s.rows.n ≤ 1080000) (ms : Sl Int) (h : ¬ (OpOkP j s ∧ MarksP j ms)) : Meets Try.prog 41 [xd (eJob j), .agg [.d (eI s.mark), .d (.sl 13 s.rows.n fun i => eRow (s.rows.g i))], .c (.d (.sl 1 ms.n fun i => [eI (ms.g i)]))] ⟨.one (.agg [.d (.v nilS), .d (eI 0), .d (.v nilS), .d (eI 0), .d (eI 0), .d (.v nilS), .d (.v nilS)]), [none, none, none]⟩ := by
  obtain ⟨bo, hbo, hO⟩ := c_sOpOk j s
  have cC := c_sCopy s.mark s.rows.n hn s.rows.g
  have hmL := ms.hn
  refine meets_of (H := [10]) (EX := EXA) ttok mixed Try.func41 rfl (by kernel_rfl) (by decide) ?_
  generalize hA : real = A
  generalize hM : MeetsB Try.prog = M
  cbv
  have hgd : ∀ {A : Ar}, real = A → A.bite (A.bnot bo) true (A.cmp .neq (A.int ms.n) j.srcs) = false → OpOkP j s ∧ (ms.n : Int) = j.srcs := fun hA h => by
    subst hA
    have h : (bif (!bo) then true else ((ms.n : Int) != j.srcs)) = false := h
    cases h1 : bo with
    | false => rw [h1] at h; cases h
    | true => rw [h1] at h; exact ⟨hbo.1 h1, by simpa using h⟩
  repeat' first
    | apply And.intro
    | exact True.intro
    | with_reducible rfl
    | exact same_of hA rfl
    | refine br_of hA (fun _ => ?_) (fun _ => ?_)
    | exact imp_of hA id
    | (refine imp_of hA ?_; subst hA; simp only [real, Bool.true_and]; exact id)
    | (refine ind_of hA ?_; decide +kernel)
    | (refine call_of hA hM _ hO ?_; cbv)
    | (refine call_of hA hM _ cC ?_; cbv)
    | fail
  obtain ⟨hok, hms⟩ := hgd hA (by assumption)
  have hj1 := hok.1.1
  have hms : (ms.n : Int) = j.srcs := hms
  have hsm : ms.n ≤ 3 := by omega
  refine loop_of hA (α := { y : Nat × (Nat → Int) // y.1 ≤ ms.n ∧ (∀ q, q < y.1 → y.2 q = ms.g q) ∧ ∀ q, q < y.1 → 0 ≤ ms.g q ∧ ms.g q ≤ 1000 }) (fun y => st_snew j s.mark s.rows.n s.rows.g ms.n ms.g y.1.1 y.1.2) (fun y => ms.n - y.1.1) ⟨(0, fun _ => 0), Nat.zero_le _, fun q hq => absurd hq (Nat.not_lt_zero q), fun q hq => absurd hq (Nat.not_lt_zero q)⟩ ?_ ?_
  · refine cov_promC 448 2880 1 3 (fun q => [.v nilS, eI 0, eB false]) [] [.d (eI s.mark), .own 1409 0 s.rows.n 1, .d (eI 0), .d (eI 0), .d (.v nilS), .d (.v nilS)] rfl rfl rfl (cov_of ?_ ?_ ?_)
    · cbv; try (subst hA; repeat' first | apply And.intro | exact True.intro | rfl)
    · cbv; try (subst hA; repeat' first | apply And.intro | exact True.intro | rfl | (intro k hk; exact absurd hk (Nat.not_lt_zero k)) | (intro _ _; rfl))
    · cbv; try (subst hA; repeat' first | apply And.intro | exact True.intro | rfl | exact .inr trivial | exact .inl trivial)
  rintro ⟨⟨i, R⟩, hi, hR, hV⟩
  have hi : i ≤ ms.n := hi
  have hR : ∀ q, q < i → R q = ms.g q := hR
  have hltS : ∀ {A : Ar}, real = A → A.cmp .lss (Int.ofNat i) j.srcs = true → i < ms.n := fun hA h => by
    subst hA
    have h : decide ((i : Int) < j.srcs) = true := h
    have h := of_decide_eq_true h
    omega
  have hgeS : ∀ {A : Ar}, real = A → A.cmp .lss (Int.ofNat i) j.srcs = false → ms.n ≤ i := fun hA h => by
    subst hA
    have h : decide ((i : Int) < j.srcs) = false := h
    have h := of_decide_eq_false h
    omega
  obtain ⟨b9, hb9, hIn⟩ := c_l1In (ms.g i) 0 1000
  cbv
  repeat' first
    | apply And.intro
    | exact True.intro
    | with_reducible rfl
    | exact same_of hA rfl
    | refine br_of hA (fun _ => ?_) (fun _ => ?_)
    | exact imp_of hA id
    | (refine imp_of hA ?_; subst hA; simp only [real, Bool.true_and]; exact id)
    | (refine ind_of hA ?_; decide +kernel)
    | (refine inb_lt hA ?_; first | exact lt2_of hA (by assumption) | exact lt_of hA (by assumption) | exact hltS hA (by assumption))
    | (refine inb_of hA (fun _ => ?_); have hlt9 : i < ms.n := (by first | exact lt2_of hA (by assumption) | exact lt_of hA (by assumption) | exact hltS hA (by assumption)); exact ⟨Int.natCast_nonneg i, Int.ofNat_lt.2 hlt9⟩)
    | exact room_add2 hA (by omega) (by decide)
    | exact room_n hA (by omega) (by decide)
    | (refine call_of2 hA hM _ hIn (by (subst hA; first | rfl | (simp only [sub0r]; try rfl))) ?_; cbv)
    | fail
  · have hlt' : i < ms.n := by first | exact lt2_of hA (by assumption) | exact lt_of hA (by assumption) | exact hltS hA (by assumption)
    refine ⟨⟨(i + 1, fun q => if q < i then R q else ms.g i), hlt', fun q hq => ?_, fun q hq => ?_⟩, by simp only; omega, cov_of ?_ ?_ ?_⟩
    · simp only at hq ⊢
      by_cases e : q < i
      · rw [if_pos e]; exact hR q e
      · rw [if_neg e, show q = i by omega]
    · simp only at hq
      by_cases e : q < i
      · exact hV q e
      · have e2 : q = i := by omega
        rw [e2]
        rename_i h9
        have h9 : b9 = true := by subst hA; simpa [real] using h9
        rw [hb9] at h9
        exact of_decide_eq_true h9
    · subst hA; (repeat' first | exact True.intro | exact rfl | exact congrArg (fun x => DV.v (.int .i64 x)) (up64 hlt' hmL) | apply And.intro)
    · subst hA
      (repeat' first | exact True.intro | exact rfl | apply And.intro | (intro _ _; first | rfl | trivial))
      all_goals
        intro q hq
        refine (push_at rfl i (fun q => [.v nilS, eI (R q), eB false]) _ _ q hq).trans ?_
        by_cases e : q < i
        · rw [if_pos e]
          show _ = [DV.v nilS, eI (if q < i then R q else ms.g i), eB false]
          rw [if_pos e]
        · rw [if_neg e]
          show _ = [DV.v nilS, eI (if q < i then R q else ms.g i), eB false]
          rw [if_neg e]; rfl
    · subst hA; (repeat' first | exact True.intro | exact rfl | apply And.intro | exact .inl rfl | exact .inr (le_of_nble rfl))
  · exfalso
    have hge' : ms.n ≤ i := by first | exact ge2_of hA (by assumption) | exact ge_of hA (by assumption) | exact hgeS hA (by assumption)
    exact h ⟨hok, hms, fun q hq => hV q (by omega)⟩
end Go.Rk
/- Tasks at their beginning, in plain words. -/
namespace Go.Rk
set_option linter.unusedSimpArgs false
set_option linter.unusedVariables false
def zItm : ItmT := ⟨0, 0, 0, 0, 0⟩
/-- A task of an operator and marks. -/
def tskT (s : OpStT) (ms : Sl Int) : TskT := ⟨⟨ms.n, fun i => ⟨⟨0, fun _ => zItm, Nat.zero_le _⟩, ms.g i, false⟩, ms.hn⟩, s, 0, ⟨0, ⟨0, fun _ => zPan, Nat.zero_le _⟩, ⟨0, fun _ => zLat, Nat.zero_le _⟩⟩⟩
def tskZ : TskT := tskT ⟨0, ⟨0, fun _ => zRow, Nat.zero_le _⟩⟩ ⟨0, fun _ => 0, Nat.zero_le _⟩
theorem le_tskT (s : OpStT) (ms : Sl Int) : ALe (.one (.agg [.d (.sl 3 ms.n fun i => [.v nilS, eI (ms.g i), eB false]), .d (eI s.mark), .d (.sl 13 s.rows.n fun i => eRow (s.rows.g i)), .d (eI 0), .d (eI 0), .d (.v nilS), .d (.v nilS)])) (.one (xd (eTsk (tskT s ms)))) :=
  ⟨dle_sl fun i _ => ⟨dle_nil 5 _, DLe.rfl, DLe.rfl, trivial⟩, DLe.rfl, DLe.rfl, DLe.rfl, DLe.rfl, dle_nil 9 _, dle_nil 7 _, trivial⟩
theorem le_tskZ : ALe (.one (.agg [.d (.v nilS), .d (eI 0), .d (.v nilS), .d (eI 0), .d (eI 0), .d (.v nilS), .d (.v nilS)])) (.one (xd (eTsk tskZ))) :=
  ⟨dle_nil 3 _, DLe.rfl, dle_nil 13 _, DLe.rfl, DLe.rfl, dle_nil 9 _, dle_nil 7 _, trivial⟩
theorem cnt_none (n : Nat) : cntB (fun _ => false) n = 0 := by
  induction n with
  | zero => rfl
  | succ n ih => show cntB (fun _ => false) n + _ = 0; rw [ih]; rfl
theorem tskT_held (s : OpStT) (ms : Sl Int) : cntB (fun i => ((tskT s ms).ins.g i).held) (tskT s ms).ins.n = 0 := cnt_none _
theorem tskT_ok {j : JobT} {s : OpStT} {ms : Sl Int} (hok : OpOkP j s) (hm : MarksP j ms) : TskOkP j (tskT s ms) ↔ LowP 1000 ms.n ms.g s.mark := by
  have hj := hok.1
  unfold JobOkP at hj
  have h1 := hm.1
  constructor
  · intro h; exact h.2.2.2.2.2.2.2
  · intro h
    refine ⟨hok, hm.1, ⟨Int.le_refl _, (by decide : (0 : Int) ≤ 900)⟩, ⟨⟨Int.le_refl _, (by decide : (0 : Int) ≤ 900)⟩, (by decide : ((0 : Nat) : Int) ≤ 1500), (by decide : ((0 : Nat) : Int) ≤ 1500), fun i hi => absurd hi (Nat.not_lt_zero i), fun i hi => absurd hi (Nat.not_lt_zero i)⟩, rfl, fun i hi => ⟨?_, hm.2 i hi, fun k hk => absurd hk (Nat.not_lt_zero k)⟩, ?_, h⟩
    · show ((0 : Nat) : Int) ≤ j.room
      have : 1 ≤ j.room := by omega
      exact Int.le_trans (by decide) this
    · rw [tskT_held]
      show 0 < ms.n
      omega
theorem tskZ_bad {j : JobT} : ¬ TskOkP j tskZ := by
  intro h
  have h1 : ((0 : Nat) : Int) = j.srcs := h.2.1
  have hj := h.1.1
  unfold JobOkP at hj
  omega
end Go.Rk
/- The law, walked. -/
namespace Go.Rk
set_option linter.unusedSimpArgs false
set_option linter.unusedVariables false
open Go.Proofs Go.ChangeShapes Go.WideShapes Go.ChangeAt Go.RowKit
set_option maxRecDepth 100000
set_option maxHeartbeats 2000000
theorem x_drawTskNewD (M0 : Nat) (b : Nat → Int) (hb : ∀ i, 0 ≤ b i ∧ b i ≤ 255) : ∃ y : JobT × OpStT × Nat × (Nat → Int), (y.2.1.rows.n ≤ 261 ∧ y.2.2.1 ≤ 5) ∧ Meets Try.prog 38 [.c (.d (.sl 1 M0 fun i => [eU (b i)]))] ⟨.tup [xd (eJob y.1), .agg [.d (eI y.2.1.mark), .d (.sl 13 y.2.1.rows.n fun i => eRow (y.2.1.rows.g i))], .c (.d (.sl 1 y.2.2.1 fun i => [eI (y.2.2.2 i)]))], [none]⟩ := by
  obtain ⟨y, h1, h2⟩ := x_drawTskNew M0 b hb
  exact ⟨y, h1, meets_frz h2 rfl⟩
def st_tn (j : JobT) (s : OpStT) (T : TskT) (n : Nat) (ms : Nat → Int) (i : Nat) : St := ⟨[(7, .c (.d (eI i))), (6, .c (.bp 384 1 0)), (5, .c (.d (.sl 1 n fun i => [eI (ms i)]))), (4, .c (.bp 256 1 0)), (3, .c (.bp 192 1 0))], [(384, 1, .box ((eTsk T).map .d)), (256, 1, .box [.d (eI s.mark), .d (.sl 13 s.rows.n fun i => eRow (s.rows.g i))]), (192, 1, .box ((eJob j).map .d))]⟩
theorem m_law (M0 : Nat) (b : Nat → Int) (hb : ∀ i, 0 ≤ b i ∧ b i ≤ 255) : Meets Try.prog 7 [.c (.d (.sl 1 M0 fun i => [eU (b i)]))] ⟨.one (.c (.d (eB true))), [none]⟩ := by
  refine meets_of (H := []) (EX := EXA) ttok mixed Try.func7 rfl (by kernel_rfl) (by decide) ?_
  generalize hA : real = A
  generalize hM : MeetsB Try.prog = M
  cbv
  repeat' first
    | apply And.intro
    | exact True.intro
    | with_reducible rfl
    | exact same_of hA rfl
    | refine br_of hA (fun _ => ?_) (fun _ => ?_)
    | exact imp_of hA id
    | (refine imp_of hA ?_; subst hA; simp only [real, Bool.true_and]; exact id)
    | (refine ind_of hA ?_; decide +kernel)
    | (refine call_ex hA hM (x_drawTskNewD M0 b hb) ?_; rintro ⟨j, s, n, ms⟩ hs; dsimp only at hs; cbv)
    | fail
  obtain ⟨hs, hn5⟩ := hs
  have hs : s.rows.n ≤ 261 := hs
  have hn5 : n ≤ 5 := hn5
  have hsL : s.rows.n ≤ maxLen := s.rows.hn
  have hnL : n ≤ maxLen := Nat.le_trans hn5 (by decide)
  by_cases hc : OpOkP j s ∧ MarksP j ⟨n, ms, hnL⟩
  · obtain ⟨T, hT⟩ : ∃ T, T = tskT s ⟨n, ms, hnL⟩ := ⟨_, rfl⟩
    have hI : Meets Try.prog 39 [xd (eJob j), .agg [.d (eI s.mark), .d (.sl 13 s.rows.n fun i => eRow (s.rows.g i))], .c (.d (.sl 1 n fun i => [eI (ms i)]))] ⟨.one (xd (eTsk T)), [none, none, none]⟩ := by
      rw [hT]; exact meets_wk (meets_frz (c_TskNew_ok j s (by omega) ⟨n, ms, hnL⟩ hc) rfl) (le_tskT s ⟨n, ms, hnL⟩)
    have hS : Meets Try.prog 41 [xd (eJob j), .agg [.d (eI s.mark), .d (.sl 13 s.rows.n fun i => eRow (s.rows.g i))], .c (.d (.sl 1 n fun i => [eI (ms i)]))] ⟨.one (xd (eTsk T)), [none, none, none]⟩ := by
      rw [hT]; exact meets_wk (meets_frz (c_sTskNew_ok j s (by omega) ⟨n, ms, hnL⟩ hc) rfl) (le_tskT s ⟨n, ms, hnL⟩)
    have hFT := c_frTask T
    have hj := hc.1.1
    unfold JobOkP at hj
    have hn1 : (n : Int) = j.srcs := hc.2.1
    have hn0 : 1 ≤ n := by omega
    have t1 : T.ins.n = n := by rw [hT]; rfl
    have t2 : ∀ i, (T.ins.g i).queue.n = 0 ∧ (T.ins.g i).mark = ms i ∧ (T.ins.g i).held = false := fun i => by rw [hT]; exact ⟨rfl, rfl, rfl⟩
    have t3 : T.op = s := by rw [hT]; rfl
    have t4 : T.wall = 0 := by rw [hT]; rfl
    obtain ⟨bt, hbt, hTO⟩ := c_TskOk j T (by omega)
    obtain ⟨x, hx⟩ := lowP_ex 1000 n ms
    have hx2 : LowP 1000 T.ins.n (fun i => (T.ins.g i).mark) x := by rw [hT]; exact hx
    have hLow := c_TskLow T (by omega) x hx2
    have hsLow := c_sTskLow T x hx2
    obtain ⟨c0, hc0, hHe⟩ := c_TskHeld T
    have hc1 : c0 = 0 := by rw [hc0, hT, tskT_held]; rfl
    have hbx : bt = (x == s.mark) := by
      rw [Bool.eq_iff_iff, hbt, hT, tskT_ok hc.1 hc.2, beq_iff_eq]
      exact ⟨fun h => lowP_one hx h, fun h => by rw [← h]; exact hx⟩
    have hFo : Meets Try.prog 24 [.agg [.d (eI T.op.mark), .d (.sl 13 T.op.rows.n fun i => eRow (T.op.rows.g i))], .agg [.d (eI s.mark), .d (.sl 13 s.rows.n fun i => eRow (s.rows.g i))]] ⟨.one (.c (.d (eB true))), [none, none]⟩ := by
      rw [t3]; exact c_frOp s.mark s.rows.n hsL s.rows.g
    have hne : ∀ {A : Ar}, real = A → A.cmp .eql (A.int T.ins.n) 0 = true → False := fun hA h => by
      subst hA
      have h : ((T.ins.n : Int) == 0) = true := h
      rw [t1] at h
      simp at h
      omega
    repeat' first
      | apply And.intro
      | exact True.intro
      | with_reducible rfl
      | exact same_of hA rfl
      | refine br_of hA (fun _ => ?_) (fun _ => ?_)
      | exact imp_of hA id
      | (refine imp_of hA ?_; subst hA; simp only [real, Bool.true_and]; exact id)
      | (refine ind_of hA ?_; decide +kernel)
      | (refine call_of hA hM _ hI ?_; cbv)
      | (refine call_of hA hM _ hS ?_; cbv)
      | (refine call_of hA hM _ hFT ?_; cbv)
      | (refine (hne hA ?_).elim; assumption)
      | (exfalso; rename_i h; subst hA; simp [real] at h; done)
      | fail
    refine loop_of hA (α := { i : Nat // i ≤ n }) (fun y => st_tn j s T n ms y.1) (fun y => n - y.1) ⟨0, Nat.zero_le _⟩ ?_ ?_
    · refine cov_of ?_ ?_ ?_
      · (subst hA; (repeat' first | exact True.intro | exact rfl | apply And.intro))
      · (subst hA; (repeat' first | exact True.intro | exact rfl | apply And.intro | (intro _ _; first | rfl | trivial)))
      · (subst hA; (repeat' first | exact True.intro | exact rfl | apply And.intro | exact .inl rfl | exact .inr (le_of_nble rfl)))
    rintro ⟨i, hi⟩
    have hi : i ≤ n := hi
    have hlt9 : ∀ {A : Ar}, real = A → A.cmp .lss (Int.ofNat i) (A.int T.ins.n) = true → i < n := fun hA h => by
      have := lt_of hA h
      omega
    have hge9 : ∀ {A : Ar}, real = A → A.cmp .lss (Int.ofNat i) (A.int T.ins.n) = false → n ≤ i := fun hA h => by
      have := ge_of hA h
      omega
    have hbadI : ∀ {A : Ar}, real = A → A.bite (A.bite (A.cmp .gtr (A.int (T.ins.g (A.nat (Int.ofNat i))).queue.n) 0) true (T.ins.g (A.nat (Int.ofNat i))).held) true (A.cmp .neq (T.ins.g (A.nat (Int.ofNat i))).mark (ms (A.nat (Int.ofNat i)))) = true → False := fun hA h => by
      subst hA
      have h : (bif (bif decide (((T.ins.g i).queue.n : Int) > 0) then true else (T.ins.g i).held) then true else ((T.ins.g i).mark != ms i)) = true := h
      obtain ⟨u1, u2, u3⟩ := t2 i
      rw [u1, u2, u3] at h
      simp at h
    cbv
    repeat' first
      | apply And.intro
      | exact True.intro
      | with_reducible rfl
      | exact same_of hA rfl
      | refine br_of hA (fun _ => ?_) (fun _ => ?_)
      | exact imp_of hA id
      | (refine imp_of hA ?_; subst hA; simp only [real, Bool.true_and]; exact id)
      | (refine ind_of hA ?_; decide +kernel)
      | (refine call_of hA hM _ hFo ?_; cbv)
      | (refine call_of hA hM _ hHe ?_; cbv)
      | (refine call_of hA hM _ hTO ?_; cbv)
      | (refine call_of hA hM _ hLow ?_; cbv)
      | (refine call_of hA hM _ hsLow ?_; cbv)
      | (refine inb_of hA (fun _ => ?_); have h99 : i < n := hlt9 hA (by assumption); first | exact ⟨Int.natCast_nonneg i, Int.ofNat_lt.2 h99⟩ | exact ⟨Int.natCast_nonneg i, Int.ofNat_lt.2 (show i < T.ins.n by rw [t1]; exact h99)⟩)
      | (refine (hbadI hA ?_).elim; assumption)
      | fail
    · have hlt' : i < n := hlt9 hA (by assumption)
      refine ⟨⟨i + 1, hlt'⟩, by simp only; omega, cov_of ?_ ?_ ?_⟩
      · (subst hA; (repeat' first | exact True.intro | exact rfl | exact congrArg (fun x => DV.v (.int .i64 x)) (up64 hlt' hnL) | apply And.intro))
      · (subst hA; (repeat' first | exact True.intro | exact rfl | apply And.intro | (intro _ _; first | rfl | trivial)))
      · (subst hA; (repeat' first | exact True.intro | exact rfl | apply And.intro | exact .inl rfl | exact .inr (le_of_nble rfl)))
    · clear hI hS hFT hTO hLow hsLow hHe hFo
      subst hA
      refine congrArg (fun b => XA.one (.c (.d (eB b)))) ?_
      show (bif (bif (bif (bif true then (T.wall == 0) else false) then (c0 == 0) else false) then (bt == (x == s.mark)) else false) then (x == x) else false) = true
      rw [t4, hc1, hbx]
      simp
  · obtain ⟨T, hT⟩ : ∃ T, T = tskZ := ⟨_, rfl⟩
    have hI : Meets Try.prog 39 [xd (eJob j), .agg [.d (eI s.mark), .d (.sl 13 s.rows.n fun i => eRow (s.rows.g i))], .c (.d (.sl 1 n fun i => [eI (ms i)]))] ⟨.one (xd (eTsk T)), [none, none, none]⟩ := by
      rw [hT]; exact meets_wk (c_TskNew_bad j s (by omega) ⟨n, ms, hnL⟩ hc) le_tskZ
    have hS : Meets Try.prog 41 [xd (eJob j), .agg [.d (eI s.mark), .d (.sl 13 s.rows.n fun i => eRow (s.rows.g i))], .c (.d (.sl 1 n fun i => [eI (ms i)]))] ⟨.one (xd (eTsk T)), [none, none, none]⟩ := by
      rw [hT]; exact meets_wk (c_sTskNew_bad j s (by omega) ⟨n, ms, hnL⟩ hc) le_tskZ
    have hFT := c_frTask T
    have t1 : T.ins.n = 0 := by rw [hT]; rfl
    obtain ⟨bt, hbt, hTO⟩ := c_TskOk j T (by omega)
    have hbf : bt = false := by
      cases h : bt with
      | false => rfl
      | true => exact absurd (hbt.1 h) (by rw [hT]; exact tskZ_bad)
    have hne : ∀ {A : Ar}, real = A → A.cmp .eql (A.int T.ins.n) 0 = false → False := fun hA h => by
      subst hA
      have h : ((T.ins.n : Int) == 0) = false := h
      rw [t1] at h
      simp at h
    repeat' first
      | apply And.intro
      | exact True.intro
      | with_reducible rfl
      | exact same_of hA rfl
      | refine br_of hA (fun _ => ?_) (fun _ => ?_)
      | exact imp_of hA id
      | (refine imp_of hA ?_; subst hA; simp only [real, Bool.true_and]; exact id)
      | (refine ind_of hA ?_; decide +kernel)
      | (refine call_of hA hM _ hI ?_; cbv)
      | (refine call_of hA hM _ hS ?_; cbv)
      | (refine call_of hA hM _ hFT ?_; cbv)
      | (refine call_of hA hM _ hTO ?_; cbv)
      | (refine call_of hA hM _ c_frOk ?_; cbv)
      | (refine (hne hA ?_).elim; assumption)
      | (exfalso; rename_i h; subst hA; simp [real] at h; done)
      | fail
    all_goals
      clear hI hS hFT hTO
      subst hA
      subst hbf
      rfl
end Go.Rk
