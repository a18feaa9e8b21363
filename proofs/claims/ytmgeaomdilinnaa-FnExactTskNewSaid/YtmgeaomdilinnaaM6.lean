/- The walk over this seat's functions, part 6: what each of them answers, at all data. -/
import Derived.Test.YtmgeaomdilinnaaM1
import Derived.Test.YtmgeaomdilinnaaM2
import Derived.Test.YtmgeaomdilinnaaM3
import Derived.Test.YtmgeaomdilinnaaM4
import Derived.Test.YtmgeaomdilinnaaM5
/- Operators, as the reference has them. -/
namespace Go.Rk
set_option linter.unusedSimpArgs false
set_option linter.unusedVariables false
open Go.Proofs
def stOks (j : JobT) (mark : Int) (n : Nat) (g : Nat → RowT) (i : Nat) : St := ⟨[(5, .c (.d (eI i))), (2, .c (.bp 128 1 0)), (3, .c (.bp 192 1 0))], [(128, 1, .box ((eJob j).map .d)), (192, 1, .box ([eI mark, .sl 13 n fun i => eRow (g i)].map .d))]⟩
def stOkt (j : JobT) (mark : Int) (n : Nat) (g : Nat → RowT) (i k : Nat) : St := ⟨[(7, .c (.d (eI k))), (5, .c (.d (eI i))), (6, .c (.bp 384 1 0)), (2, .c (.bp 128 1 0)), (3, .c (.bp 192 1 0))], [(384, 1, .box ((eRow (g i)).map .d)), (128, 1, .box ((eJob j).map .d)), (192, 1, .box ([eI mark, .sl 13 n fun i => eRow (g i)].map .d))]⟩
theorem c_l5A (k s e k2 s2 e2 : Int) : ∃ b, (b = true ↔ AheadP k ⟨s, e⟩ k2 ⟨s2, e2⟩) ∧ Meets Try.prog 74 [.c (.d (eI k)), .agg [.d (eI s), .d (eI e)], .c (.d (eI k2)), .agg [.d (eI s2), .d (eI e2)]] ⟨.one (.c (.d (eB b))), [none, none, none, none]⟩ := by
  obtain ⟨b, hb, hm⟩ := c_l5Ahead k s e k2 s2 e2
  exact ⟨b, by rw [hb, decide_eq_true_eq]; exact Iff.rfl, hm⟩
theorem c_sTouchP (s e s2 e2 : Int) : ∃ b, (b = true ↔ TouchP ⟨s, e⟩ ⟨s2, e2⟩) ∧ Meets Try.prog 75 [.agg [.d (eI s), .d (eI e)], .agg [.d (eI s2), .d (eI e2)]] ⟨.one (.c (.d (eB b))), [none, none]⟩ := by
  obtain ⟨b, hb, hm⟩ := c_sWinTouch s e s2 e2
  exact ⟨b, by rw [hb, decide_eq_true_eq]; exact Iff.rfl, hm⟩
open Classical in
set_option maxRecDepth 100000 in
theorem c_sOpOk (j : JobT) (s : OpStT) : ∃ b, (b = true ↔ OpOkP j s) ∧ Meets Try.prog 32 [xd (eJob j), xd (eOpSt s)] ⟨.one (.c (.d (eB b))), [none, none]⟩ := by
  obtain ⟨b, hb⟩ : ∃ b : Bool, (b = true ↔ OpOkP j s) := ⟨decide (OpOkP j s), by rw [decide_eq_true_eq]⟩
  refine ⟨b, hb, ?_⟩
  obtain ⟨mark, n, g, hn⟩ := s
  show Meets Try.prog 32 [xd (eJob j), xd [eI mark, .sl 13 n fun i => eRow (g i)]] _
  refine meets_of (H := []) (EX := EXA) ttok mixed Try.func32 rfl (by kernel_rfl) (by decide) ?_
  generalize hA : real = A
  generalize hM : MeetsB Try.prog = M
  cbv
  repeat' first
    | apply And.intro
    | exact True.intro
    | with_reducible rfl
    | exact same_of hA rfl
    | refine br_of hA (fun _ => ?_) (fun _ => ?_)
    | exact imp_of hA id
    | (refine imp_of hA ?_; subst hA; simp only [real, Bool.true_and]; exact id)
    | (refine ind_of hA ?_; decide +kernel)
    | (refine call_ex hA hM (c_sJobOk _ _ _ _ _ _ _ _ _ _) (fun _ _ => ?_); cbv)
    | (refine call_ex hA hM (c_l1In _ _ _) (fun _ _ => ?_); cbv)
    | fail
  · rename_i hbad
    subst hA; subst_vars
    refine congrArg (fun b => XA.one (.c (.d (eB b)))) ?_
    simp only [real, bifA, bifB, bifC, bifD, beqB, decide_eq_true_eq, decide_eq_false_iff_not, beqI, bneI, beqIF, bneIF, ne_eq, Bool.and_eq_true, Bool.or_eq_true, Bool.not_eq_true', Bool.not_eq_false', Bool.and_eq_false_iff, Bool.or_eq_false_iff, Bool.false_eq_true, and_false, false_and, or_false, false_or, and_true, true_and, not_true_eq_false, not_false_eq_true, true_iff, false_iff, Int.ofNat_eq_natCast, Int.toNat_natCast] at hbad
    cases b with
    | false => rfl
    | true =>
      exfalso
      obtain ⟨h1, h2, h3, _⟩ := hb.1 rfl
      unfold JobOkP at h1
      simp only at h2 h3
      omega
  rename_i hgood
  have hpre : JobOkP j ∧ (0 ≤ mark ∧ mark ≤ 1000) ∧ n ≤ 300 := by
    subst hA; subst_vars
    simp only [real, bifA, bifB, bifC, bifD, beqB, decide_eq_true_eq, decide_eq_false_iff_not, beqI, bneI, beqIF, bneIF, ne_eq, Bool.and_eq_true, Bool.or_eq_true, Bool.not_eq_true', Bool.not_eq_false', Bool.and_eq_false_iff, Bool.or_eq_false_iff, Bool.false_eq_true, and_false, false_and, or_false, false_or, and_true, true_and, not_true_eq_false, not_false_eq_true, true_iff, false_iff, Int.ofNat_eq_natCast, Int.toNat_natCast] at hgood
    unfold JobOkP
    omega
  clear hgood
  refine loop_of hA (α := { i : Nat // i ≤ n ∧ ∀ k, k < i → OkAt j mark g k }) (fun x => stOks j mark n g x.1) (fun x => n - x.1) ⟨0, Nat.zero_le _, fun j h => absurd h (Nat.not_lt_zero _)⟩ ?_ ?_
  · refine cov_of ?_ ?_ ?_
    · cbv; try (subst hA; repeat' first | apply And.intro | exact True.intro | rfl)
    · cbv; try (repeat' first | apply And.intro | exact True.intro | rfl)
    · cbv
  rintro ⟨i, hi, hk⟩
  cbv
  repeat' first
    | apply And.intro
    | exact True.intro
    | with_reducible rfl
    | exact same_of hA rfl
    | refine br_of hA (fun _ => ?_) (fun _ => ?_)
    | exact imp_of hA id
    | (refine imp_of hA ?_; subst hA; simp only [real, Bool.true_and]; exact id)
    | (refine ind_of hA ?_; decide +kernel)
    | (refine call_ex hA hM (c_l7Row _ _ _) (fun _ _ => ?_); cbv)
    | (refine call_ex hA hM (c_l5A _ _ _ _ _ _) (fun _ _ => ?_); cbv)
    | (refine inb_of hA fun _ => ?_; subst hA; simp only [real, Bool.and_eq_true, Bool.not_eq_true', Bool.not_eq_false', decide_eq_true_eq, Int.ofNat_eq_natCast, IntKind.wrap_i64] at *; omega)
    | fail
  · rename_i hlt b1 hb1 b2 hb2 hc
    subst hA
    refine congrArg (fun b => XA.one (.c (.d (eB b)))) ?_
    simp only [real, bifA, bifB, bifC, bifD, beqB, decide_eq_true_eq, decide_eq_false_iff_not, beqI, bneI, beqIF, bneIF, ne_eq, Bool.and_eq_true, Bool.or_eq_true, Bool.not_eq_true', Bool.not_eq_false', Bool.and_eq_false_iff, Bool.or_eq_false_iff, Bool.false_eq_true, and_false, false_and, or_false, false_or, and_true, true_and, not_true_eq_false, not_false_eq_true, true_iff, false_iff, Int.ofNat_eq_natCast, Int.toNat_natCast] at hlt hb1 hb2 hc
    cases b with
    | false => rfl
    | true =>
      exfalso
      have h : OkAt j mark g i := (hb.1 rfl).2.2.2 i (show i < n by omega)
      rcases hc with hc | hc
      · have := hb1.2 h.1; rw [hc] at this; cases this
      · rw [down64 (by omega) (Nat.le_trans hi hn)] at hb2
        have h2 := hb2.2 (h.2.1 (by omega))
        rw [hc.2] at h2
        cases h2
  · rename_i hlt b1 hb1 b2 hb2 hc
    have hlt' : i < n := by subst hA; simp only [real, decide_eq_true_eq, Int.ofNat_eq_natCast] at hlt; omega
    have hrow : RowOkP j (g i) mark ∧ (0 < i → AheadP (g (i - 1)).key (g (i - 1)).win (g i).key (g i).win) := by
      subst hA
      simp only [real, bifA, bifB, bifC, bifD, beqB, decide_eq_true_eq, decide_eq_false_iff_not, beqI, bneI, beqIF, bneIF, ne_eq, Bool.and_eq_true, Bool.or_eq_true, Bool.not_eq_true', Bool.not_eq_false', Bool.and_eq_false_iff, Bool.or_eq_false_iff, Bool.false_eq_true, and_false, false_and, or_false, false_or, and_true, true_and, not_true_eq_false, not_false_eq_true, true_iff, false_iff, Int.ofNat_eq_natCast, Int.toNat_natCast] at hlt hb1 hb2 hc
      refine ⟨hb1.1 (by cases b1 <;> simp_all), fun hp => ?_⟩
      rw [down64 hp (Nat.le_trans hi hn)] at hb2
      rcases hc.2 with h | h
      · omega
      · exact hb2.1 h
    clear hb1 hb2 hc
    refine loop_of hA (α := { k : Nat // k ≤ i ∧ (0 < k → j.kind = 3) ∧ ∀ q, q < k → ¬ ((g q).key = (g i).key ∧ TouchP (g q).win (g i).win) }) (fun x => stOkt j mark n g i x.1) (fun x => i - x.1) ⟨0, Nat.zero_le _, fun h => absurd h (Nat.lt_irrefl _), fun j h => absurd h (Nat.not_lt_zero _)⟩ ?_ ?_
    · refine cov_of ?_ ?_ ?_
      · cbv; try (repeat' first | apply And.intro | exact True.intro | rfl)
      · cbv; try (subst hA; repeat' first | apply And.intro | exact True.intro | rfl)
      · cbv
    rintro ⟨k, hki, hk3, hkq⟩
    cbv
    repeat' first
      | apply And.intro
      | exact True.intro
      | with_reducible rfl
      | exact same_of hA rfl
      | refine br_of hA (fun _ => ?_) (fun _ => ?_)
      | exact imp_of hA id
      | (refine imp_of hA ?_; subst hA; simp only [real, Bool.true_and]; exact id)
      | (refine ind_of hA ?_; decide +kernel)
      | (refine call_ex hA hM (c_sTouchP _ _ _ _) (fun _ _ => ?_); cbv)
      | (refine inb_of hA fun _ => ?_; subst hA; simp only [real, Bool.and_eq_true, Bool.not_eq_true', Bool.not_eq_false', decide_eq_true_eq, Int.ofNat_eq_natCast, IntKind.wrap_i64] at *; omega)
      | fail
    · rename_i hl b3 hb3 hc
      subst hA
      refine congrArg (fun b => XA.one (.c (.d (eB b)))) ?_
      simp only [real, bifA, bifB, bifC, bifD, beqB, decide_eq_true_eq, decide_eq_false_iff_not, beqI, bneI, beqIF, bneIF, ne_eq, Bool.and_eq_true, Bool.or_eq_true, Bool.not_eq_true', Bool.not_eq_false', Bool.and_eq_false_iff, Bool.or_eq_false_iff, Bool.false_eq_true, and_false, false_and, or_false, false_or, and_true, true_and, not_true_eq_false, not_false_eq_true, true_iff, false_iff, Int.ofNat_eq_natCast, Int.toNat_natCast] at hl hc
      cases b with
      | false => rfl
      | true =>
        exfalso
        have h : OkAt j mark g i := (hb.1 rfl).2.2.2 i hlt'
        exact h.2.2 hl.2 k (by omega) ⟨hc.1, hb3.1 hc.2⟩
    · rename_i hl b3 hb3 hc
      have hlk : k < i ∧ j.kind = 3 := by subst hA; simp only [real, bifA, bifB, bifC, bifD, beqB, decide_eq_true_eq, decide_eq_false_iff_not, beqI, bneI, beqIF, bneIF, ne_eq, Bool.and_eq_true, Bool.or_eq_true, Bool.not_eq_true', Bool.not_eq_false', Bool.and_eq_false_iff, Bool.or_eq_false_iff, Bool.false_eq_true, and_false, false_and, or_false, false_or, and_true, true_and, not_true_eq_false, not_false_eq_true, true_iff, false_iff, Int.ofNat_eq_natCast, Int.toNat_natCast] at hl; omega
      refine ⟨⟨k + 1, by omega, fun _ => hlk.2, fun q hq => ?_⟩, by simp only; omega, cov_of ?_ ?_ ?_⟩
      · by_cases e : q = k
        · subst e
          subst hA
          simp only [real, bifA, bifB, bifC, bifD, beqB, decide_eq_true_eq, decide_eq_false_iff_not, beqI, bneI, beqIF, bneIF, ne_eq, Bool.and_eq_true, Bool.or_eq_true, Bool.not_eq_true', Bool.not_eq_false', Bool.and_eq_false_iff, Bool.or_eq_false_iff, Bool.false_eq_true, and_false, false_and, or_false, false_or, and_true, true_and, not_true_eq_false, not_false_eq_true, true_iff, false_iff, Int.ofNat_eq_natCast, Int.toNat_natCast] at hc
          intro hh
          rcases hc with h | h
          · exact h hh.1
          · have := hb3.2 hh.2
            rw [h] at this
            cases this
        · exact hkq q (by omega)
      · cbv
        subst hA
        exact ⟨congrArg (fun x => DV.v (.int .i64 x)) (up64 hlk.1 (Nat.le_trans hi hn)), by repeat' first | apply And.intro | exact True.intro | rfl⟩
      · cbv; try (repeat' first | apply And.intro | exact True.intro | rfl)
      · cbv
    · rename_i hl
      refine ⟨⟨i + 1, by omega, fun q hq => ?_⟩, by simp only; omega, cov_of ?_ ?_ ?_⟩
      · by_cases e : q = i
        · subst e
          refine ⟨hrow.1, hrow.2, fun h3 => ?_⟩
          have : k = q := by
            subst hA
            simp only [real, bifA, bifB, bifC, bifD, beqB, decide_eq_true_eq, decide_eq_false_iff_not, beqI, bneI, beqIF, bneIF, ne_eq, Bool.and_eq_true, Bool.or_eq_true, Bool.not_eq_true', Bool.not_eq_false', Bool.and_eq_false_iff, Bool.or_eq_false_iff, Bool.false_eq_true, and_false, false_and, or_false, false_or, and_true, true_and, not_true_eq_false, not_false_eq_true, true_iff, false_iff, Int.ofNat_eq_natCast, Int.toNat_natCast] at hl
            have hl2 : ¬ (k : Int) < q ∨ ¬ j.kind = 3 := hl
            omega
          subst this
          exact hkq
        · exact hk q (by omega)
      · cbv
        subst hA
        exact ⟨congrArg (fun x => DV.v (.int .i64 x)) (up64 hlt' hn), by repeat' first | apply And.intro | exact True.intro | rfl⟩
      · cbv; try (repeat' first | apply And.intro | exact True.intro | rfl)
      · cbv
  · rename_i hge
    refine congrArg (fun b => XA.one (.c (.d (eB b)))) ?_
    refine (hb.2 ⟨hpre.1, hpre.2.1, hpre.2.2, fun k hk' => ?_⟩).symm
    have hk' : k < n := hk'
    exact hk k (by subst hA; simp only [real, decide_eq_false_iff_not, Int.ofNat_eq_natCast] at hge; omega)
end Go.Rk
/- Counts and least numbers. -/
namespace Go.Rk
set_option linter.unusedSimpArgs false
set_option linter.unusedVariables false
theorem nex {b : Bool} {n : Nat} {P : Nat → Prop} (h : b = true ↔ ∃ i, i < n ∧ ¬ P i) : b = false ↔ ∀ i, i < n → P i := by
  rw [← Bool.not_eq_true, h]
  exact ⟨fun h i hi => Classical.byContradiction fun hn => h ⟨i, hi, hn⟩, fun h ⟨i, hi, hn⟩ => hn (h i hi)⟩
/-- One row more at the end. -/
theorem push_at {A : Ar} (hA : real = A) (n : Nat) (row : Nat → List DV) (x : List DV) (z : Nat → List DV) (k : Nat) (hk : k < n + 1) : A.app n row (A.sub 0 (A.app 1 (A.rep x) z)) k = if k < n then row k else x := by
  subst hA
  show (if k < n then row k else (if 0 + (k - n) < 1 then x else z (0 + (k - n) - 1))) = _
  split
  · rfl
  · rw [if_pos (by omega)]
theorem room_n {A : Ar} (hA : real = A) {n b : Nat} (hn : n ≤ 1048577) (hb : b ≤ 100000) : A.room n b := by
  subst hA
  have h1 : n * b ≤ 1048577 * 100000 := Nat.mul_le_mul hn hb
  exact ⟨by omega, by omega⟩
end Go.Rk
/- What it means that checkpoints are ok. -/
namespace Go.Rk
set_option linter.unusedSimpArgs false
set_option linter.unusedVariables false
def MarksP (j : JobT) (ms : Sl Int) : Prop := (ms.n : Int) = j.srcs ∧ ∀ i, i < ms.n → (0 ≤ ms.g i ∧ ms.g i ≤ 1000)
end Go.Rk
/- Checkpoints. -/
namespace Go.Rk
set_option linter.unusedSimpArgs false
set_option linter.unusedVariables false
open Go.Proofs
open Classical in
set_option maxRecDepth 100000 in
theorem c_notTime (n : Int) : ∃ b, (b = true ↔ ¬ (0 ≤ n ∧ n ≤ 1000)) ∧ Meets Try.prog 84 [.c (.d (eI n))] ⟨.one (.c (.d (eB b))), [none]⟩ := by
  obtain ⟨b, hb⟩ : ∃ b : Bool, (b = true ↔ ¬ (0 ≤ n ∧ n ≤ 1000)) := ⟨decide (¬ (0 ≤ n ∧ n ≤ 1000)), by rw [decide_eq_true_eq]⟩
  refine ⟨b, hb, ?_⟩
  refine meets_of (H := []) (EX := EXA) ttok mixed Try.func84 rfl (by kernel_rfl) (by decide) ?_
  generalize hA : real = A
  generalize hM : MeetsB Try.prog = M
  cbv
  repeat' first
    | apply And.intro
    | exact True.intro
    | with_reducible rfl
    | exact same_of hA rfl
    | refine br_of hA (fun _ => ?_) (fun _ => ?_)
    | exact imp_of hA id
    | (refine imp_of hA ?_; subst hA; simp only [real, Bool.true_and]; exact id)
    | (refine ind_of hA ?_; decide +kernel)
    | (refine call_ex hA hM (c_isTime _) (fun _ _ => ?_); cbv)
    | fail
  rename_i b1 hb1
  refine congrArg (fun b => XA.one (.c (.d (eB b)))) (Bool.eq_iff_iff.2 ?_)
  subst hA
  rw [hb, hb1]
  simp [real]
  omega
open Classical in
set_option maxRecDepth 100000 in
theorem c_marksOk (j : JobT) (ms : Sl Int) : ∃ b, (b = true ↔ MarksP j ms) ∧ Meets Try.prog 37 [xd (eJob j), .c (.d (.sl 1 ms.n fun i => [eI (ms.g i)]))] ⟨.one (.c (.d (eB b))), [none, none]⟩ := by
  obtain ⟨b, hb⟩ : ∃ b : Bool, (b = true ↔ MarksP j ms) := ⟨decide (MarksP j ms), by rw [decide_eq_true_eq]⟩
  refine ⟨b, hb, ?_⟩
  have hcon := c_Containsint0 ms.n ms.hn ms.g 84 _ c_notTime
  refine meets_of (H := []) (EX := EXA) ttok mixed Try.func37 rfl (by kernel_rfl) (by decide) ?_
  generalize hA : real = A
  generalize hM : MeetsB Try.prog = M
  cbv
  repeat' first
    | apply And.intro
    | exact True.intro
    | with_reducible rfl
    | exact same_of hA rfl
    | refine br_of hA (fun _ => ?_) (fun _ => ?_)
    | exact imp_of hA id
    | (refine imp_of hA ?_; subst hA; simp only [real, Bool.true_and]; exact id)
    | (refine ind_of hA ?_; decide +kernel)
    | (refine call_ex hA hM hcon (fun _ _ => ?_); cbv)
    | fail
  rename_i b1 hb1
  refine congrArg (fun b => XA.one (.c (.d (eB b)))) (Bool.eq_iff_iff.2 ?_)
  have e1 := nex hb1
  subst hA
  rw [hb]
  simp only [real, bifA, bifB, bifC, bifD, beqB, decide_eq_true_eq, decide_eq_false_iff_not, beqI, bneI, beqIF, bneIF, ne_eq, Bool.and_eq_true, Bool.or_eq_true, Bool.not_eq_true', Bool.not_eq_false', Bool.and_eq_false_iff, Bool.or_eq_false_iff, Bool.false_eq_true, and_false, false_and, or_false, false_or, and_true, true_and, not_true_eq_false, not_false_eq_true, true_iff, false_iff, Int.ofNat_eq_natCast, Int.toNat_natCast]
  rw [e1]
  exact Iff.rfl
end Go.Rk
/- Rows of values are flat. -/
namespace Go.Rk
set_option linter.unusedSimpArgs false
set_option linter.unusedVariables false
theorem flat_int (x : Int) : FlatL [eI x] := ⟨⟨_, rfl⟩, trivial⟩
theorem flat_Itm (x : ItmT) : FlatL (eItm x) := by repeat' first | exact True.intro | exact ⟨_, rfl⟩ | apply And.intro
theorem flat_Row (x : RowT) : FlatL (eRow x) := by repeat' first | exact True.intro | exact ⟨_, rfl⟩ | apply And.intro
theorem flat_Pane (x : PaneT) : FlatL (ePane x) := by repeat' first | exact True.intro | exact ⟨_, rfl⟩ | apply And.intro
theorem flat_Lat (x : LatT) : FlatL (eLat x) := by repeat' first | exact True.intro | exact ⟨_, rfl⟩ | apply And.intro
end Go.Rk
/- Nests: to. -/
namespace Go.Rk
set_option linter.unusedSimpArgs false
set_option linter.unusedVariables false
open Go.Proofs
set_option maxRecDepth 100000
set_option maxHeartbeats 1000000
theorem to_OpStO (x : OpStT) (hb : bdOpSt x) : Meets Try.prog 9 [xd (eOpSt x)] ⟨.one (.agg [.d (eI x.mark), .own 13 x.rows.n fun i => eRow (x.rows.g i)]), [none]⟩ := by
  refine meets_of (H := []) (EX := EXA) ttok mixed Try.func9 rfl (by kernel_rfl) (by decide) ?_
  generalize hA : real = A
  generalize hM : MeetsB Try.prog = M
  cbv
  repeat' first
    | apply And.intro
    | exact True.intro
    | with_reducible rfl
    | exact same_of hA rfl
    | refine br_of hA (fun _ => ?_) (fun _ => ?_)
    | exact imp_of hA id
    | (refine imp_of hA ?_; subst hA; simp only [real, Bool.true_and]; exact id)
    | (refine ind_of hA ?_; decide +kernel)
    | (refine call_of hA hM _ (to_RowS x.rows.n hb x.rows.g) ?_; cbv)
    | fail
end Go.Rk
/- Windows of a time, and pairs of records and windows, as lists. -/
namespace Go.Rk
set_option linter.unusedSimpArgs false
set_option linter.unusedVariables false
def zLat : LatT := ⟨⟨0, 0, 0, 0, 0⟩, ⟨0, 0⟩⟩
def mkItm (k : Int) : ItmT := ⟨k, k + 1, k + 2, k + 3, k + 4⟩
def mkLat (k : Int) : LatT := ⟨⟨k, k + 1, k + 2, k + 3, k + 4⟩, ⟨k + 5, k + 6⟩⟩
end Go.Rk
/- Rows of a table, as lists. -/
namespace Go.Rk
set_option linter.unusedSimpArgs false
set_option linter.unusedVariables false
def IsRow (key : Int) (w : WinT) (r : TabT) : Prop := r.key = key ∧ (r.win.s = w.s ∧ r.win.e = w.e)
instance (key : Int) (w : WinT) (r : TabT) : Decidable (IsRow key w r) := inferInstanceAs (Decidable (_ ∧ _))
def Ahead (r q : TabT) : Prop := r.key < q.key ∨ (r.key = q.key ∧ (r.win.s < q.win.s ∨ (r.win.s = q.win.s ∧ r.win.e < q.win.e)))
instance (r q : TabT) : Decidable (Ahead r q) := inferInstanceAs (Decidable (_ ∨ _))
theorem room_add2 {A : Ar} (hA : real = A) {n m b : Nat} (hn : n + m ≤ 2000000) (hb : b ≤ 100000) : A.room (A.add n m) b := by
  subst hA
  have h1 : (n + m) * b ≤ 2000000 * 100000 := Nat.mul_le_mul hn hb
  exact ⟨Nat.le_trans h1 (by omega), Nat.le_trans hn (by omega)⟩
theorem lt_of {A : Ar} (hA : real = A) {i n : Nat} (h : A.cmp .lss (Int.ofNat i) (A.int n) = true) : i < n := by
  subst hA
  have h : decide ((i : Int) < (n : Int)) = true := h
  rw [decide_eq_true_eq] at h
  omega
theorem ge_of {A : Ar} (hA : real = A) {i n : Nat} (h : A.cmp .lss (Int.ofNat i) (A.int n) = false) : n ≤ i := by
  subst hA
  have h : decide ((i : Int) < (n : Int)) = false := h
  rw [decide_eq_false_iff_not] at h
  omega
theorem inb_lt {A : Ar} (hA : real = A) {g : Bool} {i n : Nat} (h : i < n) : A.inb g (Int.ofNat i) n := by
  refine inb_of hA fun _ => ?_
  have e : Int.ofNat i = (i : Int) := rfl
  rw [e]
  omega
def zAgg : AggT := ⟨0, 0, 0, 0⟩
end Go.Rk
/- What is known of values, by lists; tables that records lead to. -/
namespace Go.Rk
set_option linter.unusedSimpArgs false
set_option linter.unusedVariables false
def sumI : List Int → Int
  | [] => 0
  | x :: l => x + sumI l
/-- What is known of just these values. -/
structure AggIs (a : AggT) (L : List Int) : Prop where
  n : a.n = (L.length : Int)
  sum : a.sum = sumI L
  z : L = [] → a = zAgg
  nz : L ≠ [] → a.least ∈ L ∧ a.most ∈ L ∧ ∀ x, x ∈ L → a.least ≤ x ∧ x ≤ a.most
abbrev Rise (l : List TabT) : Prop := l.Pairwise Ahead
end Go.Rk
/- Tables of pairs of records and windows: what they say, and that they hang on no order. -/
namespace Go.Rk
set_option linter.unusedSimpArgs false
set_option linter.unusedVariables false
def valsW (k : Int) (w : WinT) (P : List LatT) : List Int := (P.filter fun l => decide (l.itm.key = k ∧ l.win.s = w.s ∧ l.win.e = w.e)).map (·.itm.v)
def valsS (k : Int) (w : WinT) (P : List LatT) : List Int := (P.filter fun l => decide (l.itm.key = k ∧ w.s ≤ l.win.s ∧ l.win.s < w.e)).map (·.itm.v)
/-! ## Windows that do not grow -/
structure InvW (P : List LatT) (T : List TabT) : Prop where
  rise : Rise T
  row : ∀ r, r ∈ T → valsW r.key r.win P ≠ [] ∧ AggIs r.agg (valsW r.key r.win P)
  has : ∀ l, l ∈ P → ∃ r, r ∈ T ∧ IsRow l.itm.key l.win r
/-! ## Sessions -/
def CovP (P : List LatT) (k p : Int) : Prop := ∃ l, l ∈ P ∧ l.itm.key = k ∧ l.win.s < p ∧ p < l.win.e
structure SessP (P : List LatT) (r : TabT) : Prop where
  lt : r.win.s < r.win.e
  fst : ∃ l, l ∈ P ∧ l.itm.key = r.key ∧ l.win.s = r.win.s
  lst : ∃ l, l ∈ P ∧ l.itm.key = r.key ∧ l.win.e = r.win.e
  mid : ∀ p, r.win.s < p → p < r.win.e → CovP P r.key p
  low : ¬ CovP P r.key r.win.s
  top : ¬ CovP P r.key r.win.e
  agg : AggIs r.agg (valsS r.key r.win P)
structure InvS (P : List LatT) (T : List TabT) : Prop where
  rise : Rise T
  row : ∀ r, r ∈ T → SessP P r
  has : ∀ l, l ∈ P → ∃ r, r ∈ T ∧ r.key = l.itm.key ∧ r.win.s ≤ l.win.s ∧ l.win.e ≤ r.win.e
end Go.Rk
/- Tables of panes. -/
namespace Go.Rk
set_option linter.unusedSimpArgs false
set_option linter.unusedVariables false
theorem sub0r (f : Nat → List DV) : real.sub 0 f = f := sub0 rfl f
def mkPane (k : Int) : PaneT := ⟨k, ⟨k + 1, k + 2⟩, k + 3, k + 4, ⟨k + 5, k + 6, k + 7, k + 8⟩⟩
theorem lt2_of {A : Ar} (hA : real = A) {i n : Nat} (h : A.cmp .lss (Int.ofNat i) (Int.ofNat n) = true) : i < n := by
  subst hA
  have h : decide ((i : Int) < (n : Int)) = true := h
  rw [decide_eq_true_eq] at h
  omega
theorem ge2_of {A : Ar} (hA : real = A) {i n : Nat} (h : A.cmp .lss (Int.ofNat i) (Int.ofNat n) = false) : n ≤ i := by
  subst hA
  have h : decide ((i : Int) < (n : Int)) = false := h
  rw [decide_eq_false_iff_not] at h
  omega
end Go.Rk
/- What a mark does to rows, in plain words. -/
namespace Go.Rk
set_option linter.unusedSimpArgs false
set_option linter.unusedVariables false
def zRow : RowT := ⟨0, ⟨0, 0⟩, zAgg, zAgg, 0, false⟩
def zPan : PaneT := ⟨0, ⟨0, 0⟩, 0, 0, zAgg⟩
def mkRow (k : Int) : RowT := ⟨k, ⟨k + 1, k + 2⟩, ⟨k + 3, k + 4, k + 5, k + 6⟩, ⟨k + 7, k + 8, k + 9, k + 10⟩, k + 11, ((k + 12).tmod 3 == 0)⟩
theorem wr1 (k : Int) (h : 0 ≤ k ∧ k ≤ 150000000) : IntKind.i64.wrap (k + 1) = k + 1 := IntWalk.i64_in _ (by omega)
theorem wrn (k c d : Int) (h : 0 ≤ k ∧ k ≤ 150000000) (hc : 0 ≤ c ∧ c ≤ 1000) (hd : c + 1 = d) : IntKind.i64.wrap (k + c + 1) = k + d := by
  rw [IntWalk.i64_in _ (by omega)]; omega
end Go.Rk
/- What a record does to rows, in plain words. -/
namespace Go.Rk
set_option linter.unusedSimpArgs false
set_option linter.unusedVariables false
def IsR (k : Int) (w : WinT) (r : RowT) : Prop := r.key = k ∧ (r.win.s = w.s ∧ r.win.e = w.e)
instance (k : Int) (w : WinT) (r : RowT) : Decidable (IsR k w r) := inferInstanceAs (Decidable (_ ∧ _))
def RA (r q : RowT) : Prop := AheadP r.key r.win q.key q.win
instance (r q : RowT) : Decidable (RA r q) := inferInstanceAs (Decidable (_ ∨ (_ ∧ (_ ∨ (_ ∧ _)))))
end Go.Rk
/- Nests: clone. -/
namespace Go.Rk
set_option linter.unusedSimpArgs false
set_option linter.unusedVariables false
open Go.Proofs
set_option maxRecDepth 100000
set_option maxHeartbeats 1000000
theorem c_CloneRow (n : Nat) (hn : n ≤ 1080000) (g : Nat → RowT) : Meets Try.prog 85 [.c (.d (.sl 13 n fun i => eRow (g i)))] ⟨.one (.c (.own 13 n fun i => eRow (g i))), [none]⟩ := by
  refine meets_slice (fun h0 ad cap => ?_) (fun h1 => ?_)
  · subst h0
    cases ad with
    | none =>
      refine meets_up (res := .one (.c (.d (.v nilS)))) (UpV.nil 13 fun i => eRow (g i)) ?_
      refine meets_of (H := []) (EX := EXA) ttok mixed Try.func85 rfl (by kernel_rfl) (by decide) ?_
      generalize hA : real = A
      generalize hM : MeetsB Try.prog = M
      cbv
      repeat' first
        | exact absurd (show true = false by assumption) (by decide)
        | exact absurd (show false = true by assumption) (by decide)
        | apply And.intro
        | exact True.intro
        | with_reducible rfl
        | exact same_of hA rfl
        | refine br_of hA (fun _ => ?_) (fun _ => ?_)
        | exact imp_of hA id
        | (refine imp_of hA ?_; subst hA; simp only [real, Bool.true_and]; exact id)
        | (refine ind_of hA ?_; decide +kernel)
        | fail
    | some ad =>
      refine meets_up (res := .one (.c (.own 13 0 fun i => (real.rep ([eI 0, eI 0, eI 0, eI 0, eI 0, eI 0, eI 0, eI 0, eI 0, eI 0, eI 0, eI 0, eB false]) i)))) (UpV.row fun i hi => absurd hi (Nat.not_lt_zero i)) ?_
      refine meets_of (H := []) (EX := EXA) ttok mixed Try.func85 rfl (by kernel_rfl) (by decide) ?_
      generalize hA : real = A
      generalize hM : MeetsB Try.prog = M
      cbv
      repeat' first
        | exact absurd (show true = false by assumption) (by decide)
        | exact absurd (show false = true by assumption) (by decide)
        | apply And.intro
        | exact True.intro
        | with_reducible rfl
        | exact same_of hA rfl
        | refine br_of hA (fun _ => ?_) (fun _ => ?_)
        | exact imp_of hA id
        | (refine imp_of hA ?_; subst hA; simp only [real, Bool.true_and]; exact id)
        | (refine ind_of hA ?_; decide +kernel)
        | exact room_z hA (by omega) (by decide)
        | fail
      exact own_cp hA (by subst hA; rfl)
  · skip
    refine meets_of (H := []) (EX := EXA) ttok mixed Try.func85 rfl (by kernel_rfl) (by decide) ?_
    generalize hA : real = A
    generalize hM : MeetsB Try.prog = M
    cbv
    repeat' first
      | exact absurd (show true = false by assumption) (by decide)
      | exact absurd (show false = true by assumption) (by decide)
      | apply And.intro
      | exact True.intro
      | with_reducible rfl
      | exact same_of hA rfl
      | refine br_of hA (fun _ => ?_) (fun _ => ?_)
      | exact imp_of hA id
      | (refine imp_of hA ?_; subst hA; simp only [real, Bool.true_and]; exact id)
      | (refine ind_of hA ?_; decide +kernel)
      | exact room_z hA (by omega) (by decide)
      | (refine inb_of hA (fun _ => ⟨by omega, by omega⟩))
      | (rename_i hb; cases hb; done)
      | fail
    exact own_cp hA rfl
theorem c_copied (mk : Int) (n : Nat) (hn : n ≤ 1080000) (g : Nat → RowT) : Meets Try.prog 38 [.agg [.d (eI mk), .d (.sl 13 n fun i => eRow (g i))]] ⟨.one (.agg [.d (eI mk), .own 13 n fun i => eRow (g i)]), [none]⟩ := by
  refine meets_of (H := []) (EX := EXA) ttok mixed Try.func38 rfl (by kernel_rfl) (by decide) ?_
  generalize hA : real = A
  generalize hM : MeetsB Try.prog = M
  cbv
  repeat' first
    | apply And.intro
    | exact True.intro
    | with_reducible rfl
    | exact same_of hA rfl
    | refine br_of hA (fun _ => ?_) (fun _ => ?_)
    | exact imp_of hA id
    | (refine imp_of hA ?_; subst hA; simp only [real, Bool.true_and]; exact id)
    | (refine ind_of hA ?_; decide +kernel)
    | exact room_z hA (by omega) (by decide)
    | (refine call_of2 hA hM _ (c_CloneRow n hn g) rfl ?_; cbv)
    | fail
theorem c_sCopy (mk : Int) (n : Nat) (hn : n ≤ 1080000) (g : Nat → RowT) : Meets Try.prog 33 [.agg [.d (eI mk), .d (.sl 13 n fun i => eRow (g i))]] ⟨.one (.agg [.d (eI mk), .own 13 n fun i => eRow (g i)]), [none]⟩ := by
  refine meets_of (H := []) (EX := EXA) ttok mixed Try.func33 rfl (by kernel_rfl) (by decide) ?_
  generalize hA : real = A
  generalize hM : MeetsB Try.prog = M
  cbv
  repeat' first
    | apply And.intro
    | exact True.intro
    | with_reducible rfl
    | exact same_of hA rfl
    | refine br_of hA (fun _ => ?_) (fun _ => ?_)
    | exact imp_of hA id
    | (refine imp_of hA ?_; subst hA; simp only [real, Bool.true_and]; exact id)
    | (refine ind_of hA ?_; decide +kernel)
    | exact room_z hA (by omega) (by decide)
    | (refine call_of2 hA hM _ (c_CloneRow n hn g) rfl ?_; cbv)
    | fail
  exact own_cp2 hA rfl
end Go.Rk
/- Marks, in plain words. -/
namespace Go.Rk
set_option linter.unusedSimpArgs false
set_option linter.unusedVariables false
abbrev intT := Int
abbrev eint (x : Int) : List DV := [eI x]
def mkint (k : Int) : Int := k
def mkbool (k : Int) : Bool := k.tmod 3 == 0
/-- Where the marks of a row's parts begin, one behind the other. -/
def posS (len : Nat → Int) (s : Int) : Nat → Int
  | 0 => s
  | i + 1 => posS len s i + len i
theorem posS_mono {len : Nat → Int} {s : Int} {n : Nat} (h : ∀ i, i < n → 0 ≤ len i) : ∀ {i j : Nat}, i ≤ j → j ≤ n → posS len s i ≤ posS len s j := by
  intro i j hij hj
  induction j with
  | zero => have : i = 0 := by omega
            subst this; exact Int.le_refl _
  | succ j ih =>
    by_cases e : i = j + 1
    · subst e; exact Int.le_refl _
    · have h1 := ih (by omega) (by omega)
      have h2 := h j (by omega)
      show _ ≤ posS len s j + len j
      omega
def lenSnap (x : SnapT) : Int := 1 + 13 * (x.op.rows.n : Int) + (x.marks.n : Int)
def mkSnap (p : Int) (x : SnapT) : SnapT := ⟨⟨p, ⟨x.op.rows.n, fun i => mkRow (p + 1 + 13 * (i : Int)), x.op.rows.hn⟩⟩, ⟨x.marks.n, fun i => p + 1 + 13 * (x.op.rows.n : Int) + (i : Int), x.marks.hn⟩⟩
def lenTskIn (x : TskInT) : Int := 5 * (x.queue.n : Int) + 2
def mkTskIn (p : Int) (x : TskInT) : TskInT := ⟨⟨x.queue.n, fun i => mkItm (p + 5 * (i : Int)), x.queue.hn⟩, p + 5 * (x.queue.n : Int), mkbool (p + 5 * (x.queue.n : Int) + 1)⟩
end Go.Rk
/- Marks. -/
namespace Go.Rk
set_option linter.unusedSimpArgs false
set_option linter.unusedVariables false
open Go.Proofs
def st_msint (n i : Nat) (k : Int) (rm : Nat → intT) : St := ⟨[(5, .c (.d (eI i))), (1, .c (.d (eI k))), (0, .c (.own 0 0 n 1))], [(0, 1, .arr 1 n fun i => eint (rm i))]⟩
set_option maxRecDepth 100000 in
set_option maxHeartbeats 1000000 in
theorem marks_int (s : Int) (hs : 0 ≤ s ∧ s ≤ 100000000) (n : Nat) (hn : n ≤ 1100000) (rd : Nat → intT) (x : Int) (hx : x = s + 1 * (n : Int)) (GM : Nat → intT) (hGM : ∀ i, GM i = mkint (s + 1 * (i : Int))) : Meets Try.prog 16 [.c (.own 1 n fun i => eint (rd i)), .c (.d (eI s))] ⟨.one (.c (.d (eI x))), [some (.own 1 n fun i => eint (GM i)), none]⟩ := by
  have hn2 : n ≤ maxLen := Nat.le_trans hn (by decide)
  refine meets_of (H := [6]) (EX := EXA) ttok mixed Try.func16 rfl (by kernel_rfl) (by decide) ?_
  generalize hA : real = A
  generalize hM : MeetsB Try.prog = M
  cbv
  repeat' first
    | apply And.intro
    | exact True.intro
    | with_reducible rfl
    | exact same_of hA rfl
    | refine br_of hA (fun _ => ?_) (fun _ => ?_)
    | exact imp_of hA id
    | (refine imp_of hA ?_; subst hA; simp only [real, Bool.true_and]; exact id)
    | (refine ind_of hA ?_; decide +kernel)
    | fail
  refine loop_of hA (α := { q : Nat × Int × (Nat → intT) // q.1 ≤ n ∧ q.2.1 = s + 1 * (q.1 : Int) ∧ ∀ j, j < q.1 → q.2.2 j = GM j }) (fun y => st_msint n y.1.1 y.1.2.1 y.1.2.2) (fun y => n - y.1.1) ⟨(0, s, rd), Nat.zero_le _, by simp, fun j h => absurd h (Nat.not_lt_zero j)⟩ ?_ ?_
  · refine cov_of ?_ ?_ ?_
    · cbv; try (subst hA; repeat' first | apply And.intro | exact True.intro | rfl)
    · cbv; try (subst hA; repeat' first | apply And.intro | exact True.intro | rfl | (intro _ _; rfl))
    · cbv; try (subst hA; repeat' first | apply And.intro | exact True.intro | rfl | exact .inr trivial | exact .inr (Nat.le_refl _))
  rintro ⟨⟨i, k, rm⟩, hi, hkk, hr⟩
  have hi : i ≤ n := hi
  have hkk : k = s + 1 * (i : Int) := hkk
  have hr : ∀ j, j < i → rm j = GM j := hr
  obtain ⟨k1, hk1⟩ : ∃ z : Int, z = k + 1 := ⟨_, rfl⟩
  have w1 : IntKind.i64.wrap (k + 1) = k1 := by rw [IntWalk.i64_in _ (by omega)]; omega
  obtain ⟨r1, hr1⟩ : ∃ r : Nat → intT, r = fun q => if q = i then (k : intT) else rm q := ⟨_, rfl⟩
  cbv
  repeat' first
    | apply And.intro
    | exact True.intro
    | with_reducible rfl
    | exact same_of hA rfl
    | refine br_of hA (fun _ => ?_) (fun _ => ?_)
    | exact imp_of hA id
    | (refine imp_of hA ?_; subst hA; simp only [real, Bool.true_and]; exact id)
    | (refine ind_of hA ?_; decide +kernel)
    | (refine inb_of hA fun _ => ?_; subst hA; simp only [real, Bool.and_eq_true, Bool.not_eq_true', Bool.not_eq_false', decide_eq_true_eq, Int.ofNat_eq_natCast, IntKind.wrap_i64] at *; omega)
    | (subst hA; exact fun _ => (by decide : (3 : Int) ≠ 0))
    | fail
  · rename_i hlt
    have hlt' : i < n := by subst hA; simp only [real, decide_eq_true_eq, Int.ofNat_eq_natCast] at hlt; omega
    have h9 : ((i + 1 : Nat) : Int) = (i : Int) + 1 := rfl
    refine ⟨⟨(i + 1, k1, r1), by simp only; omega, by (show k1 = s + 1 * ((i + 1 : Nat) : Int)); rw [h9, hk1, hkk, Int.mul_add]; exact Int.add_assoc _ _ _, fun j hj => ?_⟩, by simp only; omega, cov_of ?_ ?_ ?_⟩
    · simp only at hj ⊢
      by_cases e : j = i
      · rw [hr1]; simp only [e, if_true]
        rw [hGM, ← hkk]
        simp only [mkint, ]
      · rw [hr1]; simp only [e, if_false]; exact hr j (by omega)
    · cbv
      subst hA
      repeat' first | apply And.intro | exact True.intro | exact congrArg (fun x => DV.v (.int .i64 x)) w1 | exact congrArg (fun x => DV.v (.int .i64 x)) (up64 hlt' hn2) | rfl
    · cbv
      subst hA
      refine ⟨fun q _ => ?_, trivial⟩
      have e0 : real.add 0 (real.nat (Int.ofNat i)) = i := Nat.zero_add i
      simp only [e0]
      first
        | (show (if q = i then _ else eint (rm q)) = eint (r1 q))
        | (show (if q = 0 + i then _ else eint (rm q)) = eint (r1 q); rw [Nat.zero_add])
      simp only [hr1]
      by_cases e : q = i
      · subst e; first | (simp; done) | (simp; rfl)
      · simp [e]
    · cbv; try (subst hA; repeat' first | apply And.intro | exact True.intro | rfl | exact .inr trivial | exact .inr (Nat.le_refl _))
  · rename_i hge
    have hin : i = n := by
      subst hA
      simp only [real, decide_eq_false_iff_not, Int.ofNat_eq_natCast] at hge
      omega
    subst hin
    have hkx : k = x := by rw [hkk, hx]
    subst hkx
    refine stop_of hA ⟨[(1, .c (.d (eI k)))], [(0, 1, .arr 1 i fun q => eint (GM q))]⟩ (cov_of ?_ ?_ ?_) ?_
    · cbv
    · cbv
      exact ⟨fun q hq => congrArg (fun y => eint y) (hr q hq), trivial⟩
    · cbv; try (subst hA; repeat' first | apply And.intro | exact True.intro | rfl | exact .inr trivial | exact .inr (Nat.le_refl _))
    · cbv
      repeat' first
        | apply And.intro
        | exact True.intro
        | with_reducible rfl
        | exact same_of hA rfl
        | refine br_of hA (fun _ => ?_) (fun _ => ?_)
        | exact imp_of hA id
        | (refine imp_of hA ?_; subst hA; simp only [real, Bool.true_and]; exact id)
        | (refine ind_of hA ?_; decide +kernel)
        | fail
end Go.Rk
/- Marks. -/
namespace Go.Rk
set_option linter.unusedSimpArgs false
set_option linter.unusedVariables false
open Go.Proofs
def st_msRow (n i : Nat) (k : Int) (rm : Nat → RowT) : St := ⟨[(5, .c (.d (eI i))), (1, .c (.d (eI k))), (0, .c (.own 0 0 n 1))], [(0, 1, .arr 13 n fun i => eRow (rm i))]⟩
set_option maxRecDepth 100000 in
set_option maxHeartbeats 1000000 in
theorem marks_Row (s : Int) (hs : 0 ≤ s ∧ s ≤ 100000000) (n : Nat) (hn : n ≤ 1100000) (rd : Nat → RowT) (x : Int) (hx : x = s + 13 * (n : Int)) (GM : Nat → RowT) (hGM : ∀ i, GM i = mkRow (s + 13 * (i : Int))) : Meets Try.prog 42 [.c (.own 13 n fun i => eRow (rd i)), .c (.d (eI s))] ⟨.one (.c (.d (eI x))), [some (.own 13 n fun i => eRow (GM i)), none]⟩ := by
  have hn2 : n ≤ maxLen := Nat.le_trans hn (by decide)
  refine meets_of (H := [6, 8, 10, 12, 14, 16, 18, 20, 22, 24, 26, 28, 30]) (EX := EXA) ttok mixed Try.func42 rfl (by kernel_rfl) (by decide) ?_
  generalize hA : real = A
  generalize hM : MeetsB Try.prog = M
  cbv
  repeat' first
    | apply And.intro
    | exact True.intro
    | with_reducible rfl
    | exact same_of hA rfl
    | refine br_of hA (fun _ => ?_) (fun _ => ?_)
    | exact imp_of hA id
    | (refine imp_of hA ?_; subst hA; simp only [real, Bool.true_and]; exact id)
    | (refine ind_of hA ?_; decide +kernel)
    | fail
  refine loop_of hA (α := { q : Nat × Int × (Nat → RowT) // q.1 ≤ n ∧ q.2.1 = s + 13 * (q.1 : Int) ∧ ∀ j, j < q.1 → q.2.2 j = GM j }) (fun y => st_msRow n y.1.1 y.1.2.1 y.1.2.2) (fun y => n - y.1.1) ⟨(0, s, rd), Nat.zero_le _, by simp, fun j h => absurd h (Nat.not_lt_zero j)⟩ ?_ ?_
  · refine cov_of ?_ ?_ ?_
    · cbv; try (subst hA; repeat' first | apply And.intro | exact True.intro | rfl)
    · cbv; try (subst hA; repeat' first | apply And.intro | exact True.intro | rfl | (intro _ _; rfl))
    · cbv; try (subst hA; repeat' first | apply And.intro | exact True.intro | rfl | exact .inr trivial | exact .inr (Nat.le_refl _))
  rintro ⟨⟨i, k, rm⟩, hi, hkk, hr⟩
  have hi : i ≤ n := hi
  have hkk : k = s + 13 * (i : Int) := hkk
  have hr : ∀ j, j < i → rm j = GM j := hr
  obtain ⟨k1, hk1⟩ : ∃ z : Int, z = k + 1 := ⟨_, rfl⟩
  have w1 : IntKind.i64.wrap (k + 1) = k1 := by rw [IntWalk.i64_in _ (by omega)]; omega
  obtain ⟨r1, hr1⟩ : ∃ r : Nat → RowT, r = fun q => if q = i then (⟨k, ⟨(rm i).win.s, (rm i).win.e⟩, ⟨(rm i).all.n, (rm i).all.sum, (rm i).all.least, (rm i).all.most⟩, ⟨(rm i).fresh.n, (rm i).fresh.sum, (rm i).fresh.least, (rm i).fresh.most⟩, (rm i).told, (rm i).timely⟩ : RowT) else rm q := ⟨_, rfl⟩
  obtain ⟨k2, hk2⟩ : ∃ z : Int, z = k + 2 := ⟨_, rfl⟩
  have w2 : IntKind.i64.wrap (k1 + 1) = k2 := by rw [IntWalk.i64_in _ (by omega)]; omega
  obtain ⟨r2, hr2⟩ : ∃ r : Nat → RowT, r = fun q => if q = i then (⟨k, ⟨k1, (rm i).win.e⟩, ⟨(rm i).all.n, (rm i).all.sum, (rm i).all.least, (rm i).all.most⟩, ⟨(rm i).fresh.n, (rm i).fresh.sum, (rm i).fresh.least, (rm i).fresh.most⟩, (rm i).told, (rm i).timely⟩ : RowT) else rm q := ⟨_, rfl⟩
  obtain ⟨k3, hk3⟩ : ∃ z : Int, z = k + 3 := ⟨_, rfl⟩
  have w3 : IntKind.i64.wrap (k2 + 1) = k3 := by rw [IntWalk.i64_in _ (by omega)]; omega
  obtain ⟨r3, hr3⟩ : ∃ r : Nat → RowT, r = fun q => if q = i then (⟨k, ⟨k1, k2⟩, ⟨(rm i).all.n, (rm i).all.sum, (rm i).all.least, (rm i).all.most⟩, ⟨(rm i).fresh.n, (rm i).fresh.sum, (rm i).fresh.least, (rm i).fresh.most⟩, (rm i).told, (rm i).timely⟩ : RowT) else rm q := ⟨_, rfl⟩
  obtain ⟨k4, hk4⟩ : ∃ z : Int, z = k + 4 := ⟨_, rfl⟩
  have w4 : IntKind.i64.wrap (k3 + 1) = k4 := by rw [IntWalk.i64_in _ (by omega)]; omega
  obtain ⟨r4, hr4⟩ : ∃ r : Nat → RowT, r = fun q => if q = i then (⟨k, ⟨k1, k2⟩, ⟨k3, (rm i).all.sum, (rm i).all.least, (rm i).all.most⟩, ⟨(rm i).fresh.n, (rm i).fresh.sum, (rm i).fresh.least, (rm i).fresh.most⟩, (rm i).told, (rm i).timely⟩ : RowT) else rm q := ⟨_, rfl⟩
  obtain ⟨k5, hk5⟩ : ∃ z : Int, z = k + 5 := ⟨_, rfl⟩
  have w5 : IntKind.i64.wrap (k4 + 1) = k5 := by rw [IntWalk.i64_in _ (by omega)]; omega
  obtain ⟨r5, hr5⟩ : ∃ r : Nat → RowT, r = fun q => if q = i then (⟨k, ⟨k1, k2⟩, ⟨k3, k4, (rm i).all.least, (rm i).all.most⟩, ⟨(rm i).fresh.n, (rm i).fresh.sum, (rm i).fresh.least, (rm i).fresh.most⟩, (rm i).told, (rm i).timely⟩ : RowT) else rm q := ⟨_, rfl⟩
  obtain ⟨k6, hk6⟩ : ∃ z : Int, z = k + 6 := ⟨_, rfl⟩
  have w6 : IntKind.i64.wrap (k5 + 1) = k6 := by rw [IntWalk.i64_in _ (by omega)]; omega
  obtain ⟨r6, hr6⟩ : ∃ r : Nat → RowT, r = fun q => if q = i then (⟨k, ⟨k1, k2⟩, ⟨k3, k4, k5, (rm i).all.most⟩, ⟨(rm i).fresh.n, (rm i).fresh.sum, (rm i).fresh.least, (rm i).fresh.most⟩, (rm i).told, (rm i).timely⟩ : RowT) else rm q := ⟨_, rfl⟩
  obtain ⟨k7, hk7⟩ : ∃ z : Int, z = k + 7 := ⟨_, rfl⟩
  have w7 : IntKind.i64.wrap (k6 + 1) = k7 := by rw [IntWalk.i64_in _ (by omega)]; omega
  obtain ⟨r7, hr7⟩ : ∃ r : Nat → RowT, r = fun q => if q = i then (⟨k, ⟨k1, k2⟩, ⟨k3, k4, k5, k6⟩, ⟨(rm i).fresh.n, (rm i).fresh.sum, (rm i).fresh.least, (rm i).fresh.most⟩, (rm i).told, (rm i).timely⟩ : RowT) else rm q := ⟨_, rfl⟩
  obtain ⟨k8, hk8⟩ : ∃ z : Int, z = k + 8 := ⟨_, rfl⟩
  have w8 : IntKind.i64.wrap (k7 + 1) = k8 := by rw [IntWalk.i64_in _ (by omega)]; omega
  obtain ⟨r8, hr8⟩ : ∃ r : Nat → RowT, r = fun q => if q = i then (⟨k, ⟨k1, k2⟩, ⟨k3, k4, k5, k6⟩, ⟨k7, (rm i).fresh.sum, (rm i).fresh.least, (rm i).fresh.most⟩, (rm i).told, (rm i).timely⟩ : RowT) else rm q := ⟨_, rfl⟩
  obtain ⟨k9, hk9⟩ : ∃ z : Int, z = k + 9 := ⟨_, rfl⟩
  have w9 : IntKind.i64.wrap (k8 + 1) = k9 := by rw [IntWalk.i64_in _ (by omega)]; omega
  obtain ⟨r9, hr9⟩ : ∃ r : Nat → RowT, r = fun q => if q = i then (⟨k, ⟨k1, k2⟩, ⟨k3, k4, k5, k6⟩, ⟨k7, k8, (rm i).fresh.least, (rm i).fresh.most⟩, (rm i).told, (rm i).timely⟩ : RowT) else rm q := ⟨_, rfl⟩
  obtain ⟨k10, hk10⟩ : ∃ z : Int, z = k + 10 := ⟨_, rfl⟩
  have w10 : IntKind.i64.wrap (k9 + 1) = k10 := by rw [IntWalk.i64_in _ (by omega)]; omega
  obtain ⟨r10, hr10⟩ : ∃ r : Nat → RowT, r = fun q => if q = i then (⟨k, ⟨k1, k2⟩, ⟨k3, k4, k5, k6⟩, ⟨k7, k8, k9, (rm i).fresh.most⟩, (rm i).told, (rm i).timely⟩ : RowT) else rm q := ⟨_, rfl⟩
  obtain ⟨k11, hk11⟩ : ∃ z : Int, z = k + 11 := ⟨_, rfl⟩
  have w11 : IntKind.i64.wrap (k10 + 1) = k11 := by rw [IntWalk.i64_in _ (by omega)]; omega
  obtain ⟨r11, hr11⟩ : ∃ r : Nat → RowT, r = fun q => if q = i then (⟨k, ⟨k1, k2⟩, ⟨k3, k4, k5, k6⟩, ⟨k7, k8, k9, k10⟩, (rm i).told, (rm i).timely⟩ : RowT) else rm q := ⟨_, rfl⟩
  obtain ⟨k12, hk12⟩ : ∃ z : Int, z = k + 12 := ⟨_, rfl⟩
  have w12 : IntKind.i64.wrap (k11 + 1) = k12 := by rw [IntWalk.i64_in _ (by omega)]; omega
  obtain ⟨r12, hr12⟩ : ∃ r : Nat → RowT, r = fun q => if q = i then (⟨k, ⟨k1, k2⟩, ⟨k3, k4, k5, k6⟩, ⟨k7, k8, k9, k10⟩, k11, (rm i).timely⟩ : RowT) else rm q := ⟨_, rfl⟩
  obtain ⟨k13, hk13⟩ : ∃ z : Int, z = k + 13 := ⟨_, rfl⟩
  have w13 : IntKind.i64.wrap (k12 + 1) = k13 := by rw [IntWalk.i64_in _ (by omega)]; omega
  obtain ⟨r13, hr13⟩ : ∃ r : Nat → RowT, r = fun q => if q = i then (⟨k, ⟨k1, k2⟩, ⟨k3, k4, k5, k6⟩, ⟨k7, k8, k9, k10⟩, k11, (k12.tmod 3 == 0)⟩ : RowT) else rm q := ⟨_, rfl⟩
  cbv
  repeat' first
    | apply And.intro
    | exact True.intro
    | with_reducible rfl
    | exact same_of hA rfl
    | refine br_of hA (fun _ => ?_) (fun _ => ?_)
    | exact imp_of hA id
    | (refine imp_of hA ?_; subst hA; simp only [real, Bool.true_and]; exact id)
    | (refine ind_of hA ?_; decide +kernel)
    | (refine inb_of hA fun _ => ?_; subst hA; simp only [real, Bool.and_eq_true, Bool.not_eq_true', Bool.not_eq_false', decide_eq_true_eq, Int.ofNat_eq_natCast, IntKind.wrap_i64] at *; omega)
    | (subst hA; exact fun _ => (by decide : (3 : Int) ≠ 0))
    | fail
  · rename_i hlt
    have hlt' : i < n := by subst hA; simp only [real, decide_eq_true_eq, Int.ofNat_eq_natCast] at hlt; omega
    refine stop_of hA (st_msRow n i k1 r1) (cov_of ?_ ?_ ?_) ?_
    · cbv
      subst hA
      repeat' first | apply And.intro | exact True.intro | exact congrArg (fun x => DV.v (.int .i64 x)) w1 | rfl
    · cbv
      subst hA
      refine ⟨fun q _ => ?_, trivial⟩
      have e0 : real.add 0 (real.nat (Int.ofNat i)) = i := Nat.zero_add i
      simp only [e0]
      first
        | (show (if q = i then _ else eRow (rm q)) = eRow (r1 q))
        | (show (if q = 0 + i then _ else eRow (rm q)) = eRow (r1 q); rw [Nat.zero_add])
      simp only [hr1]
      by_cases e : q = i
      · subst e; first | (simp; done) | (simp; rfl)
      · simp [e]
    · cbv; try (subst hA; repeat' first | apply And.intro | exact True.intro | rfl | exact .inr trivial | exact .inr (Nat.le_refl _))
    cbv
    repeat' first
      | apply And.intro
      | exact True.intro
      | with_reducible rfl
      | exact same_of hA rfl
      | refine br_of hA (fun _ => ?_) (fun _ => ?_)
      | exact imp_of hA id
      | (refine imp_of hA ?_; subst hA; simp only [real, Bool.true_and]; exact id)
      | (refine ind_of hA ?_; decide +kernel)
      | (refine inb_of hA fun _ => ?_; subst hA; simp only [real, Bool.and_eq_true, Bool.not_eq_true', Bool.not_eq_false', decide_eq_true_eq, Int.ofNat_eq_natCast, IntKind.wrap_i64] at *; omega)
      | (subst hA; exact fun _ => (by decide : (3 : Int) ≠ 0))
      | fail
    refine stop_of hA (st_msRow n i k2 r2) (cov_of ?_ ?_ ?_) ?_
    · cbv
      subst hA
      repeat' first | apply And.intro | exact True.intro | exact congrArg (fun x => DV.v (.int .i64 x)) w2 | rfl
    · cbv
      subst hA
      refine ⟨fun q _ => ?_, trivial⟩
      have e0 : real.add 0 (real.nat (Int.ofNat i)) = i := Nat.zero_add i
      simp only [e0]
      first
        | (show (if q = i then _ else eRow (r1 q)) = eRow (r2 q))
        | (show (if q = 0 + i then _ else eRow (r1 q)) = eRow (r2 q); rw [Nat.zero_add])
      simp only [hr2, hr1]
      by_cases e : q = i
      · subst e; first | (simp; done) | (simp; rfl)
      · simp [e]
    · cbv; try (subst hA; repeat' first | apply And.intro | exact True.intro | rfl | exact .inr trivial | exact .inr (Nat.le_refl _))
    cbv
    repeat' first
      | apply And.intro
      | exact True.intro
      | with_reducible rfl
      | exact same_of hA rfl
      | refine br_of hA (fun _ => ?_) (fun _ => ?_)
      | exact imp_of hA id
      | (refine imp_of hA ?_; subst hA; simp only [real, Bool.true_and]; exact id)
      | (refine ind_of hA ?_; decide +kernel)
      | (refine inb_of hA fun _ => ?_; subst hA; simp only [real, Bool.and_eq_true, Bool.not_eq_true', Bool.not_eq_false', decide_eq_true_eq, Int.ofNat_eq_natCast, IntKind.wrap_i64] at *; omega)
      | (subst hA; exact fun _ => (by decide : (3 : Int) ≠ 0))
      | fail
    refine stop_of hA (st_msRow n i k3 r3) (cov_of ?_ ?_ ?_) ?_
    · cbv
      subst hA
      repeat' first | apply And.intro | exact True.intro | exact congrArg (fun x => DV.v (.int .i64 x)) w3 | rfl
    · cbv
      subst hA
      refine ⟨fun q _ => ?_, trivial⟩
      have e0 : real.add 0 (real.nat (Int.ofNat i)) = i := Nat.zero_add i
      simp only [e0]
      first
        | (show (if q = i then _ else eRow (r2 q)) = eRow (r3 q))
        | (show (if q = 0 + i then _ else eRow (r2 q)) = eRow (r3 q); rw [Nat.zero_add])
      simp only [hr3, hr2]
      by_cases e : q = i
      · subst e; first | (simp; done) | (simp; rfl)
      · simp [e]
    · cbv; try (subst hA; repeat' first | apply And.intro | exact True.intro | rfl | exact .inr trivial | exact .inr (Nat.le_refl _))
    cbv
    repeat' first
      | apply And.intro
      | exact True.intro
      | with_reducible rfl
      | exact same_of hA rfl
      | refine br_of hA (fun _ => ?_) (fun _ => ?_)
      | exact imp_of hA id
      | (refine imp_of hA ?_; subst hA; simp only [real, Bool.true_and]; exact id)
      | (refine ind_of hA ?_; decide +kernel)
      | (refine inb_of hA fun _ => ?_; subst hA; simp only [real, Bool.and_eq_true, Bool.not_eq_true', Bool.not_eq_false', decide_eq_true_eq, Int.ofNat_eq_natCast, IntKind.wrap_i64] at *; omega)
      | (subst hA; exact fun _ => (by decide : (3 : Int) ≠ 0))
      | fail
    refine stop_of hA (st_msRow n i k4 r4) (cov_of ?_ ?_ ?_) ?_
    · cbv
      subst hA
      repeat' first | apply And.intro | exact True.intro | exact congrArg (fun x => DV.v (.int .i64 x)) w4 | rfl
    · cbv
      subst hA
      refine ⟨fun q _ => ?_, trivial⟩
      have e0 : real.add 0 (real.nat (Int.ofNat i)) = i := Nat.zero_add i
      simp only [e0]
      first
        | (show (if q = i then _ else eRow (r3 q)) = eRow (r4 q))
        | (show (if q = 0 + i then _ else eRow (r3 q)) = eRow (r4 q); rw [Nat.zero_add])
      simp only [hr4, hr3]
      by_cases e : q = i
      · subst e; first | (simp; done) | (simp; rfl)
      · simp [e]
    · cbv; try (subst hA; repeat' first | apply And.intro | exact True.intro | rfl | exact .inr trivial | exact .inr (Nat.le_refl _))
    cbv
    repeat' first
      | apply And.intro
      | exact True.intro
      | with_reducible rfl
      | exact same_of hA rfl
      | refine br_of hA (fun _ => ?_) (fun _ => ?_)
      | exact imp_of hA id
      | (refine imp_of hA ?_; subst hA; simp only [real, Bool.true_and]; exact id)
      | (refine ind_of hA ?_; decide +kernel)
      | (refine inb_of hA fun _ => ?_; subst hA; simp only [real, Bool.and_eq_true, Bool.not_eq_true', Bool.not_eq_false', decide_eq_true_eq, Int.ofNat_eq_natCast, IntKind.wrap_i64] at *; omega)
      | (subst hA; exact fun _ => (by decide : (3 : Int) ≠ 0))
      | fail
    refine stop_of hA (st_msRow n i k5 r5) (cov_of ?_ ?_ ?_) ?_
    · cbv
      subst hA
      repeat' first | apply And.intro | exact True.intro | exact congrArg (fun x => DV.v (.int .i64 x)) w5 | rfl
    · cbv
      subst hA
      refine ⟨fun q _ => ?_, trivial⟩
      have e0 : real.add 0 (real.nat (Int.ofNat i)) = i := Nat.zero_add i
      simp only [e0]
      first
        | (show (if q = i then _ else eRow (r4 q)) = eRow (r5 q))
        | (show (if q = 0 + i then _ else eRow (r4 q)) = eRow (r5 q); rw [Nat.zero_add])
      simp only [hr5, hr4]
      by_cases e : q = i
      · subst e; first | (simp; done) | (simp; rfl)
      · simp [e]
    · cbv; try (subst hA; repeat' first | apply And.intro | exact True.intro | rfl | exact .inr trivial | exact .inr (Nat.le_refl _))
    cbv
    repeat' first
      | apply And.intro
      | exact True.intro
      | with_reducible rfl
      | exact same_of hA rfl
      | refine br_of hA (fun _ => ?_) (fun _ => ?_)
      | exact imp_of hA id
      | (refine imp_of hA ?_; subst hA; simp only [real, Bool.true_and]; exact id)
      | (refine ind_of hA ?_; decide +kernel)
      | (refine inb_of hA fun _ => ?_; subst hA; simp only [real, Bool.and_eq_true, Bool.not_eq_true', Bool.not_eq_false', decide_eq_true_eq, Int.ofNat_eq_natCast, IntKind.wrap_i64] at *; omega)
      | (subst hA; exact fun _ => (by decide : (3 : Int) ≠ 0))
      | fail
    refine stop_of hA (st_msRow n i k6 r6) (cov_of ?_ ?_ ?_) ?_
    · cbv
      subst hA
      repeat' first | apply And.intro | exact True.intro | exact congrArg (fun x => DV.v (.int .i64 x)) w6 | rfl
    · cbv
      subst hA
      refine ⟨fun q _ => ?_, trivial⟩
      have e0 : real.add 0 (real.nat (Int.ofNat i)) = i := Nat.zero_add i
      simp only [e0]
      first
        | (show (if q = i then _ else eRow (r5 q)) = eRow (r6 q))
        | (show (if q = 0 + i then _ else eRow (r5 q)) = eRow (r6 q); rw [Nat.zero_add])
      simp only [hr6, hr5]
      by_cases e : q = i
      · subst e; first | (simp; done) | (simp; rfl)
      · simp [e]
    · cbv; try (subst hA; repeat' first | apply And.intro | exact True.intro | rfl | exact .inr trivial | exact .inr (Nat.le_refl _))
    cbv
    repeat' first
      | apply And.intro
      | exact True.intro
      | with_reducible rfl
      | exact same_of hA rfl
      | refine br_of hA (fun _ => ?_) (fun _ => ?_)
      | exact imp_of hA id
      | (refine imp_of hA ?_; subst hA; simp only [real, Bool.true_and]; exact id)
      | (refine ind_of hA ?_; decide +kernel)
      | (refine inb_of hA fun _ => ?_; subst hA; simp only [real, Bool.and_eq_true, Bool.not_eq_true', Bool.not_eq_false', decide_eq_true_eq, Int.ofNat_eq_natCast, IntKind.wrap_i64] at *; omega)
      | (subst hA; exact fun _ => (by decide : (3 : Int) ≠ 0))
      | fail
    refine stop_of hA (st_msRow n i k7 r7) (cov_of ?_ ?_ ?_) ?_
    · cbv
      subst hA
      repeat' first | apply And.intro | exact True.intro | exact congrArg (fun x => DV.v (.int .i64 x)) w7 | rfl
    · cbv
      subst hA
      refine ⟨fun q _ => ?_, trivial⟩
      have e0 : real.add 0 (real.nat (Int.ofNat i)) = i := Nat.zero_add i
      simp only [e0]
      first
        | (show (if q = i then _ else eRow (r6 q)) = eRow (r7 q))
        | (show (if q = 0 + i then _ else eRow (r6 q)) = eRow (r7 q); rw [Nat.zero_add])
      simp only [hr7, hr6]
      by_cases e : q = i
      · subst e; first | (simp; done) | (simp; rfl)
      · simp [e]
    · cbv; try (subst hA; repeat' first | apply And.intro | exact True.intro | rfl | exact .inr trivial | exact .inr (Nat.le_refl _))
    cbv
    repeat' first
      | apply And.intro
      | exact True.intro
      | with_reducible rfl
      | exact same_of hA rfl
      | refine br_of hA (fun _ => ?_) (fun _ => ?_)
      | exact imp_of hA id
      | (refine imp_of hA ?_; subst hA; simp only [real, Bool.true_and]; exact id)
      | (refine ind_of hA ?_; decide +kernel)
      | (refine inb_of hA fun _ => ?_; subst hA; simp only [real, Bool.and_eq_true, Bool.not_eq_true', Bool.not_eq_false', decide_eq_true_eq, Int.ofNat_eq_natCast, IntKind.wrap_i64] at *; omega)
      | (subst hA; exact fun _ => (by decide : (3 : Int) ≠ 0))
      | fail
    refine stop_of hA (st_msRow n i k8 r8) (cov_of ?_ ?_ ?_) ?_
    · cbv
      subst hA
      repeat' first | apply And.intro | exact True.intro | exact congrArg (fun x => DV.v (.int .i64 x)) w8 | rfl
    · cbv
      subst hA
      refine ⟨fun q _ => ?_, trivial⟩
      have e0 : real.add 0 (real.nat (Int.ofNat i)) = i := Nat.zero_add i
      simp only [e0]
      first
        | (show (if q = i then _ else eRow (r7 q)) = eRow (r8 q))
        | (show (if q = 0 + i then _ else eRow (r7 q)) = eRow (r8 q); rw [Nat.zero_add])
      simp only [hr8, hr7]
      by_cases e : q = i
      · subst e; first | (simp; done) | (simp; rfl)
      · simp [e]
    · cbv; try (subst hA; repeat' first | apply And.intro | exact True.intro | rfl | exact .inr trivial | exact .inr (Nat.le_refl _))
    cbv
    repeat' first
      | apply And.intro
      | exact True.intro
      | with_reducible rfl
      | exact same_of hA rfl
      | refine br_of hA (fun _ => ?_) (fun _ => ?_)
      | exact imp_of hA id
      | (refine imp_of hA ?_; subst hA; simp only [real, Bool.true_and]; exact id)
      | (refine ind_of hA ?_; decide +kernel)
      | (refine inb_of hA fun _ => ?_; subst hA; simp only [real, Bool.and_eq_true, Bool.not_eq_true', Bool.not_eq_false', decide_eq_true_eq, Int.ofNat_eq_natCast, IntKind.wrap_i64] at *; omega)
      | (subst hA; exact fun _ => (by decide : (3 : Int) ≠ 0))
      | fail
    refine stop_of hA (st_msRow n i k9 r9) (cov_of ?_ ?_ ?_) ?_
    · cbv
      subst hA
      repeat' first | apply And.intro | exact True.intro | exact congrArg (fun x => DV.v (.int .i64 x)) w9 | rfl
    · cbv
      subst hA
      refine ⟨fun q _ => ?_, trivial⟩
      have e0 : real.add 0 (real.nat (Int.ofNat i)) = i := Nat.zero_add i
      simp only [e0]
      first
        | (show (if q = i then _ else eRow (r8 q)) = eRow (r9 q))
        | (show (if q = 0 + i then _ else eRow (r8 q)) = eRow (r9 q); rw [Nat.zero_add])
      simp only [hr9, hr8]
      by_cases e : q = i
      · subst e; first | (simp; done) | (simp; rfl)
      · simp [e]
    · cbv; try (subst hA; repeat' first | apply And.intro | exact True.intro | rfl | exact .inr trivial | exact .inr (Nat.le_refl _))
    cbv
    repeat' first
      | apply And.intro
      | exact True.intro
      | with_reducible rfl
      | exact same_of hA rfl
      | refine br_of hA (fun _ => ?_) (fun _ => ?_)
      | exact imp_of hA id
      | (refine imp_of hA ?_; subst hA; simp only [real, Bool.true_and]; exact id)
      | (refine ind_of hA ?_; decide +kernel)
      | (refine inb_of hA fun _ => ?_; subst hA; simp only [real, Bool.and_eq_true, Bool.not_eq_true', Bool.not_eq_false', decide_eq_true_eq, Int.ofNat_eq_natCast, IntKind.wrap_i64] at *; omega)
      | (subst hA; exact fun _ => (by decide : (3 : Int) ≠ 0))
      | fail
    refine stop_of hA (st_msRow n i k10 r10) (cov_of ?_ ?_ ?_) ?_
    · cbv
      subst hA
      repeat' first | apply And.intro | exact True.intro | exact congrArg (fun x => DV.v (.int .i64 x)) w10 | rfl
    · cbv
      subst hA
      refine ⟨fun q _ => ?_, trivial⟩
      have e0 : real.add 0 (real.nat (Int.ofNat i)) = i := Nat.zero_add i
      simp only [e0]
      first
        | (show (if q = i then _ else eRow (r9 q)) = eRow (r10 q))
        | (show (if q = 0 + i then _ else eRow (r9 q)) = eRow (r10 q); rw [Nat.zero_add])
      simp only [hr10, hr9]
      by_cases e : q = i
      · subst e; first | (simp; done) | (simp; rfl)
      · simp [e]
    · cbv; try (subst hA; repeat' first | apply And.intro | exact True.intro | rfl | exact .inr trivial | exact .inr (Nat.le_refl _))
    cbv
    repeat' first
      | apply And.intro
      | exact True.intro
      | with_reducible rfl
      | exact same_of hA rfl
      | refine br_of hA (fun _ => ?_) (fun _ => ?_)
      | exact imp_of hA id
      | (refine imp_of hA ?_; subst hA; simp only [real, Bool.true_and]; exact id)
      | (refine ind_of hA ?_; decide +kernel)
      | (refine inb_of hA fun _ => ?_; subst hA; simp only [real, Bool.and_eq_true, Bool.not_eq_true', Bool.not_eq_false', decide_eq_true_eq, Int.ofNat_eq_natCast, IntKind.wrap_i64] at *; omega)
      | (subst hA; exact fun _ => (by decide : (3 : Int) ≠ 0))
      | fail
    refine stop_of hA (st_msRow n i k11 r11) (cov_of ?_ ?_ ?_) ?_
    · cbv
      subst hA
      repeat' first | apply And.intro | exact True.intro | exact congrArg (fun x => DV.v (.int .i64 x)) w11 | rfl
    · cbv
      subst hA
      refine ⟨fun q _ => ?_, trivial⟩
      have e0 : real.add 0 (real.nat (Int.ofNat i)) = i := Nat.zero_add i
      simp only [e0]
      first
        | (show (if q = i then _ else eRow (r10 q)) = eRow (r11 q))
        | (show (if q = 0 + i then _ else eRow (r10 q)) = eRow (r11 q); rw [Nat.zero_add])
      simp only [hr11, hr10]
      by_cases e : q = i
      · subst e; first | (simp; done) | (simp; rfl)
      · simp [e]
    · cbv; try (subst hA; repeat' first | apply And.intro | exact True.intro | rfl | exact .inr trivial | exact .inr (Nat.le_refl _))
    cbv
    repeat' first
      | apply And.intro
      | exact True.intro
      | with_reducible rfl
      | exact same_of hA rfl
      | refine br_of hA (fun _ => ?_) (fun _ => ?_)
      | exact imp_of hA id
      | (refine imp_of hA ?_; subst hA; simp only [real, Bool.true_and]; exact id)
      | (refine ind_of hA ?_; decide +kernel)
      | (refine inb_of hA fun _ => ?_; subst hA; simp only [real, Bool.and_eq_true, Bool.not_eq_true', Bool.not_eq_false', decide_eq_true_eq, Int.ofNat_eq_natCast, IntKind.wrap_i64] at *; omega)
      | (subst hA; exact fun _ => (by decide : (3 : Int) ≠ 0))
      | fail
    refine stop_of hA (st_msRow n i k12 r12) (cov_of ?_ ?_ ?_) ?_
    · cbv
      subst hA
      repeat' first | apply And.intro | exact True.intro | exact congrArg (fun x => DV.v (.int .i64 x)) w12 | rfl
    · cbv
      subst hA
      refine ⟨fun q _ => ?_, trivial⟩
      have e0 : real.add 0 (real.nat (Int.ofNat i)) = i := Nat.zero_add i
      simp only [e0]
      first
        | (show (if q = i then _ else eRow (r11 q)) = eRow (r12 q))
        | (show (if q = 0 + i then _ else eRow (r11 q)) = eRow (r12 q); rw [Nat.zero_add])
      simp only [hr12, hr11]
      by_cases e : q = i
      · subst e; first | (simp; done) | (simp; rfl)
      · simp [e]
    · cbv; try (subst hA; repeat' first | apply And.intro | exact True.intro | rfl | exact .inr trivial | exact .inr (Nat.le_refl _))
    cbv
    repeat' first
      | apply And.intro
      | exact True.intro
      | with_reducible rfl
      | exact same_of hA rfl
      | refine br_of hA (fun _ => ?_) (fun _ => ?_)
      | exact imp_of hA id
      | (refine imp_of hA ?_; subst hA; simp only [real, Bool.true_and]; exact id)
      | (refine ind_of hA ?_; decide +kernel)
      | (refine inb_of hA fun _ => ?_; subst hA; simp only [real, Bool.and_eq_true, Bool.not_eq_true', Bool.not_eq_false', decide_eq_true_eq, Int.ofNat_eq_natCast, IntKind.wrap_i64] at *; omega)
      | (subst hA; exact fun _ => (by decide : (3 : Int) ≠ 0))
      | fail
    have h9 : ((i + 1 : Nat) : Int) = (i : Int) + 1 := rfl
    refine ⟨⟨(i + 1, k13, r13), by simp only; omega, by (show k13 = s + 13 * ((i + 1 : Nat) : Int)); rw [h9, hk13, hkk, Int.mul_add]; exact Int.add_assoc _ _ _, fun j hj => ?_⟩, by simp only; omega, cov_of ?_ ?_ ?_⟩
    · simp only at hj ⊢
      by_cases e : j = i
      · rw [hr13]; simp only [e, if_true]
        rw [hGM, ← hkk]
        simp only [mkRow, hk1, hk2, hk3, hk4, hk5, hk6, hk7, hk8, hk9, hk10, hk11, hk12]
      · rw [hr13]; simp only [e, if_false]; exact hr j (by omega)
    · cbv
      subst hA
      repeat' first | apply And.intro | exact True.intro | exact congrArg (fun x => DV.v (.int .i64 x)) w13 | exact congrArg (fun x => DV.v (.int .i64 x)) (up64 hlt' hn2) | rfl
    · cbv
      subst hA
      refine ⟨fun q _ => ?_, trivial⟩
      have e0 : real.add 0 (real.nat (Int.ofNat i)) = i := Nat.zero_add i
      simp only [e0]
      first
        | (show (if q = i then _ else eRow (r12 q)) = eRow (r13 q))
        | (show (if q = 0 + i then _ else eRow (r12 q)) = eRow (r13 q); rw [Nat.zero_add])
      simp only [hr13, hr12]
      by_cases e : q = i
      · subst e; first | (simp; done) | (simp; rfl)
      · simp [e]
    · cbv; try (subst hA; repeat' first | apply And.intro | exact True.intro | rfl | exact .inr trivial | exact .inr (Nat.le_refl _))
  · rename_i hge
    have hin : i = n := by
      subst hA
      simp only [real, decide_eq_false_iff_not, Int.ofNat_eq_natCast] at hge
      omega
    subst hin
    have hkx : k = x := by rw [hkk, hx]
    subst hkx
    refine stop_of hA ⟨[(1, .c (.d (eI k)))], [(0, 1, .arr 13 i fun q => eRow (GM q))]⟩ (cov_of ?_ ?_ ?_) ?_
    · cbv
    · cbv
      exact ⟨fun q hq => congrArg (fun y => eRow y) (hr q hq), trivial⟩
    · cbv; try (subst hA; repeat' first | apply And.intro | exact True.intro | rfl | exact .inr trivial | exact .inr (Nat.le_refl _))
    · cbv
      repeat' first
        | apply And.intro
        | exact True.intro
        | with_reducible rfl
        | exact same_of hA rfl
        | refine br_of hA (fun _ => ?_) (fun _ => ?_)
        | exact imp_of hA id
        | (refine imp_of hA ?_; subst hA; simp only [real, Bool.true_and]; exact id)
        | (refine ind_of hA ?_; decide +kernel)
        | fail
def st_hsRow (n : Nat) (rd : Nat → RowT) (i : Nat) (k : Int) : St := ⟨[(5, .c (.d (eI i))), (1, .c (.d (eI k))), (0, .c (.d (.sl 13 n fun i => eRow (rd i))))], []⟩
set_option maxRecDepth 100000 in
set_option maxHeartbeats 2000000 in
theorem helds_Row (s : Int) (hs : 0 ≤ s ∧ s ≤ 100000000) (n : Nat) (hn : n ≤ 1100000) (x : Int) (hx : x = s + 13 * (n : Int)) (GM : Nat → RowT) (hGM : ∀ i, GM i = mkRow (s + 13 * (i : Int))) : Meets Try.prog 94 [.c (.d (.sl 13 n fun i => eRow (GM i))), .c (.d (eI s))] ⟨.one (.c (.d (eI x))), [none, none]⟩ := by
  have hn2 : n ≤ maxLen := Nat.le_trans hn (by decide)
  refine meets_of (H := []) (EX := EXA) ttok mixed Try.func94 rfl (by kernel_rfl) (by decide) ?_
  generalize hA : real = A
  generalize hM : MeetsB Try.prog = M
  cbv
  repeat' first
    | apply And.intro
    | exact True.intro
    | with_reducible rfl
    | exact same_of hA rfl
    | refine br_of hA (fun _ => ?_) (fun _ => ?_)
    | exact imp_of hA id
    | (refine imp_of hA ?_; subst hA; simp only [real, Bool.true_and]; exact id)
    | (refine ind_of hA ?_; decide +kernel)
    | fail
  refine loop_of hA (α := { q : Nat × Int // q.1 ≤ n ∧ q.2 = s + 13 * (q.1 : Int) }) (fun y => st_hsRow n GM y.1.1 y.1.2) (fun y => n - y.1.1) ⟨(0, s), Nat.zero_le _, by simp⟩ ?_ ?_
  · refine cov_of ?_ ?_ ?_
    · cbv; try (subst hA; repeat' first | apply And.intro | exact True.intro | rfl)
    · cbv; try (subst hA; repeat' first | apply And.intro | exact True.intro | rfl)
    · cbv
  rintro ⟨⟨i, k⟩, hi, hkk⟩
  have hi : i ≤ n := hi
  have hkk : k = s + 13 * (i : Int) := hkk
  have hkb : 0 ≤ k ∧ k ≤ 150000000 := by omega
  have e := hGM i
  rw [← hkk] at e
  have w1 : IntKind.i64.wrap (k + 1) = k + 1 := wr1 k hkb
  have w2 : IntKind.i64.wrap (IntKind.i64.wrap (k + 1) + 1) = k + 2 := by rw [w1]; exact wrn k 1 2 hkb (by decide) (by decide)
  have w3 : IntKind.i64.wrap (IntKind.i64.wrap (IntKind.i64.wrap (k + 1) + 1) + 1) = k + 3 := by rw [w2]; exact wrn k 2 3 hkb (by decide) (by decide)
  have w4 : IntKind.i64.wrap (IntKind.i64.wrap (IntKind.i64.wrap (IntKind.i64.wrap (k + 1) + 1) + 1) + 1) = k + 4 := by rw [w3]; exact wrn k 3 4 hkb (by decide) (by decide)
  have w5 : IntKind.i64.wrap (IntKind.i64.wrap (IntKind.i64.wrap (IntKind.i64.wrap (IntKind.i64.wrap (k + 1) + 1) + 1) + 1) + 1) = k + 5 := by rw [w4]; exact wrn k 4 5 hkb (by decide) (by decide)
  have w6 : IntKind.i64.wrap (IntKind.i64.wrap (IntKind.i64.wrap (IntKind.i64.wrap (IntKind.i64.wrap (IntKind.i64.wrap (k + 1) + 1) + 1) + 1) + 1) + 1) = k + 6 := by rw [w5]; exact wrn k 5 6 hkb (by decide) (by decide)
  have w7 : IntKind.i64.wrap (IntKind.i64.wrap (IntKind.i64.wrap (IntKind.i64.wrap (IntKind.i64.wrap (IntKind.i64.wrap (IntKind.i64.wrap (k + 1) + 1) + 1) + 1) + 1) + 1) + 1) = k + 7 := by rw [w6]; exact wrn k 6 7 hkb (by decide) (by decide)
  have w8 : IntKind.i64.wrap (IntKind.i64.wrap (IntKind.i64.wrap (IntKind.i64.wrap (IntKind.i64.wrap (IntKind.i64.wrap (IntKind.i64.wrap (IntKind.i64.wrap (k + 1) + 1) + 1) + 1) + 1) + 1) + 1) + 1) = k + 8 := by rw [w7]; exact wrn k 7 8 hkb (by decide) (by decide)
  have w9 : IntKind.i64.wrap (IntKind.i64.wrap (IntKind.i64.wrap (IntKind.i64.wrap (IntKind.i64.wrap (IntKind.i64.wrap (IntKind.i64.wrap (IntKind.i64.wrap (IntKind.i64.wrap (k + 1) + 1) + 1) + 1) + 1) + 1) + 1) + 1) + 1) = k + 9 := by rw [w8]; exact wrn k 8 9 hkb (by decide) (by decide)
  have w10 : IntKind.i64.wrap (IntKind.i64.wrap (IntKind.i64.wrap (IntKind.i64.wrap (IntKind.i64.wrap (IntKind.i64.wrap (IntKind.i64.wrap (IntKind.i64.wrap (IntKind.i64.wrap (IntKind.i64.wrap (k + 1) + 1) + 1) + 1) + 1) + 1) + 1) + 1) + 1) + 1) = k + 10 := by rw [w9]; exact wrn k 9 10 hkb (by decide) (by decide)
  have w11 : IntKind.i64.wrap (IntKind.i64.wrap (IntKind.i64.wrap (IntKind.i64.wrap (IntKind.i64.wrap (IntKind.i64.wrap (IntKind.i64.wrap (IntKind.i64.wrap (IntKind.i64.wrap (IntKind.i64.wrap (IntKind.i64.wrap (k + 1) + 1) + 1) + 1) + 1) + 1) + 1) + 1) + 1) + 1) + 1) = k + 11 := by rw [w10]; exact wrn k 10 11 hkb (by decide) (by decide)
  have w12 : IntKind.i64.wrap (IntKind.i64.wrap (IntKind.i64.wrap (IntKind.i64.wrap (IntKind.i64.wrap (IntKind.i64.wrap (IntKind.i64.wrap (IntKind.i64.wrap (IntKind.i64.wrap (IntKind.i64.wrap (IntKind.i64.wrap (IntKind.i64.wrap (k + 1) + 1) + 1) + 1) + 1) + 1) + 1) + 1) + 1) + 1) + 1) + 1) = k + 12 := by rw [w11]; exact wrn k 11 12 hkb (by decide) (by decide)
  have w13 : IntKind.i64.wrap (IntKind.i64.wrap (IntKind.i64.wrap (IntKind.i64.wrap (IntKind.i64.wrap (IntKind.i64.wrap (IntKind.i64.wrap (IntKind.i64.wrap (IntKind.i64.wrap (IntKind.i64.wrap (IntKind.i64.wrap (IntKind.i64.wrap (IntKind.i64.wrap (k + 1) + 1) + 1) + 1) + 1) + 1) + 1) + 1) + 1) + 1) + 1) + 1) + 1) = k + 13 := by rw [w12]; exact wrn k 12 13 hkb (by decide) (by decide)
  cbv
  repeat' first
    | apply And.intro
    | exact True.intro
    | with_reducible rfl
    | exact same_of hA rfl
    | refine br_of hA (fun _ => ?_) (fun _ => ?_)
    | exact imp_of hA id
    | (refine imp_of hA ?_; subst hA; simp only [real, Bool.true_and]; exact id)
    | (refine ind_of hA ?_; decide +kernel)
    | (refine inb_of hA fun _ => ?_; subst hA; simp only [real, Bool.and_eq_true, Bool.not_eq_true', Bool.not_eq_false', decide_eq_true_eq, Int.ofNat_eq_natCast, IntKind.wrap_i64] at *; omega)
    | (subst hA; exact fun _ => (by decide : (3 : Int) ≠ 0))
    | fail
  · exfalso
    rename_i hlt h0
    have h : ((GM i).key != k) = true := by subst hA; exact h0
    rw [e] at h
    simp [mkRow] at h
  · exfalso
    rename_i hlt h0 h1
    have h : ((GM i).win.s != IntKind.i64.wrap (k + 1)) = true := by subst hA; exact h1
    rw [e, w1] at h
    simp [mkRow] at h
  · exfalso
    rename_i hlt h0 h1 h2
    have h : ((GM i).win.e != IntKind.i64.wrap (IntKind.i64.wrap (k + 1) + 1)) = true := by subst hA; exact h2
    rw [e, w2] at h
    simp [mkRow] at h
  · exfalso
    rename_i hlt h0 h1 h2 h3
    have h : ((GM i).all.n != IntKind.i64.wrap (IntKind.i64.wrap (IntKind.i64.wrap (k + 1) + 1) + 1)) = true := by subst hA; exact h3
    rw [e, w3] at h
    simp [mkRow] at h
  · exfalso
    rename_i hlt h0 h1 h2 h3 h4
    have h : ((GM i).all.sum != IntKind.i64.wrap (IntKind.i64.wrap (IntKind.i64.wrap (IntKind.i64.wrap (k + 1) + 1) + 1) + 1)) = true := by subst hA; exact h4
    rw [e, w4] at h
    simp [mkRow] at h
  · exfalso
    rename_i hlt h0 h1 h2 h3 h4 h5
    have h : ((GM i).all.least != IntKind.i64.wrap (IntKind.i64.wrap (IntKind.i64.wrap (IntKind.i64.wrap (IntKind.i64.wrap (k + 1) + 1) + 1) + 1) + 1)) = true := by subst hA; exact h5
    rw [e, w5] at h
    simp [mkRow] at h
  · exfalso
    rename_i hlt h0 h1 h2 h3 h4 h5 h6
    have h : ((GM i).all.most != IntKind.i64.wrap (IntKind.i64.wrap (IntKind.i64.wrap (IntKind.i64.wrap (IntKind.i64.wrap (IntKind.i64.wrap (k + 1) + 1) + 1) + 1) + 1) + 1)) = true := by subst hA; exact h6
    rw [e, w6] at h
    simp [mkRow] at h
  · exfalso
    rename_i hlt h0 h1 h2 h3 h4 h5 h6 h7
    have h : ((GM i).fresh.n != IntKind.i64.wrap (IntKind.i64.wrap (IntKind.i64.wrap (IntKind.i64.wrap (IntKind.i64.wrap (IntKind.i64.wrap (IntKind.i64.wrap (k + 1) + 1) + 1) + 1) + 1) + 1) + 1)) = true := by subst hA; exact h7
    rw [e, w7] at h
    simp [mkRow] at h
  · exfalso
    rename_i hlt h0 h1 h2 h3 h4 h5 h6 h7 h8
    have h : ((GM i).fresh.sum != IntKind.i64.wrap (IntKind.i64.wrap (IntKind.i64.wrap (IntKind.i64.wrap (IntKind.i64.wrap (IntKind.i64.wrap (IntKind.i64.wrap (IntKind.i64.wrap (k + 1) + 1) + 1) + 1) + 1) + 1) + 1) + 1)) = true := by subst hA; exact h8
    rw [e, w8] at h
    simp [mkRow] at h
  · exfalso
    rename_i hlt h0 h1 h2 h3 h4 h5 h6 h7 h8 h9
    have h : ((GM i).fresh.least != IntKind.i64.wrap (IntKind.i64.wrap (IntKind.i64.wrap (IntKind.i64.wrap (IntKind.i64.wrap (IntKind.i64.wrap (IntKind.i64.wrap (IntKind.i64.wrap (IntKind.i64.wrap (k + 1) + 1) + 1) + 1) + 1) + 1) + 1) + 1) + 1)) = true := by subst hA; exact h9
    rw [e, w9] at h
    simp [mkRow] at h
  · exfalso
    rename_i hlt h0 h1 h2 h3 h4 h5 h6 h7 h8 h9 h10
    have h : ((GM i).fresh.most != IntKind.i64.wrap (IntKind.i64.wrap (IntKind.i64.wrap (IntKind.i64.wrap (IntKind.i64.wrap (IntKind.i64.wrap (IntKind.i64.wrap (IntKind.i64.wrap (IntKind.i64.wrap (IntKind.i64.wrap (k + 1) + 1) + 1) + 1) + 1) + 1) + 1) + 1) + 1) + 1)) = true := by subst hA; exact h10
    rw [e, w10] at h
    simp [mkRow] at h
  · exfalso
    rename_i hlt h0 h1 h2 h3 h4 h5 h6 h7 h8 h9 h10 h11
    have h : ((GM i).told != IntKind.i64.wrap (IntKind.i64.wrap (IntKind.i64.wrap (IntKind.i64.wrap (IntKind.i64.wrap (IntKind.i64.wrap (IntKind.i64.wrap (IntKind.i64.wrap (IntKind.i64.wrap (IntKind.i64.wrap (IntKind.i64.wrap (k + 1) + 1) + 1) + 1) + 1) + 1) + 1) + 1) + 1) + 1) + 1)) = true := by subst hA; exact h11
    rw [e, w11] at h
    simp [mkRow] at h
  · exfalso
    rename_i hlt h0 h1 h2 h3 h4 h5 h6 h7 h8 h9 h10 h11 h12
    have h : (!((GM i).timely == ((IntKind.i64.wrap (IntKind.i64.wrap (IntKind.i64.wrap (IntKind.i64.wrap (IntKind.i64.wrap (IntKind.i64.wrap (IntKind.i64.wrap (IntKind.i64.wrap (IntKind.i64.wrap (IntKind.i64.wrap (IntKind.i64.wrap (IntKind.i64.wrap (k + 1) + 1) + 1) + 1) + 1) + 1) + 1) + 1) + 1) + 1) + 1) + 1)).tmod 3 == 0))) = true := by subst hA; exact h12
    rw [e, w12] at h
    simp [mkRow] at h
  · rename_i hlt h0 h1 h2 h3 h4 h5 h6 h7 h8 h9 h10 h11 h12
    have hlt' : i < n := by subst hA; simp only [real, decide_eq_true_eq, Int.ofNat_eq_natCast] at hlt; omega
    have h9 : ((i + 1 : Nat) : Int) = (i : Int) + 1 := rfl
    obtain ⟨kk, hkk2⟩ : ∃ z : Int, z = k + 13 := ⟨_, rfl⟩
    replace w13 := w13.trans hkk2.symm
    refine ⟨⟨(i + 1, kk), by simp only; omega, by (show kk = s + 13 * ((i + 1 : Nat) : Int)); rw [h9, hkk2, hkk, Int.mul_add]; exact Int.add_assoc _ _ _⟩, by simp only; omega, cov_of ?_ ?_ ?_⟩
    · cbv
      subst hA
      repeat' first | apply And.intro | exact True.intro | exact congrArg (fun x => DV.v (.int .i64 x)) (up64 hlt' hn2) | exact congrArg (fun x => DV.v (.int .i64 x)) w13 | rfl
    · cbv
    · cbv
  · rename_i hge
    have hin : i = n := by
      subst hA
      simp only [real, decide_eq_false_iff_not, Int.ofNat_eq_natCast] at hge
      omega
    subst hin
    exact congrArg (fun x => XA.one (.c (.d (eI x)))) (by rw [hkk, hx])
end Go.Rk
/- Marks. -/
namespace Go.Rk
set_option linter.unusedSimpArgs false
set_option linter.unusedVariables false
open Go.Proofs
def st_msItm (n i : Nat) (k : Int) (rm : Nat → ItmT) : St := ⟨[(5, .c (.d (eI i))), (1, .c (.d (eI k))), (0, .c (.own 0 0 n 1))], [(0, 1, .arr 5 n fun i => eItm (rm i))]⟩
set_option maxRecDepth 100000 in
set_option maxHeartbeats 1000000 in
theorem marks_Itm (s : Int) (hs : 0 ≤ s ∧ s ≤ 100000000) (n : Nat) (hn : n ≤ 1100000) (rd : Nat → ItmT) (x : Int) (hx : x = s + 5 * (n : Int)) (GM : Nat → ItmT) (hGM : ∀ i, GM i = mkItm (s + 5 * (i : Int))) : Meets Try.prog 90 [.c (.own 5 n fun i => eItm (rd i)), .c (.d (eI s))] ⟨.one (.c (.d (eI x))), [some (.own 5 n fun i => eItm (GM i)), none]⟩ := by
  have hn2 : n ≤ maxLen := Nat.le_trans hn (by decide)
  refine meets_of (H := [6, 8, 10, 12, 14]) (EX := EXA) ttok mixed Try.func90 rfl (by kernel_rfl) (by decide) ?_
  generalize hA : real = A
  generalize hM : MeetsB Try.prog = M
  cbv
  repeat' first
    | apply And.intro
    | exact True.intro
    | with_reducible rfl
    | exact same_of hA rfl
    | refine br_of hA (fun _ => ?_) (fun _ => ?_)
    | exact imp_of hA id
    | (refine imp_of hA ?_; subst hA; simp only [real, Bool.true_and]; exact id)
    | (refine ind_of hA ?_; decide +kernel)
    | fail
  refine loop_of hA (α := { q : Nat × Int × (Nat → ItmT) // q.1 ≤ n ∧ q.2.1 = s + 5 * (q.1 : Int) ∧ ∀ j, j < q.1 → q.2.2 j = GM j }) (fun y => st_msItm n y.1.1 y.1.2.1 y.1.2.2) (fun y => n - y.1.1) ⟨(0, s, rd), Nat.zero_le _, by simp, fun j h => absurd h (Nat.not_lt_zero j)⟩ ?_ ?_
  · refine cov_of ?_ ?_ ?_
    · cbv; try (subst hA; repeat' first | apply And.intro | exact True.intro | rfl)
    · cbv; try (subst hA; repeat' first | apply And.intro | exact True.intro | rfl | (intro _ _; rfl))
    · cbv; try (subst hA; repeat' first | apply And.intro | exact True.intro | rfl | exact .inr trivial | exact .inr (Nat.le_refl _))
  rintro ⟨⟨i, k, rm⟩, hi, hkk, hr⟩
  have hi : i ≤ n := hi
  have hkk : k = s + 5 * (i : Int) := hkk
  have hr : ∀ j, j < i → rm j = GM j := hr
  obtain ⟨k1, hk1⟩ : ∃ z : Int, z = k + 1 := ⟨_, rfl⟩
  have w1 : IntKind.i64.wrap (k + 1) = k1 := by rw [IntWalk.i64_in _ (by omega)]; omega
  obtain ⟨r1, hr1⟩ : ∃ r : Nat → ItmT, r = fun q => if q = i then (⟨k, (rm i).t, (rm i).key, (rm i).v, (rm i).n⟩ : ItmT) else rm q := ⟨_, rfl⟩
  obtain ⟨k2, hk2⟩ : ∃ z : Int, z = k + 2 := ⟨_, rfl⟩
  have w2 : IntKind.i64.wrap (k1 + 1) = k2 := by rw [IntWalk.i64_in _ (by omega)]; omega
  obtain ⟨r2, hr2⟩ : ∃ r : Nat → ItmT, r = fun q => if q = i then (⟨k, k1, (rm i).key, (rm i).v, (rm i).n⟩ : ItmT) else rm q := ⟨_, rfl⟩
  obtain ⟨k3, hk3⟩ : ∃ z : Int, z = k + 3 := ⟨_, rfl⟩
  have w3 : IntKind.i64.wrap (k2 + 1) = k3 := by rw [IntWalk.i64_in _ (by omega)]; omega
  obtain ⟨r3, hr3⟩ : ∃ r : Nat → ItmT, r = fun q => if q = i then (⟨k, k1, k2, (rm i).v, (rm i).n⟩ : ItmT) else rm q := ⟨_, rfl⟩
  obtain ⟨k4, hk4⟩ : ∃ z : Int, z = k + 4 := ⟨_, rfl⟩
  have w4 : IntKind.i64.wrap (k3 + 1) = k4 := by rw [IntWalk.i64_in _ (by omega)]; omega
  obtain ⟨r4, hr4⟩ : ∃ r : Nat → ItmT, r = fun q => if q = i then (⟨k, k1, k2, k3, (rm i).n⟩ : ItmT) else rm q := ⟨_, rfl⟩
  obtain ⟨k5, hk5⟩ : ∃ z : Int, z = k + 5 := ⟨_, rfl⟩
  have w5 : IntKind.i64.wrap (k4 + 1) = k5 := by rw [IntWalk.i64_in _ (by omega)]; omega
  obtain ⟨r5, hr5⟩ : ∃ r : Nat → ItmT, r = fun q => if q = i then (⟨k, k1, k2, k3, k4⟩ : ItmT) else rm q := ⟨_, rfl⟩
  cbv
  repeat' first
    | apply And.intro
    | exact True.intro
    | with_reducible rfl
    | exact same_of hA rfl
    | refine br_of hA (fun _ => ?_) (fun _ => ?_)
    | exact imp_of hA id
    | (refine imp_of hA ?_; subst hA; simp only [real, Bool.true_and]; exact id)
    | (refine ind_of hA ?_; decide +kernel)
    | (refine inb_of hA fun _ => ?_; subst hA; simp only [real, Bool.and_eq_true, Bool.not_eq_true', Bool.not_eq_false', decide_eq_true_eq, Int.ofNat_eq_natCast, IntKind.wrap_i64] at *; omega)
    | (subst hA; exact fun _ => (by decide : (3 : Int) ≠ 0))
    | fail
  · rename_i hlt
    have hlt' : i < n := by subst hA; simp only [real, decide_eq_true_eq, Int.ofNat_eq_natCast] at hlt; omega
    refine stop_of hA (st_msItm n i k1 r1) (cov_of ?_ ?_ ?_) ?_
    · cbv
      subst hA
      repeat' first | apply And.intro | exact True.intro | exact congrArg (fun x => DV.v (.int .i64 x)) w1 | rfl
    · cbv
      subst hA
      refine ⟨fun q _ => ?_, trivial⟩
      have e0 : real.add 0 (real.nat (Int.ofNat i)) = i := Nat.zero_add i
      simp only [e0]
      first
        | (show (if q = i then _ else eItm (rm q)) = eItm (r1 q))
        | (show (if q = 0 + i then _ else eItm (rm q)) = eItm (r1 q); rw [Nat.zero_add])
      simp only [hr1]
      by_cases e : q = i
      · subst e; first | (simp; done) | (simp; rfl)
      · simp [e]
    · cbv; try (subst hA; repeat' first | apply And.intro | exact True.intro | rfl | exact .inr trivial | exact .inr (Nat.le_refl _))
    cbv
    repeat' first
      | apply And.intro
      | exact True.intro
      | with_reducible rfl
      | exact same_of hA rfl
      | refine br_of hA (fun _ => ?_) (fun _ => ?_)
      | exact imp_of hA id
      | (refine imp_of hA ?_; subst hA; simp only [real, Bool.true_and]; exact id)
      | (refine ind_of hA ?_; decide +kernel)
      | (refine inb_of hA fun _ => ?_; subst hA; simp only [real, Bool.and_eq_true, Bool.not_eq_true', Bool.not_eq_false', decide_eq_true_eq, Int.ofNat_eq_natCast, IntKind.wrap_i64] at *; omega)
      | (subst hA; exact fun _ => (by decide : (3 : Int) ≠ 0))
      | fail
    refine stop_of hA (st_msItm n i k2 r2) (cov_of ?_ ?_ ?_) ?_
    · cbv
      subst hA
      repeat' first | apply And.intro | exact True.intro | exact congrArg (fun x => DV.v (.int .i64 x)) w2 | rfl
    · cbv
      subst hA
      refine ⟨fun q _ => ?_, trivial⟩
      have e0 : real.add 0 (real.nat (Int.ofNat i)) = i := Nat.zero_add i
      simp only [e0]
      first
        | (show (if q = i then _ else eItm (r1 q)) = eItm (r2 q))
        | (show (if q = 0 + i then _ else eItm (r1 q)) = eItm (r2 q); rw [Nat.zero_add])
      simp only [hr2, hr1]
      by_cases e : q = i
      · subst e; first | (simp; done) | (simp; rfl)
      · simp [e]
    · cbv; try (subst hA; repeat' first | apply And.intro | exact True.intro | rfl | exact .inr trivial | exact .inr (Nat.le_refl _))
    cbv
    repeat' first
      | apply And.intro
      | exact True.intro
      | with_reducible rfl
      | exact same_of hA rfl
      | refine br_of hA (fun _ => ?_) (fun _ => ?_)
      | exact imp_of hA id
      | (refine imp_of hA ?_; subst hA; simp only [real, Bool.true_and]; exact id)
      | (refine ind_of hA ?_; decide +kernel)
      | (refine inb_of hA fun _ => ?_; subst hA; simp only [real, Bool.and_eq_true, Bool.not_eq_true', Bool.not_eq_false', decide_eq_true_eq, Int.ofNat_eq_natCast, IntKind.wrap_i64] at *; omega)
      | (subst hA; exact fun _ => (by decide : (3 : Int) ≠ 0))
      | fail
    refine stop_of hA (st_msItm n i k3 r3) (cov_of ?_ ?_ ?_) ?_
    · cbv
      subst hA
      repeat' first | apply And.intro | exact True.intro | exact congrArg (fun x => DV.v (.int .i64 x)) w3 | rfl
    · cbv
      subst hA
      refine ⟨fun q _ => ?_, trivial⟩
      have e0 : real.add 0 (real.nat (Int.ofNat i)) = i := Nat.zero_add i
      simp only [e0]
      first
        | (show (if q = i then _ else eItm (r2 q)) = eItm (r3 q))
        | (show (if q = 0 + i then _ else eItm (r2 q)) = eItm (r3 q); rw [Nat.zero_add])
      simp only [hr3, hr2]
      by_cases e : q = i
      · subst e; first | (simp; done) | (simp; rfl)
      · simp [e]
    · cbv; try (subst hA; repeat' first | apply And.intro | exact True.intro | rfl | exact .inr trivial | exact .inr (Nat.le_refl _))
    cbv
    repeat' first
      | apply And.intro
      | exact True.intro
      | with_reducible rfl
      | exact same_of hA rfl
      | refine br_of hA (fun _ => ?_) (fun _ => ?_)
      | exact imp_of hA id
      | (refine imp_of hA ?_; subst hA; simp only [real, Bool.true_and]; exact id)
      | (refine ind_of hA ?_; decide +kernel)
      | (refine inb_of hA fun _ => ?_; subst hA; simp only [real, Bool.and_eq_true, Bool.not_eq_true', Bool.not_eq_false', decide_eq_true_eq, Int.ofNat_eq_natCast, IntKind.wrap_i64] at *; omega)
      | (subst hA; exact fun _ => (by decide : (3 : Int) ≠ 0))
      | fail
    refine stop_of hA (st_msItm n i k4 r4) (cov_of ?_ ?_ ?_) ?_
    · cbv
      subst hA
      repeat' first | apply And.intro | exact True.intro | exact congrArg (fun x => DV.v (.int .i64 x)) w4 | rfl
    · cbv
      subst hA
      refine ⟨fun q _ => ?_, trivial⟩
      have e0 : real.add 0 (real.nat (Int.ofNat i)) = i := Nat.zero_add i
      simp only [e0]
      first
        | (show (if q = i then _ else eItm (r3 q)) = eItm (r4 q))
        | (show (if q = 0 + i then _ else eItm (r3 q)) = eItm (r4 q); rw [Nat.zero_add])
      simp only [hr4, hr3]
      by_cases e : q = i
      · subst e; first | (simp; done) | (simp; rfl)
      · simp [e]
    · cbv; try (subst hA; repeat' first | apply And.intro | exact True.intro | rfl | exact .inr trivial | exact .inr (Nat.le_refl _))
    cbv
    repeat' first
      | apply And.intro
      | exact True.intro
      | with_reducible rfl
      | exact same_of hA rfl
      | refine br_of hA (fun _ => ?_) (fun _ => ?_)
      | exact imp_of hA id
      | (refine imp_of hA ?_; subst hA; simp only [real, Bool.true_and]; exact id)
      | (refine ind_of hA ?_; decide +kernel)
      | (refine inb_of hA fun _ => ?_; subst hA; simp only [real, Bool.and_eq_true, Bool.not_eq_true', Bool.not_eq_false', decide_eq_true_eq, Int.ofNat_eq_natCast, IntKind.wrap_i64] at *; omega)
      | (subst hA; exact fun _ => (by decide : (3 : Int) ≠ 0))
      | fail
    have h9 : ((i + 1 : Nat) : Int) = (i : Int) + 1 := rfl
    refine ⟨⟨(i + 1, k5, r5), by simp only; omega, by (show k5 = s + 5 * ((i + 1 : Nat) : Int)); rw [h9, hk5, hkk, Int.mul_add]; exact Int.add_assoc _ _ _, fun j hj => ?_⟩, by simp only; omega, cov_of ?_ ?_ ?_⟩
    · simp only at hj ⊢
      by_cases e : j = i
      · rw [hr5]; simp only [e, if_true]
        rw [hGM, ← hkk]
        simp only [mkItm, hk1, hk2, hk3, hk4]
      · rw [hr5]; simp only [e, if_false]; exact hr j (by omega)
    · cbv
      subst hA
      repeat' first | apply And.intro | exact True.intro | exact congrArg (fun x => DV.v (.int .i64 x)) w5 | exact congrArg (fun x => DV.v (.int .i64 x)) (up64 hlt' hn2) | rfl
    · cbv
      subst hA
      refine ⟨fun q _ => ?_, trivial⟩
      have e0 : real.add 0 (real.nat (Int.ofNat i)) = i := Nat.zero_add i
      simp only [e0]
      first
        | (show (if q = i then _ else eItm (r4 q)) = eItm (r5 q))
        | (show (if q = 0 + i then _ else eItm (r4 q)) = eItm (r5 q); rw [Nat.zero_add])
      simp only [hr5, hr4]
      by_cases e : q = i
      · subst e; first | (simp; done) | (simp; rfl)
      · simp [e]
    · cbv; try (subst hA; repeat' first | apply And.intro | exact True.intro | rfl | exact .inr trivial | exact .inr (Nat.le_refl _))
  · rename_i hge
    have hin : i = n := by
      subst hA
      simp only [real, decide_eq_false_iff_not, Int.ofNat_eq_natCast] at hge
      omega
    subst hin
    have hkx : k = x := by rw [hkk, hx]
    subst hkx
    refine stop_of hA ⟨[(1, .c (.d (eI k)))], [(0, 1, .arr 5 i fun q => eItm (GM q))]⟩ (cov_of ?_ ?_ ?_) ?_
    · cbv
    · cbv
      exact ⟨fun q hq => congrArg (fun y => eItm y) (hr q hq), trivial⟩
    · cbv; try (subst hA; repeat' first | apply And.intro | exact True.intro | rfl | exact .inr trivial | exact .inr (Nat.le_refl _))
    · cbv
      repeat' first
        | apply And.intro
        | exact True.intro
        | with_reducible rfl
        | exact same_of hA rfl
        | refine br_of hA (fun _ => ?_) (fun _ => ?_)
        | exact imp_of hA id
        | (refine imp_of hA ?_; subst hA; simp only [real, Bool.true_and]; exact id)
        | (refine ind_of hA ?_; decide +kernel)
        | fail
def st_hsItm (n : Nat) (rd : Nat → ItmT) (i : Nat) (k : Int) : St := ⟨[(5, .c (.d (eI i))), (1, .c (.d (eI k))), (0, .c (.d (.sl 5 n fun i => eItm (rd i))))], []⟩
set_option maxRecDepth 100000 in
set_option maxHeartbeats 2000000 in
theorem helds_Itm (s : Int) (hs : 0 ≤ s ∧ s ≤ 100000000) (n : Nat) (hn : n ≤ 1100000) (x : Int) (hx : x = s + 5 * (n : Int)) (GM : Nat → ItmT) (hGM : ∀ i, GM i = mkItm (s + 5 * (i : Int))) : Meets Try.prog 93 [.c (.d (.sl 5 n fun i => eItm (GM i))), .c (.d (eI s))] ⟨.one (.c (.d (eI x))), [none, none]⟩ := by
  have hn2 : n ≤ maxLen := Nat.le_trans hn (by decide)
  refine meets_of (H := []) (EX := EXA) ttok mixed Try.func93 rfl (by kernel_rfl) (by decide) ?_
  generalize hA : real = A
  generalize hM : MeetsB Try.prog = M
  cbv
  repeat' first
    | apply And.intro
    | exact True.intro
    | with_reducible rfl
    | exact same_of hA rfl
    | refine br_of hA (fun _ => ?_) (fun _ => ?_)
    | exact imp_of hA id
    | (refine imp_of hA ?_; subst hA; simp only [real, Bool.true_and]; exact id)
    | (refine ind_of hA ?_; decide +kernel)
    | fail
  refine loop_of hA (α := { q : Nat × Int // q.1 ≤ n ∧ q.2 = s + 5 * (q.1 : Int) }) (fun y => st_hsItm n GM y.1.1 y.1.2) (fun y => n - y.1.1) ⟨(0, s), Nat.zero_le _, by simp⟩ ?_ ?_
  · refine cov_of ?_ ?_ ?_
    · cbv; try (subst hA; repeat' first | apply And.intro | exact True.intro | rfl)
    · cbv; try (subst hA; repeat' first | apply And.intro | exact True.intro | rfl)
    · cbv
  rintro ⟨⟨i, k⟩, hi, hkk⟩
  have hi : i ≤ n := hi
  have hkk : k = s + 5 * (i : Int) := hkk
  have hkb : 0 ≤ k ∧ k ≤ 150000000 := by omega
  have e := hGM i
  rw [← hkk] at e
  have w1 : IntKind.i64.wrap (k + 1) = k + 1 := wr1 k hkb
  have w2 : IntKind.i64.wrap (IntKind.i64.wrap (k + 1) + 1) = k + 2 := by rw [w1]; exact wrn k 1 2 hkb (by decide) (by decide)
  have w3 : IntKind.i64.wrap (IntKind.i64.wrap (IntKind.i64.wrap (k + 1) + 1) + 1) = k + 3 := by rw [w2]; exact wrn k 2 3 hkb (by decide) (by decide)
  have w4 : IntKind.i64.wrap (IntKind.i64.wrap (IntKind.i64.wrap (IntKind.i64.wrap (k + 1) + 1) + 1) + 1) = k + 4 := by rw [w3]; exact wrn k 3 4 hkb (by decide) (by decide)
  have w5 : IntKind.i64.wrap (IntKind.i64.wrap (IntKind.i64.wrap (IntKind.i64.wrap (IntKind.i64.wrap (k + 1) + 1) + 1) + 1) + 1) = k + 5 := by rw [w4]; exact wrn k 4 5 hkb (by decide) (by decide)
  cbv
  repeat' first
    | apply And.intro
    | exact True.intro
    | with_reducible rfl
    | exact same_of hA rfl
    | refine br_of hA (fun _ => ?_) (fun _ => ?_)
    | exact imp_of hA id
    | (refine imp_of hA ?_; subst hA; simp only [real, Bool.true_and]; exact id)
    | (refine ind_of hA ?_; decide +kernel)
    | (refine inb_of hA fun _ => ?_; subst hA; simp only [real, Bool.and_eq_true, Bool.not_eq_true', Bool.not_eq_false', decide_eq_true_eq, Int.ofNat_eq_natCast, IntKind.wrap_i64] at *; omega)
    | (subst hA; exact fun _ => (by decide : (3 : Int) ≠ 0))
    | fail
  · exfalso
    rename_i hlt h0
    have h : ((GM i).kind != k) = true := by subst hA; exact h0
    rw [e] at h
    simp [mkItm] at h
  · exfalso
    rename_i hlt h0 h1
    have h : ((GM i).t != IntKind.i64.wrap (k + 1)) = true := by subst hA; exact h1
    rw [e, w1] at h
    simp [mkItm] at h
  · exfalso
    rename_i hlt h0 h1 h2
    have h : ((GM i).key != IntKind.i64.wrap (IntKind.i64.wrap (k + 1) + 1)) = true := by subst hA; exact h2
    rw [e, w2] at h
    simp [mkItm] at h
  · exfalso
    rename_i hlt h0 h1 h2 h3
    have h : ((GM i).v != IntKind.i64.wrap (IntKind.i64.wrap (IntKind.i64.wrap (k + 1) + 1) + 1)) = true := by subst hA; exact h3
    rw [e, w3] at h
    simp [mkItm] at h
  · exfalso
    rename_i hlt h0 h1 h2 h3 h4
    have h : ((GM i).n != IntKind.i64.wrap (IntKind.i64.wrap (IntKind.i64.wrap (IntKind.i64.wrap (k + 1) + 1) + 1) + 1)) = true := by subst hA; exact h4
    rw [e, w4] at h
    simp [mkItm] at h
  · rename_i hlt h0 h1 h2 h3 h4
    have hlt' : i < n := by subst hA; simp only [real, decide_eq_true_eq, Int.ofNat_eq_natCast] at hlt; omega
    have h9 : ((i + 1 : Nat) : Int) = (i : Int) + 1 := rfl
    obtain ⟨kk, hkk2⟩ : ∃ z : Int, z = k + 5 := ⟨_, rfl⟩
    replace w5 := w5.trans hkk2.symm
    refine ⟨⟨(i + 1, kk), by simp only; omega, by (show kk = s + 5 * ((i + 1 : Nat) : Int)); rw [h9, hkk2, hkk, Int.mul_add]; exact Int.add_assoc _ _ _⟩, by simp only; omega, cov_of ?_ ?_ ?_⟩
    · cbv
      subst hA
      repeat' first | apply And.intro | exact True.intro | exact congrArg (fun x => DV.v (.int .i64 x)) (up64 hlt' hn2) | exact congrArg (fun x => DV.v (.int .i64 x)) w5 | rfl
    · cbv
    · cbv
  · rename_i hge
    have hin : i = n := by
      subst hA
      simp only [real, decide_eq_false_iff_not, Int.ofNat_eq_natCast] at hge
      omega
    subst hin
    exact congrArg (fun x => XA.one (.c (.d (eI x)))) (by rw [hkk, hx])
def st_msPane (n i : Nat) (k : Int) (rm : Nat → PaneT) : St := ⟨[(5, .c (.d (eI i))), (1, .c (.d (eI k))), (0, .c (.own 0 0 n 1))], [(0, 1, .arr 9 n fun i => ePane (rm i))]⟩
set_option maxRecDepth 100000 in
set_option maxHeartbeats 1000000 in
theorem marks_Pane (s : Int) (hs : 0 ≤ s ∧ s ≤ 100000000) (n : Nat) (hn : n ≤ 1100000) (rd : Nat → PaneT) (x : Int) (hx : x = s + 9 * (n : Int)) (GM : Nat → PaneT) (hGM : ∀ i, GM i = mkPane (s + 9 * (i : Int))) : Meets Try.prog 91 [.c (.own 9 n fun i => ePane (rd i)), .c (.d (eI s))] ⟨.one (.c (.d (eI x))), [some (.own 9 n fun i => ePane (GM i)), none]⟩ := by
  have hn2 : n ≤ maxLen := Nat.le_trans hn (by decide)
  refine meets_of (H := [6, 8, 10, 12, 14, 16, 18, 20, 22]) (EX := EXA) ttok mixed Try.func91 rfl (by kernel_rfl) (by decide) ?_
  generalize hA : real = A
  generalize hM : MeetsB Try.prog = M
  cbv
  repeat' first
    | apply And.intro
    | exact True.intro
    | with_reducible rfl
    | exact same_of hA rfl
    | refine br_of hA (fun _ => ?_) (fun _ => ?_)
    | exact imp_of hA id
    | (refine imp_of hA ?_; subst hA; simp only [real, Bool.true_and]; exact id)
    | (refine ind_of hA ?_; decide +kernel)
    | fail
  refine loop_of hA (α := { q : Nat × Int × (Nat → PaneT) // q.1 ≤ n ∧ q.2.1 = s + 9 * (q.1 : Int) ∧ ∀ j, j < q.1 → q.2.2 j = GM j }) (fun y => st_msPane n y.1.1 y.1.2.1 y.1.2.2) (fun y => n - y.1.1) ⟨(0, s, rd), Nat.zero_le _, by simp, fun j h => absurd h (Nat.not_lt_zero j)⟩ ?_ ?_
  · refine cov_of ?_ ?_ ?_
    · cbv; try (subst hA; repeat' first | apply And.intro | exact True.intro | rfl)
    · cbv; try (subst hA; repeat' first | apply And.intro | exact True.intro | rfl | (intro _ _; rfl))
    · cbv; try (subst hA; repeat' first | apply And.intro | exact True.intro | rfl | exact .inr trivial | exact .inr (Nat.le_refl _))
  rintro ⟨⟨i, k, rm⟩, hi, hkk, hr⟩
  have hi : i ≤ n := hi
  have hkk : k = s + 9 * (i : Int) := hkk
  have hr : ∀ j, j < i → rm j = GM j := hr
  obtain ⟨k1, hk1⟩ : ∃ z : Int, z = k + 1 := ⟨_, rfl⟩
  have w1 : IntKind.i64.wrap (k + 1) = k1 := by rw [IntWalk.i64_in _ (by omega)]; omega
  obtain ⟨r1, hr1⟩ : ∃ r : Nat → PaneT, r = fun q => if q = i then (⟨k, ⟨(rm i).win.s, (rm i).win.e⟩, (rm i).no, (rm i).kind, ⟨(rm i).agg.n, (rm i).agg.sum, (rm i).agg.least, (rm i).agg.most⟩⟩ : PaneT) else rm q := ⟨_, rfl⟩
  obtain ⟨k2, hk2⟩ : ∃ z : Int, z = k + 2 := ⟨_, rfl⟩
  have w2 : IntKind.i64.wrap (k1 + 1) = k2 := by rw [IntWalk.i64_in _ (by omega)]; omega
  obtain ⟨r2, hr2⟩ : ∃ r : Nat → PaneT, r = fun q => if q = i then (⟨k, ⟨k1, (rm i).win.e⟩, (rm i).no, (rm i).kind, ⟨(rm i).agg.n, (rm i).agg.sum, (rm i).agg.least, (rm i).agg.most⟩⟩ : PaneT) else rm q := ⟨_, rfl⟩
  obtain ⟨k3, hk3⟩ : ∃ z : Int, z = k + 3 := ⟨_, rfl⟩
  have w3 : IntKind.i64.wrap (k2 + 1) = k3 := by rw [IntWalk.i64_in _ (by omega)]; omega
  obtain ⟨r3, hr3⟩ : ∃ r : Nat → PaneT, r = fun q => if q = i then (⟨k, ⟨k1, k2⟩, (rm i).no, (rm i).kind, ⟨(rm i).agg.n, (rm i).agg.sum, (rm i).agg.least, (rm i).agg.most⟩⟩ : PaneT) else rm q := ⟨_, rfl⟩
  obtain ⟨k4, hk4⟩ : ∃ z : Int, z = k + 4 := ⟨_, rfl⟩
  have w4 : IntKind.i64.wrap (k3 + 1) = k4 := by rw [IntWalk.i64_in _ (by omega)]; omega
  obtain ⟨r4, hr4⟩ : ∃ r : Nat → PaneT, r = fun q => if q = i then (⟨k, ⟨k1, k2⟩, k3, (rm i).kind, ⟨(rm i).agg.n, (rm i).agg.sum, (rm i).agg.least, (rm i).agg.most⟩⟩ : PaneT) else rm q := ⟨_, rfl⟩
  obtain ⟨k5, hk5⟩ : ∃ z : Int, z = k + 5 := ⟨_, rfl⟩
  have w5 : IntKind.i64.wrap (k4 + 1) = k5 := by rw [IntWalk.i64_in _ (by omega)]; omega
  obtain ⟨r5, hr5⟩ : ∃ r : Nat → PaneT, r = fun q => if q = i then (⟨k, ⟨k1, k2⟩, k3, k4, ⟨(rm i).agg.n, (rm i).agg.sum, (rm i).agg.least, (rm i).agg.most⟩⟩ : PaneT) else rm q := ⟨_, rfl⟩
  obtain ⟨k6, hk6⟩ : ∃ z : Int, z = k + 6 := ⟨_, rfl⟩
  have w6 : IntKind.i64.wrap (k5 + 1) = k6 := by rw [IntWalk.i64_in _ (by omega)]; omega
  obtain ⟨r6, hr6⟩ : ∃ r : Nat → PaneT, r = fun q => if q = i then (⟨k, ⟨k1, k2⟩, k3, k4, ⟨k5, (rm i).agg.sum, (rm i).agg.least, (rm i).agg.most⟩⟩ : PaneT) else rm q := ⟨_, rfl⟩
  obtain ⟨k7, hk7⟩ : ∃ z : Int, z = k + 7 := ⟨_, rfl⟩
  have w7 : IntKind.i64.wrap (k6 + 1) = k7 := by rw [IntWalk.i64_in _ (by omega)]; omega
  obtain ⟨r7, hr7⟩ : ∃ r : Nat → PaneT, r = fun q => if q = i then (⟨k, ⟨k1, k2⟩, k3, k4, ⟨k5, k6, (rm i).agg.least, (rm i).agg.most⟩⟩ : PaneT) else rm q := ⟨_, rfl⟩
  obtain ⟨k8, hk8⟩ : ∃ z : Int, z = k + 8 := ⟨_, rfl⟩
  have w8 : IntKind.i64.wrap (k7 + 1) = k8 := by rw [IntWalk.i64_in _ (by omega)]; omega
  obtain ⟨r8, hr8⟩ : ∃ r : Nat → PaneT, r = fun q => if q = i then (⟨k, ⟨k1, k2⟩, k3, k4, ⟨k5, k6, k7, (rm i).agg.most⟩⟩ : PaneT) else rm q := ⟨_, rfl⟩
  obtain ⟨k9, hk9⟩ : ∃ z : Int, z = k + 9 := ⟨_, rfl⟩
  have w9 : IntKind.i64.wrap (k8 + 1) = k9 := by rw [IntWalk.i64_in _ (by omega)]; omega
  obtain ⟨r9, hr9⟩ : ∃ r : Nat → PaneT, r = fun q => if q = i then (⟨k, ⟨k1, k2⟩, k3, k4, ⟨k5, k6, k7, k8⟩⟩ : PaneT) else rm q := ⟨_, rfl⟩
  cbv
  repeat' first
    | apply And.intro
    | exact True.intro
    | with_reducible rfl
    | exact same_of hA rfl
    | refine br_of hA (fun _ => ?_) (fun _ => ?_)
    | exact imp_of hA id
    | (refine imp_of hA ?_; subst hA; simp only [real, Bool.true_and]; exact id)
    | (refine ind_of hA ?_; decide +kernel)
    | (refine inb_of hA fun _ => ?_; subst hA; simp only [real, Bool.and_eq_true, Bool.not_eq_true', Bool.not_eq_false', decide_eq_true_eq, Int.ofNat_eq_natCast, IntKind.wrap_i64] at *; omega)
    | (subst hA; exact fun _ => (by decide : (3 : Int) ≠ 0))
    | fail
  · rename_i hlt
    have hlt' : i < n := by subst hA; simp only [real, decide_eq_true_eq, Int.ofNat_eq_natCast] at hlt; omega
    refine stop_of hA (st_msPane n i k1 r1) (cov_of ?_ ?_ ?_) ?_
    · cbv
      subst hA
      repeat' first | apply And.intro | exact True.intro | exact congrArg (fun x => DV.v (.int .i64 x)) w1 | rfl
    · cbv
      subst hA
      refine ⟨fun q _ => ?_, trivial⟩
      have e0 : real.add 0 (real.nat (Int.ofNat i)) = i := Nat.zero_add i
      simp only [e0]
      first
        | (show (if q = i then _ else ePane (rm q)) = ePane (r1 q))
        | (show (if q = 0 + i then _ else ePane (rm q)) = ePane (r1 q); rw [Nat.zero_add])
      simp only [hr1]
      by_cases e : q = i
      · subst e; first | (simp; done) | (simp; rfl)
      · simp [e]
    · cbv; try (subst hA; repeat' first | apply And.intro | exact True.intro | rfl | exact .inr trivial | exact .inr (Nat.le_refl _))
    cbv
    repeat' first
      | apply And.intro
      | exact True.intro
      | with_reducible rfl
      | exact same_of hA rfl
      | refine br_of hA (fun _ => ?_) (fun _ => ?_)
      | exact imp_of hA id
      | (refine imp_of hA ?_; subst hA; simp only [real, Bool.true_and]; exact id)
      | (refine ind_of hA ?_; decide +kernel)
      | (refine inb_of hA fun _ => ?_; subst hA; simp only [real, Bool.and_eq_true, Bool.not_eq_true', Bool.not_eq_false', decide_eq_true_eq, Int.ofNat_eq_natCast, IntKind.wrap_i64] at *; omega)
      | (subst hA; exact fun _ => (by decide : (3 : Int) ≠ 0))
      | fail
    refine stop_of hA (st_msPane n i k2 r2) (cov_of ?_ ?_ ?_) ?_
    · cbv
      subst hA
      repeat' first | apply And.intro | exact True.intro | exact congrArg (fun x => DV.v (.int .i64 x)) w2 | rfl
    · cbv
      subst hA
      refine ⟨fun q _ => ?_, trivial⟩
      have e0 : real.add 0 (real.nat (Int.ofNat i)) = i := Nat.zero_add i
      simp only [e0]
      first
        | (show (if q = i then _ else ePane (r1 q)) = ePane (r2 q))
        | (show (if q = 0 + i then _ else ePane (r1 q)) = ePane (r2 q); rw [Nat.zero_add])
      simp only [hr2, hr1]
      by_cases e : q = i
      · subst e; first | (simp; done) | (simp; rfl)
      · simp [e]
    · cbv; try (subst hA; repeat' first | apply And.intro | exact True.intro | rfl | exact .inr trivial | exact .inr (Nat.le_refl _))
    cbv
    repeat' first
      | apply And.intro
      | exact True.intro
      | with_reducible rfl
      | exact same_of hA rfl
      | refine br_of hA (fun _ => ?_) (fun _ => ?_)
      | exact imp_of hA id
      | (refine imp_of hA ?_; subst hA; simp only [real, Bool.true_and]; exact id)
      | (refine ind_of hA ?_; decide +kernel)
      | (refine inb_of hA fun _ => ?_; subst hA; simp only [real, Bool.and_eq_true, Bool.not_eq_true', Bool.not_eq_false', decide_eq_true_eq, Int.ofNat_eq_natCast, IntKind.wrap_i64] at *; omega)
      | (subst hA; exact fun _ => (by decide : (3 : Int) ≠ 0))
      | fail
    refine stop_of hA (st_msPane n i k3 r3) (cov_of ?_ ?_ ?_) ?_
    · cbv
      subst hA
      repeat' first | apply And.intro | exact True.intro | exact congrArg (fun x => DV.v (.int .i64 x)) w3 | rfl
    · cbv
      subst hA
      refine ⟨fun q _ => ?_, trivial⟩
      have e0 : real.add 0 (real.nat (Int.ofNat i)) = i := Nat.zero_add i
      simp only [e0]
      first
        | (show (if q = i then _ else ePane (r2 q)) = ePane (r3 q))
        | (show (if q = 0 + i then _ else ePane (r2 q)) = ePane (r3 q); rw [Nat.zero_add])
      simp only [hr3, hr2]
      by_cases e : q = i
      · subst e; first | (simp; done) | (simp; rfl)
      · simp [e]
    · cbv; try (subst hA; repeat' first | apply And.intro | exact True.intro | rfl | exact .inr trivial | exact .inr (Nat.le_refl _))
    cbv
    repeat' first
      | apply And.intro
      | exact True.intro
      | with_reducible rfl
      | exact same_of hA rfl
      | refine br_of hA (fun _ => ?_) (fun _ => ?_)
      | exact imp_of hA id
      | (refine imp_of hA ?_; subst hA; simp only [real, Bool.true_and]; exact id)
      | (refine ind_of hA ?_; decide +kernel)
      | (refine inb_of hA fun _ => ?_; subst hA; simp only [real, Bool.and_eq_true, Bool.not_eq_true', Bool.not_eq_false', decide_eq_true_eq, Int.ofNat_eq_natCast, IntKind.wrap_i64] at *; omega)
      | (subst hA; exact fun _ => (by decide : (3 : Int) ≠ 0))
      | fail
    refine stop_of hA (st_msPane n i k4 r4) (cov_of ?_ ?_ ?_) ?_
    · cbv
      subst hA
      repeat' first | apply And.intro | exact True.intro | exact congrArg (fun x => DV.v (.int .i64 x)) w4 | rfl
    · cbv
      subst hA
      refine ⟨fun q _ => ?_, trivial⟩
      have e0 : real.add 0 (real.nat (Int.ofNat i)) = i := Nat.zero_add i
      simp only [e0]
      first
        | (show (if q = i then _ else ePane (r3 q)) = ePane (r4 q))
        | (show (if q = 0 + i then _ else ePane (r3 q)) = ePane (r4 q); rw [Nat.zero_add])
      simp only [hr4, hr3]
      by_cases e : q = i
      · subst e; first | (simp; done) | (simp; rfl)
      · simp [e]
    · cbv; try (subst hA; repeat' first | apply And.intro | exact True.intro | rfl | exact .inr trivial | exact .inr (Nat.le_refl _))
    cbv
    repeat' first
      | apply And.intro
      | exact True.intro
      | with_reducible rfl
      | exact same_of hA rfl
      | refine br_of hA (fun _ => ?_) (fun _ => ?_)
      | exact imp_of hA id
      | (refine imp_of hA ?_; subst hA; simp only [real, Bool.true_and]; exact id)
      | (refine ind_of hA ?_; decide +kernel)
      | (refine inb_of hA fun _ => ?_; subst hA; simp only [real, Bool.and_eq_true, Bool.not_eq_true', Bool.not_eq_false', decide_eq_true_eq, Int.ofNat_eq_natCast, IntKind.wrap_i64] at *; omega)
      | (subst hA; exact fun _ => (by decide : (3 : Int) ≠ 0))
      | fail
    refine stop_of hA (st_msPane n i k5 r5) (cov_of ?_ ?_ ?_) ?_
    · cbv
      subst hA
      repeat' first | apply And.intro | exact True.intro | exact congrArg (fun x => DV.v (.int .i64 x)) w5 | rfl
    · cbv
      subst hA
      refine ⟨fun q _ => ?_, trivial⟩
      have e0 : real.add 0 (real.nat (Int.ofNat i)) = i := Nat.zero_add i
      simp only [e0]
      first
        | (show (if q = i then _ else ePane (r4 q)) = ePane (r5 q))
        | (show (if q = 0 + i then _ else ePane (r4 q)) = ePane (r5 q); rw [Nat.zero_add])
      simp only [hr5, hr4]
      by_cases e : q = i
      · subst e; first | (simp; done) | (simp; rfl)
      · simp [e]
    · cbv; try (subst hA; repeat' first | apply And.intro | exact True.intro | rfl | exact .inr trivial | exact .inr (Nat.le_refl _))
    cbv
    repeat' first
      | apply And.intro
      | exact True.intro
      | with_reducible rfl
      | exact same_of hA rfl
      | refine br_of hA (fun _ => ?_) (fun _ => ?_)
      | exact imp_of hA id
      | (refine imp_of hA ?_; subst hA; simp only [real, Bool.true_and]; exact id)
      | (refine ind_of hA ?_; decide +kernel)
      | (refine inb_of hA fun _ => ?_; subst hA; simp only [real, Bool.and_eq_true, Bool.not_eq_true', Bool.not_eq_false', decide_eq_true_eq, Int.ofNat_eq_natCast, IntKind.wrap_i64] at *; omega)
      | (subst hA; exact fun _ => (by decide : (3 : Int) ≠ 0))
      | fail
    refine stop_of hA (st_msPane n i k6 r6) (cov_of ?_ ?_ ?_) ?_
    · cbv
      subst hA
      repeat' first | apply And.intro | exact True.intro | exact congrArg (fun x => DV.v (.int .i64 x)) w6 | rfl
    · cbv
      subst hA
      refine ⟨fun q _ => ?_, trivial⟩
      have e0 : real.add 0 (real.nat (Int.ofNat i)) = i := Nat.zero_add i
      simp only [e0]
      first
        | (show (if q = i then _ else ePane (r5 q)) = ePane (r6 q))
        | (show (if q = 0 + i then _ else ePane (r5 q)) = ePane (r6 q); rw [Nat.zero_add])
      simp only [hr6, hr5]
      by_cases e : q = i
      · subst e; first | (simp; done) | (simp; rfl)
      · simp [e]
    · cbv; try (subst hA; repeat' first | apply And.intro | exact True.intro | rfl | exact .inr trivial | exact .inr (Nat.le_refl _))
    cbv
    repeat' first
      | apply And.intro
      | exact True.intro
      | with_reducible rfl
      | exact same_of hA rfl
      | refine br_of hA (fun _ => ?_) (fun _ => ?_)
      | exact imp_of hA id
      | (refine imp_of hA ?_; subst hA; simp only [real, Bool.true_and]; exact id)
      | (refine ind_of hA ?_; decide +kernel)
      | (refine inb_of hA fun _ => ?_; subst hA; simp only [real, Bool.and_eq_true, Bool.not_eq_true', Bool.not_eq_false', decide_eq_true_eq, Int.ofNat_eq_natCast, IntKind.wrap_i64] at *; omega)
      | (subst hA; exact fun _ => (by decide : (3 : Int) ≠ 0))
      | fail
    refine stop_of hA (st_msPane n i k7 r7) (cov_of ?_ ?_ ?_) ?_
    · cbv
      subst hA
      repeat' first | apply And.intro | exact True.intro | exact congrArg (fun x => DV.v (.int .i64 x)) w7 | rfl
    · cbv
      subst hA
      refine ⟨fun q _ => ?_, trivial⟩
      have e0 : real.add 0 (real.nat (Int.ofNat i)) = i := Nat.zero_add i
      simp only [e0]
      first
        | (show (if q = i then _ else ePane (r6 q)) = ePane (r7 q))
        | (show (if q = 0 + i then _ else ePane (r6 q)) = ePane (r7 q); rw [Nat.zero_add])
      simp only [hr7, hr6]
      by_cases e : q = i
      · subst e; first | (simp; done) | (simp; rfl)
      · simp [e]
    · cbv; try (subst hA; repeat' first | apply And.intro | exact True.intro | rfl | exact .inr trivial | exact .inr (Nat.le_refl _))
    cbv
    repeat' first
      | apply And.intro
      | exact True.intro
      | with_reducible rfl
      | exact same_of hA rfl
      | refine br_of hA (fun _ => ?_) (fun _ => ?_)
      | exact imp_of hA id
      | (refine imp_of hA ?_; subst hA; simp only [real, Bool.true_and]; exact id)
      | (refine ind_of hA ?_; decide +kernel)
      | (refine inb_of hA fun _ => ?_; subst hA; simp only [real, Bool.and_eq_true, Bool.not_eq_true', Bool.not_eq_false', decide_eq_true_eq, Int.ofNat_eq_natCast, IntKind.wrap_i64] at *; omega)
      | (subst hA; exact fun _ => (by decide : (3 : Int) ≠ 0))
      | fail
    refine stop_of hA (st_msPane n i k8 r8) (cov_of ?_ ?_ ?_) ?_
    · cbv
      subst hA
      repeat' first | apply And.intro | exact True.intro | exact congrArg (fun x => DV.v (.int .i64 x)) w8 | rfl
    · cbv
      subst hA
      refine ⟨fun q _ => ?_, trivial⟩
      have e0 : real.add 0 (real.nat (Int.ofNat i)) = i := Nat.zero_add i
      simp only [e0]
      first
        | (show (if q = i then _ else ePane (r7 q)) = ePane (r8 q))
        | (show (if q = 0 + i then _ else ePane (r7 q)) = ePane (r8 q); rw [Nat.zero_add])
      simp only [hr8, hr7]
      by_cases e : q = i
      · subst e; first | (simp; done) | (simp; rfl)
      · simp [e]
    · cbv; try (subst hA; repeat' first | apply And.intro | exact True.intro | rfl | exact .inr trivial | exact .inr (Nat.le_refl _))
    cbv
    repeat' first
      | apply And.intro
      | exact True.intro
      | with_reducible rfl
      | exact same_of hA rfl
      | refine br_of hA (fun _ => ?_) (fun _ => ?_)
      | exact imp_of hA id
      | (refine imp_of hA ?_; subst hA; simp only [real, Bool.true_and]; exact id)
      | (refine ind_of hA ?_; decide +kernel)
      | (refine inb_of hA fun _ => ?_; subst hA; simp only [real, Bool.and_eq_true, Bool.not_eq_true', Bool.not_eq_false', decide_eq_true_eq, Int.ofNat_eq_natCast, IntKind.wrap_i64] at *; omega)
      | (subst hA; exact fun _ => (by decide : (3 : Int) ≠ 0))
      | fail
    have h9 : ((i + 1 : Nat) : Int) = (i : Int) + 1 := rfl
    refine ⟨⟨(i + 1, k9, r9), by simp only; omega, by (show k9 = s + 9 * ((i + 1 : Nat) : Int)); rw [h9, hk9, hkk, Int.mul_add]; exact Int.add_assoc _ _ _, fun j hj => ?_⟩, by simp only; omega, cov_of ?_ ?_ ?_⟩
    · simp only at hj ⊢
      by_cases e : j = i
      · rw [hr9]; simp only [e, if_true]
        rw [hGM, ← hkk]
        simp only [mkPane, hk1, hk2, hk3, hk4, hk5, hk6, hk7, hk8]
      · rw [hr9]; simp only [e, if_false]; exact hr j (by omega)
    · cbv
      subst hA
      repeat' first | apply And.intro | exact True.intro | exact congrArg (fun x => DV.v (.int .i64 x)) w9 | exact congrArg (fun x => DV.v (.int .i64 x)) (up64 hlt' hn2) | rfl
    · cbv
      subst hA
      refine ⟨fun q _ => ?_, trivial⟩
      have e0 : real.add 0 (real.nat (Int.ofNat i)) = i := Nat.zero_add i
      simp only [e0]
      first
        | (show (if q = i then _ else ePane (r8 q)) = ePane (r9 q))
        | (show (if q = 0 + i then _ else ePane (r8 q)) = ePane (r9 q); rw [Nat.zero_add])
      simp only [hr9, hr8]
      by_cases e : q = i
      · subst e; first | (simp; done) | (simp; rfl)
      · simp [e]
    · cbv; try (subst hA; repeat' first | apply And.intro | exact True.intro | rfl | exact .inr trivial | exact .inr (Nat.le_refl _))
  · rename_i hge
    have hin : i = n := by
      subst hA
      simp only [real, decide_eq_false_iff_not, Int.ofNat_eq_natCast] at hge
      omega
    subst hin
    have hkx : k = x := by rw [hkk, hx]
    subst hkx
    refine stop_of hA ⟨[(1, .c (.d (eI k)))], [(0, 1, .arr 9 i fun q => ePane (GM q))]⟩ (cov_of ?_ ?_ ?_) ?_
    · cbv
    · cbv
      exact ⟨fun q hq => congrArg (fun y => ePane y) (hr q hq), trivial⟩
    · cbv; try (subst hA; repeat' first | apply And.intro | exact True.intro | rfl | exact .inr trivial | exact .inr (Nat.le_refl _))
    · cbv
      repeat' first
        | apply And.intro
        | exact True.intro
        | with_reducible rfl
        | exact same_of hA rfl
        | refine br_of hA (fun _ => ?_) (fun _ => ?_)
        | exact imp_of hA id
        | (refine imp_of hA ?_; subst hA; simp only [real, Bool.true_and]; exact id)
        | (refine ind_of hA ?_; decide +kernel)
        | fail
def st_hsPane (n : Nat) (rd : Nat → PaneT) (i : Nat) (k : Int) : St := ⟨[(5, .c (.d (eI i))), (1, .c (.d (eI k))), (0, .c (.d (.sl 9 n fun i => ePane (rd i))))], []⟩
set_option maxRecDepth 100000 in
set_option maxHeartbeats 2000000 in
theorem helds_Pane (s : Int) (hs : 0 ≤ s ∧ s ≤ 100000000) (n : Nat) (hn : n ≤ 1100000) (x : Int) (hx : x = s + 9 * (n : Int)) (GM : Nat → PaneT) (hGM : ∀ i, GM i = mkPane (s + 9 * (i : Int))) : Meets Try.prog 95 [.c (.d (.sl 9 n fun i => ePane (GM i))), .c (.d (eI s))] ⟨.one (.c (.d (eI x))), [none, none]⟩ := by
  have hn2 : n ≤ maxLen := Nat.le_trans hn (by decide)
  refine meets_of (H := []) (EX := EXA) ttok mixed Try.func95 rfl (by kernel_rfl) (by decide) ?_
  generalize hA : real = A
  generalize hM : MeetsB Try.prog = M
  cbv
  repeat' first
    | apply And.intro
    | exact True.intro
    | with_reducible rfl
    | exact same_of hA rfl
    | refine br_of hA (fun _ => ?_) (fun _ => ?_)
    | exact imp_of hA id
    | (refine imp_of hA ?_; subst hA; simp only [real, Bool.true_and]; exact id)
    | (refine ind_of hA ?_; decide +kernel)
    | fail
  refine loop_of hA (α := { q : Nat × Int // q.1 ≤ n ∧ q.2 = s + 9 * (q.1 : Int) }) (fun y => st_hsPane n GM y.1.1 y.1.2) (fun y => n - y.1.1) ⟨(0, s), Nat.zero_le _, by simp⟩ ?_ ?_
  · refine cov_of ?_ ?_ ?_
    · cbv; try (subst hA; repeat' first | apply And.intro | exact True.intro | rfl)
    · cbv; try (subst hA; repeat' first | apply And.intro | exact True.intro | rfl)
    · cbv
  rintro ⟨⟨i, k⟩, hi, hkk⟩
  have hi : i ≤ n := hi
  have hkk : k = s + 9 * (i : Int) := hkk
  have hkb : 0 ≤ k ∧ k ≤ 150000000 := by omega
  have e := hGM i
  rw [← hkk] at e
  have w1 : IntKind.i64.wrap (k + 1) = k + 1 := wr1 k hkb
  have w2 : IntKind.i64.wrap (IntKind.i64.wrap (k + 1) + 1) = k + 2 := by rw [w1]; exact wrn k 1 2 hkb (by decide) (by decide)
  have w3 : IntKind.i64.wrap (IntKind.i64.wrap (IntKind.i64.wrap (k + 1) + 1) + 1) = k + 3 := by rw [w2]; exact wrn k 2 3 hkb (by decide) (by decide)
  have w4 : IntKind.i64.wrap (IntKind.i64.wrap (IntKind.i64.wrap (IntKind.i64.wrap (k + 1) + 1) + 1) + 1) = k + 4 := by rw [w3]; exact wrn k 3 4 hkb (by decide) (by decide)
  have w5 : IntKind.i64.wrap (IntKind.i64.wrap (IntKind.i64.wrap (IntKind.i64.wrap (IntKind.i64.wrap (k + 1) + 1) + 1) + 1) + 1) = k + 5 := by rw [w4]; exact wrn k 4 5 hkb (by decide) (by decide)
  have w6 : IntKind.i64.wrap (IntKind.i64.wrap (IntKind.i64.wrap (IntKind.i64.wrap (IntKind.i64.wrap (IntKind.i64.wrap (k + 1) + 1) + 1) + 1) + 1) + 1) = k + 6 := by rw [w5]; exact wrn k 5 6 hkb (by decide) (by decide)
  have w7 : IntKind.i64.wrap (IntKind.i64.wrap (IntKind.i64.wrap (IntKind.i64.wrap (IntKind.i64.wrap (IntKind.i64.wrap (IntKind.i64.wrap (k + 1) + 1) + 1) + 1) + 1) + 1) + 1) = k + 7 := by rw [w6]; exact wrn k 6 7 hkb (by decide) (by decide)
  have w8 : IntKind.i64.wrap (IntKind.i64.wrap (IntKind.i64.wrap (IntKind.i64.wrap (IntKind.i64.wrap (IntKind.i64.wrap (IntKind.i64.wrap (IntKind.i64.wrap (k + 1) + 1) + 1) + 1) + 1) + 1) + 1) + 1) = k + 8 := by rw [w7]; exact wrn k 7 8 hkb (by decide) (by decide)
  have w9 : IntKind.i64.wrap (IntKind.i64.wrap (IntKind.i64.wrap (IntKind.i64.wrap (IntKind.i64.wrap (IntKind.i64.wrap (IntKind.i64.wrap (IntKind.i64.wrap (IntKind.i64.wrap (k + 1) + 1) + 1) + 1) + 1) + 1) + 1) + 1) + 1) = k + 9 := by rw [w8]; exact wrn k 8 9 hkb (by decide) (by decide)
  cbv
  repeat' first
    | apply And.intro
    | exact True.intro
    | with_reducible rfl
    | exact same_of hA rfl
    | refine br_of hA (fun _ => ?_) (fun _ => ?_)
    | exact imp_of hA id
    | (refine imp_of hA ?_; subst hA; simp only [real, Bool.true_and]; exact id)
    | (refine ind_of hA ?_; decide +kernel)
    | (refine inb_of hA fun _ => ?_; subst hA; simp only [real, Bool.and_eq_true, Bool.not_eq_true', Bool.not_eq_false', decide_eq_true_eq, Int.ofNat_eq_natCast, IntKind.wrap_i64] at *; omega)
    | (subst hA; exact fun _ => (by decide : (3 : Int) ≠ 0))
    | fail
  · exfalso
    rename_i hlt h0
    have h : ((GM i).key != k) = true := by subst hA; exact h0
    rw [e] at h
    simp [mkPane] at h
  · exfalso
    rename_i hlt h0 h1
    have h : ((GM i).win.s != IntKind.i64.wrap (k + 1)) = true := by subst hA; exact h1
    rw [e, w1] at h
    simp [mkPane] at h
  · exfalso
    rename_i hlt h0 h1 h2
    have h : ((GM i).win.e != IntKind.i64.wrap (IntKind.i64.wrap (k + 1) + 1)) = true := by subst hA; exact h2
    rw [e, w2] at h
    simp [mkPane] at h
  · exfalso
    rename_i hlt h0 h1 h2 h3
    have h : ((GM i).no != IntKind.i64.wrap (IntKind.i64.wrap (IntKind.i64.wrap (k + 1) + 1) + 1)) = true := by subst hA; exact h3
    rw [e, w3] at h
    simp [mkPane] at h
  · exfalso
    rename_i hlt h0 h1 h2 h3 h4
    have h : ((GM i).kind != IntKind.i64.wrap (IntKind.i64.wrap (IntKind.i64.wrap (IntKind.i64.wrap (k + 1) + 1) + 1) + 1)) = true := by subst hA; exact h4
    rw [e, w4] at h
    simp [mkPane] at h
  · exfalso
    rename_i hlt h0 h1 h2 h3 h4 h5
    have h : ((GM i).agg.n != IntKind.i64.wrap (IntKind.i64.wrap (IntKind.i64.wrap (IntKind.i64.wrap (IntKind.i64.wrap (k + 1) + 1) + 1) + 1) + 1)) = true := by subst hA; exact h5
    rw [e, w5] at h
    simp [mkPane] at h
  · exfalso
    rename_i hlt h0 h1 h2 h3 h4 h5 h6
    have h : ((GM i).agg.sum != IntKind.i64.wrap (IntKind.i64.wrap (IntKind.i64.wrap (IntKind.i64.wrap (IntKind.i64.wrap (IntKind.i64.wrap (k + 1) + 1) + 1) + 1) + 1) + 1)) = true := by subst hA; exact h6
    rw [e, w6] at h
    simp [mkPane] at h
  · exfalso
    rename_i hlt h0 h1 h2 h3 h4 h5 h6 h7
    have h : ((GM i).agg.least != IntKind.i64.wrap (IntKind.i64.wrap (IntKind.i64.wrap (IntKind.i64.wrap (IntKind.i64.wrap (IntKind.i64.wrap (IntKind.i64.wrap (k + 1) + 1) + 1) + 1) + 1) + 1) + 1)) = true := by subst hA; exact h7
    rw [e, w7] at h
    simp [mkPane] at h
  · exfalso
    rename_i hlt h0 h1 h2 h3 h4 h5 h6 h7 h8
    have h : ((GM i).agg.most != IntKind.i64.wrap (IntKind.i64.wrap (IntKind.i64.wrap (IntKind.i64.wrap (IntKind.i64.wrap (IntKind.i64.wrap (IntKind.i64.wrap (IntKind.i64.wrap (k + 1) + 1) + 1) + 1) + 1) + 1) + 1) + 1)) = true := by subst hA; exact h8
    rw [e, w8] at h
    simp [mkPane] at h
  · rename_i hlt h0 h1 h2 h3 h4 h5 h6 h7 h8
    have hlt' : i < n := by subst hA; simp only [real, decide_eq_true_eq, Int.ofNat_eq_natCast] at hlt; omega
    have h9 : ((i + 1 : Nat) : Int) = (i : Int) + 1 := rfl
    obtain ⟨kk, hkk2⟩ : ∃ z : Int, z = k + 9 := ⟨_, rfl⟩
    replace w9 := w9.trans hkk2.symm
    refine ⟨⟨(i + 1, kk), by simp only; omega, by (show kk = s + 9 * ((i + 1 : Nat) : Int)); rw [h9, hkk2, hkk, Int.mul_add]; exact Int.add_assoc _ _ _⟩, by simp only; omega, cov_of ?_ ?_ ?_⟩
    · cbv
      subst hA
      repeat' first | apply And.intro | exact True.intro | exact congrArg (fun x => DV.v (.int .i64 x)) (up64 hlt' hn2) | exact congrArg (fun x => DV.v (.int .i64 x)) w9 | rfl
    · cbv
    · cbv
  · rename_i hge
    have hin : i = n := by
      subst hA
      simp only [real, decide_eq_false_iff_not, Int.ofNat_eq_natCast] at hge
      omega
    subst hin
    exact congrArg (fun x => XA.one (.c (.d (eI x)))) (by rw [hkk, hx])
def st_msLat (n i : Nat) (k : Int) (rm : Nat → LatT) : St := ⟨[(5, .c (.d (eI i))), (1, .c (.d (eI k))), (0, .c (.own 0 0 n 1))], [(0, 1, .arr 7 n fun i => eLat (rm i))]⟩
set_option maxRecDepth 100000 in
set_option maxHeartbeats 1000000 in
theorem marks_Lat (s : Int) (hs : 0 ≤ s ∧ s ≤ 100000000) (n : Nat) (hn : n ≤ 1100000) (rd : Nat → LatT) (x : Int) (hx : x = s + 7 * (n : Int)) (GM : Nat → LatT) (hGM : ∀ i, GM i = mkLat (s + 7 * (i : Int))) : Meets Try.prog 92 [.c (.own 7 n fun i => eLat (rd i)), .c (.d (eI s))] ⟨.one (.c (.d (eI x))), [some (.own 7 n fun i => eLat (GM i)), none]⟩ := by
  have hn2 : n ≤ maxLen := Nat.le_trans hn (by decide)
  refine meets_of (H := [6, 8, 10, 12, 14, 16, 18]) (EX := EXA) ttok mixed Try.func92 rfl (by kernel_rfl) (by decide) ?_
  generalize hA : real = A
  generalize hM : MeetsB Try.prog = M
  cbv
  repeat' first
    | apply And.intro
    | exact True.intro
    | with_reducible rfl
    | exact same_of hA rfl
    | refine br_of hA (fun _ => ?_) (fun _ => ?_)
    | exact imp_of hA id
    | (refine imp_of hA ?_; subst hA; simp only [real, Bool.true_and]; exact id)
    | (refine ind_of hA ?_; decide +kernel)
    | fail
  refine loop_of hA (α := { q : Nat × Int × (Nat → LatT) // q.1 ≤ n ∧ q.2.1 = s + 7 * (q.1 : Int) ∧ ∀ j, j < q.1 → q.2.2 j = GM j }) (fun y => st_msLat n y.1.1 y.1.2.1 y.1.2.2) (fun y => n - y.1.1) ⟨(0, s, rd), Nat.zero_le _, by simp, fun j h => absurd h (Nat.not_lt_zero j)⟩ ?_ ?_
  · refine cov_of ?_ ?_ ?_
    · cbv; try (subst hA; repeat' first | apply And.intro | exact True.intro | rfl)
    · cbv; try (subst hA; repeat' first | apply And.intro | exact True.intro | rfl | (intro _ _; rfl))
    · cbv; try (subst hA; repeat' first | apply And.intro | exact True.intro | rfl | exact .inr trivial | exact .inr (Nat.le_refl _))
  rintro ⟨⟨i, k, rm⟩, hi, hkk, hr⟩
  have hi : i ≤ n := hi
  have hkk : k = s + 7 * (i : Int) := hkk
  have hr : ∀ j, j < i → rm j = GM j := hr
  obtain ⟨k1, hk1⟩ : ∃ z : Int, z = k + 1 := ⟨_, rfl⟩
  have w1 : IntKind.i64.wrap (k + 1) = k1 := by rw [IntWalk.i64_in _ (by omega)]; omega
  obtain ⟨r1, hr1⟩ : ∃ r : Nat → LatT, r = fun q => if q = i then (⟨⟨k, (rm i).itm.t, (rm i).itm.key, (rm i).itm.v, (rm i).itm.n⟩, ⟨(rm i).win.s, (rm i).win.e⟩⟩ : LatT) else rm q := ⟨_, rfl⟩
  obtain ⟨k2, hk2⟩ : ∃ z : Int, z = k + 2 := ⟨_, rfl⟩
  have w2 : IntKind.i64.wrap (k1 + 1) = k2 := by rw [IntWalk.i64_in _ (by omega)]; omega
  obtain ⟨r2, hr2⟩ : ∃ r : Nat → LatT, r = fun q => if q = i then (⟨⟨k, k1, (rm i).itm.key, (rm i).itm.v, (rm i).itm.n⟩, ⟨(rm i).win.s, (rm i).win.e⟩⟩ : LatT) else rm q := ⟨_, rfl⟩
  obtain ⟨k3, hk3⟩ : ∃ z : Int, z = k + 3 := ⟨_, rfl⟩
  have w3 : IntKind.i64.wrap (k2 + 1) = k3 := by rw [IntWalk.i64_in _ (by omega)]; omega
  obtain ⟨r3, hr3⟩ : ∃ r : Nat → LatT, r = fun q => if q = i then (⟨⟨k, k1, k2, (rm i).itm.v, (rm i).itm.n⟩, ⟨(rm i).win.s, (rm i).win.e⟩⟩ : LatT) else rm q := ⟨_, rfl⟩
  obtain ⟨k4, hk4⟩ : ∃ z : Int, z = k + 4 := ⟨_, rfl⟩
  have w4 : IntKind.i64.wrap (k3 + 1) = k4 := by rw [IntWalk.i64_in _ (by omega)]; omega
  obtain ⟨r4, hr4⟩ : ∃ r : Nat → LatT, r = fun q => if q = i then (⟨⟨k, k1, k2, k3, (rm i).itm.n⟩, ⟨(rm i).win.s, (rm i).win.e⟩⟩ : LatT) else rm q := ⟨_, rfl⟩
  obtain ⟨k5, hk5⟩ : ∃ z : Int, z = k + 5 := ⟨_, rfl⟩
  have w5 : IntKind.i64.wrap (k4 + 1) = k5 := by rw [IntWalk.i64_in _ (by omega)]; omega
  obtain ⟨r5, hr5⟩ : ∃ r : Nat → LatT, r = fun q => if q = i then (⟨⟨k, k1, k2, k3, k4⟩, ⟨(rm i).win.s, (rm i).win.e⟩⟩ : LatT) else rm q := ⟨_, rfl⟩
  obtain ⟨k6, hk6⟩ : ∃ z : Int, z = k + 6 := ⟨_, rfl⟩
  have w6 : IntKind.i64.wrap (k5 + 1) = k6 := by rw [IntWalk.i64_in _ (by omega)]; omega
  obtain ⟨r6, hr6⟩ : ∃ r : Nat → LatT, r = fun q => if q = i then (⟨⟨k, k1, k2, k3, k4⟩, ⟨k5, (rm i).win.e⟩⟩ : LatT) else rm q := ⟨_, rfl⟩
  obtain ⟨k7, hk7⟩ : ∃ z : Int, z = k + 7 := ⟨_, rfl⟩
  have w7 : IntKind.i64.wrap (k6 + 1) = k7 := by rw [IntWalk.i64_in _ (by omega)]; omega
  obtain ⟨r7, hr7⟩ : ∃ r : Nat → LatT, r = fun q => if q = i then (⟨⟨k, k1, k2, k3, k4⟩, ⟨k5, k6⟩⟩ : LatT) else rm q := ⟨_, rfl⟩
  cbv
  repeat' first
    | apply And.intro
    | exact True.intro
    | with_reducible rfl
    | exact same_of hA rfl
    | refine br_of hA (fun _ => ?_) (fun _ => ?_)
    | exact imp_of hA id
    | (refine imp_of hA ?_; subst hA; simp only [real, Bool.true_and]; exact id)
    | (refine ind_of hA ?_; decide +kernel)
    | (refine inb_of hA fun _ => ?_; subst hA; simp only [real, Bool.and_eq_true, Bool.not_eq_true', Bool.not_eq_false', decide_eq_true_eq, Int.ofNat_eq_natCast, IntKind.wrap_i64] at *; omega)
    | (subst hA; exact fun _ => (by decide : (3 : Int) ≠ 0))
    | fail
  · rename_i hlt
    have hlt' : i < n := by subst hA; simp only [real, decide_eq_true_eq, Int.ofNat_eq_natCast] at hlt; omega
    refine stop_of hA (st_msLat n i k1 r1) (cov_of ?_ ?_ ?_) ?_
    · cbv
      subst hA
      repeat' first | apply And.intro | exact True.intro | exact congrArg (fun x => DV.v (.int .i64 x)) w1 | rfl
    · cbv
      subst hA
      refine ⟨fun q _ => ?_, trivial⟩
      have e0 : real.add 0 (real.nat (Int.ofNat i)) = i := Nat.zero_add i
      simp only [e0]
      first
        | (show (if q = i then _ else eLat (rm q)) = eLat (r1 q))
        | (show (if q = 0 + i then _ else eLat (rm q)) = eLat (r1 q); rw [Nat.zero_add])
      simp only [hr1]
      by_cases e : q = i
      · subst e; first | (simp; done) | (simp; rfl)
      · simp [e]
    · cbv; try (subst hA; repeat' first | apply And.intro | exact True.intro | rfl | exact .inr trivial | exact .inr (Nat.le_refl _))
    cbv
    repeat' first
      | apply And.intro
      | exact True.intro
      | with_reducible rfl
      | exact same_of hA rfl
      | refine br_of hA (fun _ => ?_) (fun _ => ?_)
      | exact imp_of hA id
      | (refine imp_of hA ?_; subst hA; simp only [real, Bool.true_and]; exact id)
      | (refine ind_of hA ?_; decide +kernel)
      | (refine inb_of hA fun _ => ?_; subst hA; simp only [real, Bool.and_eq_true, Bool.not_eq_true', Bool.not_eq_false', decide_eq_true_eq, Int.ofNat_eq_natCast, IntKind.wrap_i64] at *; omega)
      | (subst hA; exact fun _ => (by decide : (3 : Int) ≠ 0))
      | fail
    refine stop_of hA (st_msLat n i k2 r2) (cov_of ?_ ?_ ?_) ?_
    · cbv
      subst hA
      repeat' first | apply And.intro | exact True.intro | exact congrArg (fun x => DV.v (.int .i64 x)) w2 | rfl
    · cbv
      subst hA
      refine ⟨fun q _ => ?_, trivial⟩
      have e0 : real.add 0 (real.nat (Int.ofNat i)) = i := Nat.zero_add i
      simp only [e0]
      first
        | (show (if q = i then _ else eLat (r1 q)) = eLat (r2 q))
        | (show (if q = 0 + i then _ else eLat (r1 q)) = eLat (r2 q); rw [Nat.zero_add])
      simp only [hr2, hr1]
      by_cases e : q = i
      · subst e; first | (simp; done) | (simp; rfl)
      · simp [e]
    · cbv; try (subst hA; repeat' first | apply And.intro | exact True.intro | rfl | exact .inr trivial | exact .inr (Nat.le_refl _))
    cbv
    repeat' first
      | apply And.intro
      | exact True.intro
      | with_reducible rfl
      | exact same_of hA rfl
      | refine br_of hA (fun _ => ?_) (fun _ => ?_)
      | exact imp_of hA id
      | (refine imp_of hA ?_; subst hA; simp only [real, Bool.true_and]; exact id)
      | (refine ind_of hA ?_; decide +kernel)
      | (refine inb_of hA fun _ => ?_; subst hA; simp only [real, Bool.and_eq_true, Bool.not_eq_true', Bool.not_eq_false', decide_eq_true_eq, Int.ofNat_eq_natCast, IntKind.wrap_i64] at *; omega)
      | (subst hA; exact fun _ => (by decide : (3 : Int) ≠ 0))
      | fail
    refine stop_of hA (st_msLat n i k3 r3) (cov_of ?_ ?_ ?_) ?_
    · cbv
      subst hA
      repeat' first | apply And.intro | exact True.intro | exact congrArg (fun x => DV.v (.int .i64 x)) w3 | rfl
    · cbv
      subst hA
      refine ⟨fun q _ => ?_, trivial⟩
      have e0 : real.add 0 (real.nat (Int.ofNat i)) = i := Nat.zero_add i
      simp only [e0]
      first
        | (show (if q = i then _ else eLat (r2 q)) = eLat (r3 q))
        | (show (if q = 0 + i then _ else eLat (r2 q)) = eLat (r3 q); rw [Nat.zero_add])
      simp only [hr3, hr2]
      by_cases e : q = i
      · subst e; first | (simp; done) | (simp; rfl)
      · simp [e]
    · cbv; try (subst hA; repeat' first | apply And.intro | exact True.intro | rfl | exact .inr trivial | exact .inr (Nat.le_refl _))
    cbv
    repeat' first
      | apply And.intro
      | exact True.intro
      | with_reducible rfl
      | exact same_of hA rfl
      | refine br_of hA (fun _ => ?_) (fun _ => ?_)
      | exact imp_of hA id
      | (refine imp_of hA ?_; subst hA; simp only [real, Bool.true_and]; exact id)
      | (refine ind_of hA ?_; decide +kernel)
      | (refine inb_of hA fun _ => ?_; subst hA; simp only [real, Bool.and_eq_true, Bool.not_eq_true', Bool.not_eq_false', decide_eq_true_eq, Int.ofNat_eq_natCast, IntKind.wrap_i64] at *; omega)
      | (subst hA; exact fun _ => (by decide : (3 : Int) ≠ 0))
      | fail
    refine stop_of hA (st_msLat n i k4 r4) (cov_of ?_ ?_ ?_) ?_
    · cbv
      subst hA
      repeat' first | apply And.intro | exact True.intro | exact congrArg (fun x => DV.v (.int .i64 x)) w4 | rfl
    · cbv
      subst hA
      refine ⟨fun q _ => ?_, trivial⟩
      have e0 : real.add 0 (real.nat (Int.ofNat i)) = i := Nat.zero_add i
      simp only [e0]
      first
        | (show (if q = i then _ else eLat (r3 q)) = eLat (r4 q))
        | (show (if q = 0 + i then _ else eLat (r3 q)) = eLat (r4 q); rw [Nat.zero_add])
      simp only [hr4, hr3]
      by_cases e : q = i
      · subst e; first | (simp; done) | (simp; rfl)
      · simp [e]
    · cbv; try (subst hA; repeat' first | apply And.intro | exact True.intro | rfl | exact .inr trivial | exact .inr (Nat.le_refl _))
    cbv
    repeat' first
      | apply And.intro
      | exact True.intro
      | with_reducible rfl
      | exact same_of hA rfl
      | refine br_of hA (fun _ => ?_) (fun _ => ?_)
      | exact imp_of hA id
      | (refine imp_of hA ?_; subst hA; simp only [real, Bool.true_and]; exact id)
      | (refine ind_of hA ?_; decide +kernel)
      | (refine inb_of hA fun _ => ?_; subst hA; simp only [real, Bool.and_eq_true, Bool.not_eq_true', Bool.not_eq_false', decide_eq_true_eq, Int.ofNat_eq_natCast, IntKind.wrap_i64] at *; omega)
      | (subst hA; exact fun _ => (by decide : (3 : Int) ≠ 0))
      | fail
    refine stop_of hA (st_msLat n i k5 r5) (cov_of ?_ ?_ ?_) ?_
    · cbv
      subst hA
      repeat' first | apply And.intro | exact True.intro | exact congrArg (fun x => DV.v (.int .i64 x)) w5 | rfl
    · cbv
      subst hA
      refine ⟨fun q _ => ?_, trivial⟩
      have e0 : real.add 0 (real.nat (Int.ofNat i)) = i := Nat.zero_add i
      simp only [e0]
      first
        | (show (if q = i then _ else eLat (r4 q)) = eLat (r5 q))
        | (show (if q = 0 + i then _ else eLat (r4 q)) = eLat (r5 q); rw [Nat.zero_add])
      simp only [hr5, hr4]
      by_cases e : q = i
      · subst e; first | (simp; done) | (simp; rfl)
      · simp [e]
    · cbv; try (subst hA; repeat' first | apply And.intro | exact True.intro | rfl | exact .inr trivial | exact .inr (Nat.le_refl _))
    cbv
    repeat' first
      | apply And.intro
      | exact True.intro
      | with_reducible rfl
      | exact same_of hA rfl
      | refine br_of hA (fun _ => ?_) (fun _ => ?_)
      | exact imp_of hA id
      | (refine imp_of hA ?_; subst hA; simp only [real, Bool.true_and]; exact id)
      | (refine ind_of hA ?_; decide +kernel)
      | (refine inb_of hA fun _ => ?_; subst hA; simp only [real, Bool.and_eq_true, Bool.not_eq_true', Bool.not_eq_false', decide_eq_true_eq, Int.ofNat_eq_natCast, IntKind.wrap_i64] at *; omega)
      | (subst hA; exact fun _ => (by decide : (3 : Int) ≠ 0))
      | fail
    refine stop_of hA (st_msLat n i k6 r6) (cov_of ?_ ?_ ?_) ?_
    · cbv
      subst hA
      repeat' first | apply And.intro | exact True.intro | exact congrArg (fun x => DV.v (.int .i64 x)) w6 | rfl
    · cbv
      subst hA
      refine ⟨fun q _ => ?_, trivial⟩
      have e0 : real.add 0 (real.nat (Int.ofNat i)) = i := Nat.zero_add i
      simp only [e0]
      first
        | (show (if q = i then _ else eLat (r5 q)) = eLat (r6 q))
        | (show (if q = 0 + i then _ else eLat (r5 q)) = eLat (r6 q); rw [Nat.zero_add])
      simp only [hr6, hr5]
      by_cases e : q = i
      · subst e; first | (simp; done) | (simp; rfl)
      · simp [e]
    · cbv; try (subst hA; repeat' first | apply And.intro | exact True.intro | rfl | exact .inr trivial | exact .inr (Nat.le_refl _))
    cbv
    repeat' first
      | apply And.intro
      | exact True.intro
      | with_reducible rfl
      | exact same_of hA rfl
      | refine br_of hA (fun _ => ?_) (fun _ => ?_)
      | exact imp_of hA id
      | (refine imp_of hA ?_; subst hA; simp only [real, Bool.true_and]; exact id)
      | (refine ind_of hA ?_; decide +kernel)
      | (refine inb_of hA fun _ => ?_; subst hA; simp only [real, Bool.and_eq_true, Bool.not_eq_true', Bool.not_eq_false', decide_eq_true_eq, Int.ofNat_eq_natCast, IntKind.wrap_i64] at *; omega)
      | (subst hA; exact fun _ => (by decide : (3 : Int) ≠ 0))
      | fail
    have h9 : ((i + 1 : Nat) : Int) = (i : Int) + 1 := rfl
    refine ⟨⟨(i + 1, k7, r7), by simp only; omega, by (show k7 = s + 7 * ((i + 1 : Nat) : Int)); rw [h9, hk7, hkk, Int.mul_add]; exact Int.add_assoc _ _ _, fun j hj => ?_⟩, by simp only; omega, cov_of ?_ ?_ ?_⟩
    · simp only at hj ⊢
      by_cases e : j = i
      · rw [hr7]; simp only [e, if_true]
        rw [hGM, ← hkk]
        simp only [mkLat, hk1, hk2, hk3, hk4, hk5, hk6]
      · rw [hr7]; simp only [e, if_false]; exact hr j (by omega)
    · cbv
      subst hA
      repeat' first | apply And.intro | exact True.intro | exact congrArg (fun x => DV.v (.int .i64 x)) w7 | exact congrArg (fun x => DV.v (.int .i64 x)) (up64 hlt' hn2) | rfl
    · cbv
      subst hA
      refine ⟨fun q _ => ?_, trivial⟩
      have e0 : real.add 0 (real.nat (Int.ofNat i)) = i := Nat.zero_add i
      simp only [e0]
      first
        | (show (if q = i then _ else eLat (r6 q)) = eLat (r7 q))
        | (show (if q = 0 + i then _ else eLat (r6 q)) = eLat (r7 q); rw [Nat.zero_add])
      simp only [hr7, hr6]
      by_cases e : q = i
      · subst e; first | (simp; done) | (simp; rfl)
      · simp [e]
    · cbv; try (subst hA; repeat' first | apply And.intro | exact True.intro | rfl | exact .inr trivial | exact .inr (Nat.le_refl _))
  · rename_i hge
    have hin : i = n := by
      subst hA
      simp only [real, decide_eq_false_iff_not, Int.ofNat_eq_natCast] at hge
      omega
    subst hin
    have hkx : k = x := by rw [hkk, hx]
    subst hkx
    refine stop_of hA ⟨[(1, .c (.d (eI k)))], [(0, 1, .arr 7 i fun q => eLat (GM q))]⟩ (cov_of ?_ ?_ ?_) ?_
    · cbv
    · cbv
      exact ⟨fun q hq => congrArg (fun y => eLat y) (hr q hq), trivial⟩
    · cbv; try (subst hA; repeat' first | apply And.intro | exact True.intro | rfl | exact .inr trivial | exact .inr (Nat.le_refl _))
    · cbv
      repeat' first
        | apply And.intro
        | exact True.intro
        | with_reducible rfl
        | exact same_of hA rfl
        | refine br_of hA (fun _ => ?_) (fun _ => ?_)
        | exact imp_of hA id
        | (refine imp_of hA ?_; subst hA; simp only [real, Bool.true_and]; exact id)
        | (refine ind_of hA ?_; decide +kernel)
        | fail
def st_hsLat (n : Nat) (rd : Nat → LatT) (i : Nat) (k : Int) : St := ⟨[(5, .c (.d (eI i))), (1, .c (.d (eI k))), (0, .c (.d (.sl 7 n fun i => eLat (rd i))))], []⟩
set_option maxRecDepth 100000 in
set_option maxHeartbeats 2000000 in
theorem helds_Lat (s : Int) (hs : 0 ≤ s ∧ s ≤ 100000000) (n : Nat) (hn : n ≤ 1100000) (x : Int) (hx : x = s + 7 * (n : Int)) (GM : Nat → LatT) (hGM : ∀ i, GM i = mkLat (s + 7 * (i : Int))) : Meets Try.prog 96 [.c (.d (.sl 7 n fun i => eLat (GM i))), .c (.d (eI s))] ⟨.one (.c (.d (eI x))), [none, none]⟩ := by
  have hn2 : n ≤ maxLen := Nat.le_trans hn (by decide)
  refine meets_of (H := []) (EX := EXA) ttok mixed Try.func96 rfl (by kernel_rfl) (by decide) ?_
  generalize hA : real = A
  generalize hM : MeetsB Try.prog = M
  cbv
  repeat' first
    | apply And.intro
    | exact True.intro
    | with_reducible rfl
    | exact same_of hA rfl
    | refine br_of hA (fun _ => ?_) (fun _ => ?_)
    | exact imp_of hA id
    | (refine imp_of hA ?_; subst hA; simp only [real, Bool.true_and]; exact id)
    | (refine ind_of hA ?_; decide +kernel)
    | fail
  refine loop_of hA (α := { q : Nat × Int // q.1 ≤ n ∧ q.2 = s + 7 * (q.1 : Int) }) (fun y => st_hsLat n GM y.1.1 y.1.2) (fun y => n - y.1.1) ⟨(0, s), Nat.zero_le _, by simp⟩ ?_ ?_
  · refine cov_of ?_ ?_ ?_
    · cbv; try (subst hA; repeat' first | apply And.intro | exact True.intro | rfl)
    · cbv; try (subst hA; repeat' first | apply And.intro | exact True.intro | rfl)
    · cbv
  rintro ⟨⟨i, k⟩, hi, hkk⟩
  have hi : i ≤ n := hi
  have hkk : k = s + 7 * (i : Int) := hkk
  have hkb : 0 ≤ k ∧ k ≤ 150000000 := by omega
  have e := hGM i
  rw [← hkk] at e
  have w1 : IntKind.i64.wrap (k + 1) = k + 1 := wr1 k hkb
  have w2 : IntKind.i64.wrap (IntKind.i64.wrap (k + 1) + 1) = k + 2 := by rw [w1]; exact wrn k 1 2 hkb (by decide) (by decide)
  have w3 : IntKind.i64.wrap (IntKind.i64.wrap (IntKind.i64.wrap (k + 1) + 1) + 1) = k + 3 := by rw [w2]; exact wrn k 2 3 hkb (by decide) (by decide)
  have w4 : IntKind.i64.wrap (IntKind.i64.wrap (IntKind.i64.wrap (IntKind.i64.wrap (k + 1) + 1) + 1) + 1) = k + 4 := by rw [w3]; exact wrn k 3 4 hkb (by decide) (by decide)
  have w5 : IntKind.i64.wrap (IntKind.i64.wrap (IntKind.i64.wrap (IntKind.i64.wrap (IntKind.i64.wrap (k + 1) + 1) + 1) + 1) + 1) = k + 5 := by rw [w4]; exact wrn k 4 5 hkb (by decide) (by decide)
  have w6 : IntKind.i64.wrap (IntKind.i64.wrap (IntKind.i64.wrap (IntKind.i64.wrap (IntKind.i64.wrap (IntKind.i64.wrap (k + 1) + 1) + 1) + 1) + 1) + 1) = k + 6 := by rw [w5]; exact wrn k 5 6 hkb (by decide) (by decide)
  have w7 : IntKind.i64.wrap (IntKind.i64.wrap (IntKind.i64.wrap (IntKind.i64.wrap (IntKind.i64.wrap (IntKind.i64.wrap (IntKind.i64.wrap (k + 1) + 1) + 1) + 1) + 1) + 1) + 1) = k + 7 := by rw [w6]; exact wrn k 6 7 hkb (by decide) (by decide)
  cbv
  repeat' first
    | apply And.intro
    | exact True.intro
    | with_reducible rfl
    | exact same_of hA rfl
    | refine br_of hA (fun _ => ?_) (fun _ => ?_)
    | exact imp_of hA id
    | (refine imp_of hA ?_; subst hA; simp only [real, Bool.true_and]; exact id)
    | (refine ind_of hA ?_; decide +kernel)
    | (refine inb_of hA fun _ => ?_; subst hA; simp only [real, Bool.and_eq_true, Bool.not_eq_true', Bool.not_eq_false', decide_eq_true_eq, Int.ofNat_eq_natCast, IntKind.wrap_i64] at *; omega)
    | (subst hA; exact fun _ => (by decide : (3 : Int) ≠ 0))
    | fail
  · exfalso
    rename_i hlt h0
    have h : ((GM i).itm.kind != k) = true := by subst hA; exact h0
    rw [e] at h
    simp [mkLat] at h
  · exfalso
    rename_i hlt h0 h1
    have h : ((GM i).itm.t != IntKind.i64.wrap (k + 1)) = true := by subst hA; exact h1
    rw [e, w1] at h
    simp [mkLat] at h
  · exfalso
    rename_i hlt h0 h1 h2
    have h : ((GM i).itm.key != IntKind.i64.wrap (IntKind.i64.wrap (k + 1) + 1)) = true := by subst hA; exact h2
    rw [e, w2] at h
    simp [mkLat] at h
  · exfalso
    rename_i hlt h0 h1 h2 h3
    have h : ((GM i).itm.v != IntKind.i64.wrap (IntKind.i64.wrap (IntKind.i64.wrap (k + 1) + 1) + 1)) = true := by subst hA; exact h3
    rw [e, w3] at h
    simp [mkLat] at h
  · exfalso
    rename_i hlt h0 h1 h2 h3 h4
    have h : ((GM i).itm.n != IntKind.i64.wrap (IntKind.i64.wrap (IntKind.i64.wrap (IntKind.i64.wrap (k + 1) + 1) + 1) + 1)) = true := by subst hA; exact h4
    rw [e, w4] at h
    simp [mkLat] at h
  · exfalso
    rename_i hlt h0 h1 h2 h3 h4 h5
    have h : ((GM i).win.s != IntKind.i64.wrap (IntKind.i64.wrap (IntKind.i64.wrap (IntKind.i64.wrap (IntKind.i64.wrap (k + 1) + 1) + 1) + 1) + 1)) = true := by subst hA; exact h5
    rw [e, w5] at h
    simp [mkLat] at h
  · exfalso
    rename_i hlt h0 h1 h2 h3 h4 h5 h6
    have h : ((GM i).win.e != IntKind.i64.wrap (IntKind.i64.wrap (IntKind.i64.wrap (IntKind.i64.wrap (IntKind.i64.wrap (IntKind.i64.wrap (k + 1) + 1) + 1) + 1) + 1) + 1)) = true := by subst hA; exact h6
    rw [e, w6] at h
    simp [mkLat] at h
  · rename_i hlt h0 h1 h2 h3 h4 h5 h6
    have hlt' : i < n := by subst hA; simp only [real, decide_eq_true_eq, Int.ofNat_eq_natCast] at hlt; omega
    have h9 : ((i + 1 : Nat) : Int) = (i : Int) + 1 := rfl
    obtain ⟨kk, hkk2⟩ : ∃ z : Int, z = k + 7 := ⟨_, rfl⟩
    replace w7 := w7.trans hkk2.symm
    refine ⟨⟨(i + 1, kk), by simp only; omega, by (show kk = s + 7 * ((i + 1 : Nat) : Int)); rw [h9, hkk2, hkk, Int.mul_add]; exact Int.add_assoc _ _ _⟩, by simp only; omega, cov_of ?_ ?_ ?_⟩
    · cbv
      subst hA
      repeat' first | apply And.intro | exact True.intro | exact congrArg (fun x => DV.v (.int .i64 x)) (up64 hlt' hn2) | exact congrArg (fun x => DV.v (.int .i64 x)) w7 | rfl
    · cbv
    · cbv
  · rename_i hge
    have hin : i = n := by
      subst hA
      simp only [real, decide_eq_false_iff_not, Int.ofNat_eq_natCast] at hge
      omega
    subst hin
    exact congrArg (fun x => XA.one (.c (.d (eI x)))) (by rw [hkk, hx])
end Go.Rk
/- Marks of checkpoints and of tasks, as a whole. -/
namespace Go.Rk
set_option linter.unusedSimpArgs false
set_option linter.unusedVariables false
theorem posS_shift (len : Nat → Int) (s t : Int) : ∀ i, posS len (s + t) i = posS len s i + t
  | 0 => rfl
  | i + 1 => by show posS len (s + t) i + len i = posS len s i + len i + t; rw [posS_shift len s t i]; omega
theorem posS_ge {len : Nat → Int} (h : ∀ i, 0 ≤ len i) (s : Int) (i : Nat) : s ≤ posS len s i := posS_mono (len := len) (s := s) (n := i) (fun i _ => h i) (Nat.zero_le i) (Nat.le_refl i)
theorem lenTskIn_pos (x : TskInT) : 0 ≤ lenTskIn x := by unfold lenTskIn; omega
structure CkpM (s : Int) (x : CkpT) where
  f1 : Nat → Int
  f2 : Nat → Bool
  f3 : Nat → SnapT
  f4 : Nat → Int
  f5 : Nat → SnapT
  p3 : Nat → Int
  p5 : Nat → Int
  k1 : Int
  k2 : Int
  k3 : Int
  k4 : Int
  k5 : Int
  h1 : ∀ i, f1 i = mkint (s + 1 * (i : Int))
  hk1 : k1 = s + 1 * (x.src.n : Int)
  h2 : ∀ i, f2 i = mkbool (k1 + 1 * (i : Int))
  hk2 : k2 = k1 + 1 * (x.tsk.n : Int)
  q0 : p3 0 = k2
  q1 : ∀ i, i < x.snaps.n → p3 (i + 1) = p3 i + lenSnap (x.snaps.g i)
  q2 : ∀ i, i ≤ x.snaps.n → 0 ≤ p3 i ∧ p3 i ≤ 50000000
  hk3 : k3 = p3 x.snaps.n
  h3 : ∀ i, f3 i = mkSnap (p3 i) (x.snaps.g i)
  h4 : ∀ i, f4 i = mkint (k3 + 1 * (i : Int))
  hk4 : k4 = k3 + 1 * (x.safe.at_.n : Int)
  r0 : p5 0 = k4
  r1 : ∀ i, i < x.safe.snaps.n → p5 (i + 1) = p5 i + lenSnap (x.safe.snaps.g i)
  r2 : ∀ i, i ≤ x.safe.snaps.n → 0 ≤ p5 i ∧ p5 i ≤ 50000000
  hk5 : k5 = p5 x.safe.snaps.n
  h5 : ∀ i, f5 i = mkSnap (p5 i) (x.safe.snaps.g i)
  b0 : 0 ≤ s ∧ s ≤ 50000000
  b1 : 0 ≤ k1 ∧ k1 ≤ 50000000
  b2 : 0 ≤ k2 ∧ k2 ≤ 50000000
  b3 : 0 ≤ k3 ∧ k3 ≤ 50000000
  b4 : 0 ≤ k4 ∧ k4 ≤ 50000000
  b5 : 0 ≤ k5 ∧ k5 ≤ 50000000
def CkpM.out {s : Int} {x : CkpT} (M : CkpM s x) : CkpT := ⟨x.n, x.opn, ⟨x.src.n, M.f1, x.src.hn⟩, ⟨x.tsk.n, M.f2, x.tsk.hn⟩, ⟨x.snaps.n, M.f3, x.snaps.hn⟩, ⟨x.safe.n, ⟨x.safe.at_.n, M.f4, x.safe.at_.hn⟩, ⟨x.safe.snaps.n, M.f5, x.safe.snaps.hn⟩⟩⟩
end Go.Rk
