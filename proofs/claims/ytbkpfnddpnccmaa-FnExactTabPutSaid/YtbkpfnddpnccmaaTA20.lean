/- Tables: out. -/
import Derived.Test.YtbkpfnddpnccmaaTA6
import Derived.Test.YtbkpfnddpnccmaaDTb
import Derived.Test.YtbkpfnddpnccmaaDDr
import Derived.Test.YtbkpfnddpnccmaaRk28
import Derived.Test.YtbkpfnddpnccmaaRk29
namespace Go.Rk
set_option linter.unusedSimpArgs false
set_option linter.unusedVariables false
open Go.Proofs
set_option maxRecDepth 100000
set_option maxHeartbeats 1000000
open Classical in
set_option maxRecDepth 100000 in
theorem c_of (r : TabT) (key : Int) (w : WinT) : ∃ b, (b = true ↔ IsRow key w r) ∧ Meets Try.prog 97 [xd (eTab r), .c (.d (eI key)), xd (eWin w)] ⟨.one (.c (.d (eB b))), [none, none, none]⟩ := by
  obtain ⟨b, hb⟩ : ∃ b, b = decide (IsRow key w r) := ⟨_, rfl⟩
  refine ⟨b, by rw [hb, decide_eq_true_eq], ?_⟩
  refine meets_of (H := []) (EX := EXA) ttok mixed Try.func97 rfl (by kernel_rfl) (by decide) ?_
  generalize hA : real = A
  generalize hM : Meets Try.prog = M
  cbv
  repeat' first
    | apply And.intro
    | exact True.intro
    | with_reducible rfl
    | exact same_of hA rfl
    | refine br_of hA (fun _ => ?_) (fun _ => ?_)
    | exact imp_of hA id
    | (refine imp_of hA ?_; subst hA; simp only [real, Bool.true_and]; exact id)
    | (refine ind_of hA ?_; decide +kernel)
  all_goals obtain ⟨k, ⟨s, e⟩, ag⟩ := r; obtain ⟨s2, e2⟩ := w
  all_goals subst hA
  all_goals refine congrArg (fun b => XA.one (.c (.d (eB b)))) (Bool.eq_iff_iff.2 ?_)
  all_goals subst_vars
  all_goals simp only [real, bifA, bifB, bifC, bifD, beqB, decide_eq_true_eq, decide_eq_false_iff_not, beqI, bneI, beqIF, bneIF, ne_eq, Bool.and_eq_true, Bool.or_eq_true, Bool.not_eq_true', Bool.not_eq_false', Bool.and_eq_false_iff, Bool.or_eq_false_iff, Bool.false_eq_true, and_false, false_and, or_false, false_or, and_true, true_and, not_true_eq_false, not_false_eq_true, true_iff, false_iff, IntKind.wrap_i64, IsRow, WinOkP, AggOkP] at *
  all_goals first | omega | exact decide_eq_true_iff.symm
def st_Out (n : Nat) (g : Nat → TabT) (key : Int) (w : WinT) (i c : Nat) (row : Nat → List DV) : St := ⟨[(12, .c (.d (eI i))), (11, .c (.d (eI n))), (10, .c (.d (.sl 7 n fun i => eTab (g i)))), (7, .c (.own 448 0 c 1)), (1, .c (.d (eI key))), (5, .c (.bp 320 1 0))], [(320, 1, .box ((eWin w).map .d)), (448, 1, .arr 7 c row)]⟩
theorem c_Out (l : List TabT) (n : Nat) (g : Nat → TabT) (hl : Lst zTab l n g) (hn : n ≤ 1100000) (key : Int) (w : WinT) (n0 : Nat) (G : Nat → TabT) (h0 : Lst zTab (tOut key w l) n0 G) : Meets Try.prog 48 [.c (.d (.sl 7 n fun i => eTab (g i))), .c (.d (eI key)), xd (eWin w)] ⟨.one (.c (.own 7 n0 fun i => eTab (G i))), [none, none, none]⟩ := by
  have hnL : n ≤ maxLen := Nat.le_trans hn (by decide)
  have h0 := lst_tells eTab h0
  refine meets_of (H := [8]) (EX := EXA) ttok mixed Try.func48 rfl (by kernel_rfl) (by decide) ?_
  generalize hA : real = A
  generalize hM : Meets Try.prog = M
  cbv
  repeat' first
    | apply And.intro
    | exact True.intro
    | with_reducible rfl
    | exact same_of hA rfl
    | refine br_of hA (fun _ => ?_) (fun _ => ?_)
    | exact imp_of hA id
    | (refine imp_of hA ?_; subst hA; simp only [real, Bool.true_and]; exact id)
    | (refine ind_of hA ?_; decide +kernel)
  refine loop_of hA (α := { q : Nat × Nat × (Nat → List DV) // q.1 ≤ n ∧ Tells zTab eTab (tOut key w (l.take q.1)) q.2.1 q.2.2 }) (fun y => st_Out n g key w y.1.1 y.1.2.1 y.1.2.2) (fun y => n - y.1.1) ⟨(0, 0, fun _ => []), Nat.zero_le _, rfl, fun k h => absurd h (Nat.not_lt_zero k)⟩ ?_ ?_
  · refine cov_prom 7 448 1 7 (fun _ => []) (by cbv) (by cbv) (cov_of ?_ ?_ ?_)
    · cbv; try (subst hA; repeat' first | apply And.intro | exact True.intro | rfl)
    · cbv; try (subst hA; repeat' first | apply And.intro | exact True.intro | rfl | (intro _ _; rfl) | (intro k hk; exact absurd hk (Nat.not_lt_zero k)))
    · cbv; try (subst hA; repeat' first | apply And.intro | exact True.intro | rfl | exact .inr trivial)
  rintro ⟨⟨i, c, row⟩, hi, hT⟩
  have hi : i ≤ n := hi
  have hT : Tells zTab eTab (tOut key w (l.take i)) c row := hT
  have hci : c ≤ i := by
    rw [hT.1]
    have h1 := tOut_len key w (l.take i)
    rw [List.length_take] at h1
    omega
  cbv
  repeat' first
    | apply And.intro
    | exact True.intro
    | with_reducible rfl
    | exact same_of hA rfl
    | refine br_of hA (fun _ => ?_) (fun _ => ?_)
    | exact imp_of hA id
    | (refine imp_of hA ?_; subst hA; simp only [real, Bool.true_and]; exact id)
    | (refine ind_of hA ?_; decide +kernel)
    | (refine call_ex hA hM (c_of _ _ _) (fun _ _ => ?_); cbv)
    | (refine inb_of hA fun _ => ?_; subst hA; simp only [real, Bool.and_eq_true, Bool.not_eq_true', Bool.not_eq_false', decide_eq_true_eq, Int.ofNat_eq_natCast, IntKind.wrap_i64] at *; omega)
    | exact room_add2 hA (by omega) (by decide)
  · rename_i hlt bq hbq hc
    have hlt' : i < n := by subst hA; simp only [real, decide_eq_true_eq, Int.ofNat_eq_natCast] at hlt; omega
    have hq : ¬ IsRow key w (g i) := by
      have hbq : bq = true ↔ IsRow key w (g i) := by subst hA; exact hbq
      intro h
      have h2 := hbq.2 h
      subst hA
      have hc : (!bq) = true := hc
      rw [h2] at hc; cases hc
    refine ⟨⟨(i + 1, c + 1, fun q => if q < c then row q else eTab (g i)), by simp only; omega, ?_⟩, by simp only; omega, cov_of ?_ ?_ ?_⟩
    · simp only
      rw [lst_take hl hlt', tOut_app]
      show Tells zTab eTab (tOut key w (l.take i) ++ (if IsRow key w (g i) then tOut key w [] else g i :: tOut key w [])) _ _
      rw [if_neg hq]
      exact tells_snoc hT (fun q _ => rfl)
    · cbv
      subst hA
      repeat' first | apply And.intro | exact True.intro | exact congrArg (fun x => DV.v (.int .i64 x)) (up64 hlt' hnL) | rfl
    · cbv
      subst hA
      repeat' first | apply And.intro | exact True.intro | rfl | (intro _ _; rfl) | (intro q hq; exact push_at rfl _ _ _ _ q hq) | (intro q hq; have e0 : real.add 0 (real.nat (Int.ofNat i)) = i := Nat.zero_add i; rw [e0]; exact push_at rfl _ _ _ _ q hq) | (intro q hq; have e0 : real.nat (Int.ofNat i) = i := rfl; rw [e0]; exact push_at rfl _ _ _ _ q hq)
    · cbv; try (subst hA; repeat' first | apply And.intro | exact True.intro | rfl | exact .inr trivial)
  · rename_i hlt bq hbq hc
    have hlt' : i < n := by subst hA; simp only [real, decide_eq_true_eq, Int.ofNat_eq_natCast] at hlt; omega
    have hq : IsRow key w (g i) := by
      have hbq : bq = true ↔ IsRow key w (g i) := by subst hA; exact hbq
      subst hA
      have hc : (!bq) = false := hc
      refine hbq.1 ?_
      cases bq
      · cases hc
      · rfl
    refine ⟨⟨(i + 1, c, row), by simp only; omega, ?_⟩, by simp only; omega, cov_of ?_ ?_ ?_⟩
    · simp only
      rw [lst_take hl hlt', tOut_app]
      show Tells zTab eTab (tOut key w (l.take i) ++ (if IsRow key w (g i) then tOut key w [] else g i :: tOut key w [])) _ _
      rw [if_pos hq]
      show Tells zTab eTab (tOut key w (l.take i) ++ []) _ _
      rw [List.append_nil]
      exact hT
    · cbv
      subst hA
      repeat' first | apply And.intro | exact True.intro | exact congrArg (fun x => DV.v (.int .i64 x)) (up64 hlt' hnL) | rfl
    · cbv; try (subst hA; repeat' first | apply And.intro | exact True.intro | rfl | (intro _ _; rfl))
    · cbv; try (subst hA; repeat' first | apply And.intro | exact True.intro | rfl | exact .inr trivial)
  · rename_i hge
    have hin : i = n := by subst hA; simp only [real, decide_eq_false_iff_not, Int.ofNat_eq_natCast] at hge; omega
    subst hin
    rw [lst_all hl] at hT
    have hcc : c = n0 := hT.1.trans h0.1.symm
    subst hcc
    refine stop_of hA ⟨[(7, .c (.own 448 0 c 1))], [(448, 1, .arr 7 c fun i => eTab (G i))]⟩ (cov_of ?_ ?_ ?_) ?_
    · cbv
    · cbv
      exact ⟨fun q hq => (hT.2 q hq).trans (h0.2 q hq).symm, trivial⟩
    · cbv
    · cbv
      repeat' first
        | apply And.intro
        | exact True.intro
        | with_reducible rfl
        | exact same_of hA rfl
        | refine br_of hA (fun _ => ?_) (fun _ => ?_)
        | exact imp_of hA id
        | (refine imp_of hA ?_; subst hA; simp only [real, Bool.true_and]; exact id)
        | (refine ind_of hA ?_; decide +kernel)
def st_sOut (n : Nat) (g : Nat → TabT) (key : Int) (w : WinT) (i c : Nat) (row : Nat → List DV) : St := ⟨[(8, .c (.d (eI i))), (0, .c (.d (.sl 7 n fun i => eTab (g i)))), (7, .c (.own 576 0 c 1)), (1, .c (.d (eI key))), (5, .c (.bp 320 1 0))], [(320, 1, .box ((eWin w).map .d)), (576, 1, .arr 7 c row)]⟩
theorem c_sOut (l : List TabT) (n : Nat) (g : Nat → TabT) (hl : Lst zTab l n g) (hn : n ≤ 1100000) (key : Int) (w : WinT) (n0 : Nat) (G : Nat → TabT) (h0 : Lst zTab (tOut key w l) n0 G) : Meets Try.prog 85 [.c (.d (.sl 7 n fun i => eTab (g i))), .c (.d (eI key)), xd (eWin w)] ⟨.one (.c (.own 7 n0 fun i => eTab (G i))), [none, none, none]⟩ := by
  have hnL : n ≤ maxLen := Nat.le_trans hn (by decide)
  have h0 := lst_tells eTab h0
  refine meets_of (H := [7]) (EX := EXA) ttok mixed Try.func85 rfl (by kernel_rfl) (by decide) ?_
  generalize hA : real = A
  generalize hM : Meets Try.prog = M
  cbv
  repeat' first
    | apply And.intro
    | exact True.intro
    | with_reducible rfl
    | exact same_of hA rfl
    | refine br_of hA (fun _ => ?_) (fun _ => ?_)
    | exact imp_of hA id
    | (refine imp_of hA ?_; subst hA; simp only [real, Bool.true_and]; exact id)
    | (refine ind_of hA ?_; decide +kernel)
  refine loop_of hA (α := { q : Nat × Nat × (Nat → List DV) // q.1 ≤ n ∧ Tells zTab eTab (tOut key w (l.take q.1)) q.2.1 q.2.2 }) (fun y => st_sOut n g key w y.1.1 y.1.2.1 y.1.2.2) (fun y => n - y.1.1) ⟨(0, 0, fun _ => []), Nat.zero_le _, rfl, fun k h => absurd h (Nat.not_lt_zero k)⟩ ?_ ?_
  · refine cov_of ?_ ?_ ?_
    · cbv; try (subst hA; repeat' first | apply And.intro | exact True.intro | rfl)
    · cbv; try (subst hA; repeat' first | apply And.intro | exact True.intro | rfl | (intro _ _; rfl) | (intro k hk; exact absurd hk (Nat.not_lt_zero k)))
    · cbv; try (subst hA; repeat' first | apply And.intro | exact True.intro | rfl | exact .inr trivial)
  rintro ⟨⟨i, c, row⟩, hi, hT⟩
  have hi : i ≤ n := hi
  have hT : Tells zTab eTab (tOut key w (l.take i)) c row := hT
  have hci : c ≤ i := by
    rw [hT.1]
    have h1 := tOut_len key w (l.take i)
    rw [List.length_take] at h1
    omega
  cbv
  repeat' first
    | apply And.intro
    | exact True.intro
    | with_reducible rfl
    | exact same_of hA rfl
    | refine br_of hA (fun _ => ?_) (fun _ => ?_)
    | exact imp_of hA id
    | (refine imp_of hA ?_; subst hA; simp only [real, Bool.true_and]; exact id)
    | (refine ind_of hA ?_; decide +kernel)
    | (refine inb_of hA fun _ => ?_; subst hA; simp only [real, Bool.and_eq_true, Bool.not_eq_true', Bool.not_eq_false', decide_eq_true_eq, Int.ofNat_eq_natCast, IntKind.wrap_i64] at *; omega)
    | exact room_add2 hA (by omega) (by decide)
  · rename_i hlt hc
    have hlt' : i < n := by subst hA; simp only [real, decide_eq_true_eq, Int.ofNat_eq_natCast] at hlt; omega
    have hq : ¬ IsRow key w (g i) := by
      subst hA
      have e0 : real.add 0 (real.nat (Int.ofNat i)) = i := Nat.zero_add i
      have e1 : real.nat (Int.ofNat i) = i := rfl
      simp only [e0, e1, real, bifA, bifB, bifC, bifD, beqB, decide_eq_true_eq, decide_eq_false_iff_not, beqI, bneI, beqIF, bneIF, ne_eq, Classical.not_not, Bool.and_eq_true, Bool.or_eq_true, Bool.not_eq_true', Bool.not_eq_false', Bool.and_eq_false_iff, Bool.or_eq_false_iff, Bool.false_eq_true, and_false, false_and, or_false, false_or, and_true, true_and, not_true_eq_false, not_false_eq_true, true_iff, false_iff, Int.ofNat_eq_natCast, Int.toNat_natCast] at hc
      intro hI
      rcases hc with h | h | h | h
      · exact h hI.1
      · exact h hI.2.1
      · exact h hI.2.2
      · cases h
    refine ⟨⟨(i + 1, c + 1, fun q => if q < c then row q else eTab (g i)), by simp only; omega, ?_⟩, by simp only; omega, cov_of ?_ ?_ ?_⟩
    · simp only
      rw [lst_take hl hlt', tOut_app]
      show Tells zTab eTab (tOut key w (l.take i) ++ (if IsRow key w (g i) then tOut key w [] else g i :: tOut key w [])) _ _
      rw [if_neg hq]
      exact tells_snoc hT (fun q _ => rfl)
    · cbv
      subst hA
      repeat' first | apply And.intro | exact True.intro | exact congrArg (fun x => DV.v (.int .i64 x)) (up64 hlt' hnL) | rfl
    · cbv
      subst hA
      repeat' first | apply And.intro | exact True.intro | rfl | (intro _ _; rfl) | (intro q hq; exact push_at rfl _ _ _ _ q hq) | (intro q hq; have e0 : real.add 0 (real.nat (Int.ofNat i)) = i := Nat.zero_add i; rw [e0]; exact push_at rfl _ _ _ _ q hq) | (intro q hq; have e0 : real.nat (Int.ofNat i) = i := rfl; rw [e0]; exact push_at rfl _ _ _ _ q hq)
    · cbv; try (subst hA; repeat' first | apply And.intro | exact True.intro | rfl | exact .inr trivial)
  · rename_i hlt hc
    have hlt' : i < n := by subst hA; simp only [real, decide_eq_true_eq, Int.ofNat_eq_natCast] at hlt; omega
    have hq : IsRow key w (g i) := by
      subst hA
      have e0 : real.add 0 (real.nat (Int.ofNat i)) = i := Nat.zero_add i
      have e1 : real.nat (Int.ofNat i) = i := rfl
      simp only [e0, e1, real, bifA, bifB, bifC, bifD, beqB, decide_eq_true_eq, decide_eq_false_iff_not, beqI, bneI, beqIF, bneIF, ne_eq, Classical.not_not, Bool.and_eq_true, Bool.or_eq_true, Bool.not_eq_true', Bool.not_eq_false', Bool.and_eq_false_iff, Bool.or_eq_false_iff, Bool.false_eq_true, and_false, false_and, or_false, false_or, and_true, true_and, not_true_eq_false, not_false_eq_true, true_iff, false_iff, Int.ofNat_eq_natCast, Int.toNat_natCast] at hc
      unfold IsRow
      omega
    refine ⟨⟨(i + 1, c, row), by simp only; omega, ?_⟩, by simp only; omega, cov_of ?_ ?_ ?_⟩
    · simp only
      rw [lst_take hl hlt', tOut_app]
      show Tells zTab eTab (tOut key w (l.take i) ++ (if IsRow key w (g i) then tOut key w [] else g i :: tOut key w [])) _ _
      rw [if_pos hq]
      show Tells zTab eTab (tOut key w (l.take i) ++ []) _ _
      rw [List.append_nil]
      exact hT
    · cbv
      subst hA
      repeat' first | apply And.intro | exact True.intro | exact congrArg (fun x => DV.v (.int .i64 x)) (up64 hlt' hnL) | rfl
    · cbv; try (subst hA; repeat' first | apply And.intro | exact True.intro | rfl | (intro _ _; rfl))
    · cbv; try (subst hA; repeat' first | apply And.intro | exact True.intro | rfl | exact .inr trivial)
  · rename_i hge
    have hin : i = n := by subst hA; simp only [real, decide_eq_false_iff_not, Int.ofNat_eq_natCast] at hge; omega
    subst hin
    rw [lst_all hl] at hT
    have hcc : c = n0 := hT.1.trans h0.1.symm
    subst hcc
    refine stop_of hA ⟨[(7, .c (.own 576 0 c 1))], [(576, 1, .arr 7 c fun i => eTab (G i))]⟩ (cov_of ?_ ?_ ?_) ?_
    · cbv
    · cbv
      exact ⟨fun q hq => (hT.2 q hq).trans (h0.2 q hq).symm, trivial⟩
    · cbv
    · cbv
      repeat' first
        | apply And.intro
        | exact True.intro
        | with_reducible rfl
        | exact same_of hA rfl
        | refine br_of hA (fun _ => ?_) (fun _ => ?_)
        | exact imp_of hA id
        | (refine imp_of hA ?_; subst hA; simp only [real, Bool.true_and]; exact id)
        | (refine ind_of hA ?_; decide +kernel)
end Go.Rk
