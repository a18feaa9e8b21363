/- Mirrors, comparisons and sizes: what these functions of the laws do. -/
import Derived.Test.YtppekklalfebkaaRD0
import Derived.Test.YtppekklalfebkaaChecked
import Derived.Test.YtppekklalfebkaaDSz
import Derived.IntWalk
namespace Go.Rk
set_option linter.unusedSimpArgs false
set_option linter.unusedVariables false
open Go.Proofs
def EXA : FuncId → List Nat × Bool := fun _ => ([], false)
theorem mixed : Try.prog.follows .mixedOrders = true := by kernel_rfl
def st_toIntS (n : Nat) (rd : Nat → Int) (i : Nat) (rm : Nat → Int) : St :=
  ⟨[(4, .c (.d (eI i))), (0, .c (.d (.sl 1 n fun i => [eI (rd i)]))), (3, .c (.own 448 0 n 1))], [(448, 1, .arr 1 n fun i => [eI (rm i)])]⟩
set_option maxRecDepth 100000 in
theorem to_IntS (n : Nat) (hn : n ≤ 1048576) (rd : Nat → Int) : Meets Try.prog 58 [.c (.d (.sl 1 n fun i => [eI (rd i)]))] ⟨.one (.c (.own 1 n fun i => [eI (rd i)])), [none]⟩ := by
  have hn2 : n ≤ maxLen := Nat.le_trans hn (by decide)
  refine meets_of (H := [6]) (EX := EXA) ttok mixed Try.func58 rfl (by kernel_rfl) (by decide) ?_
  generalize hA : real = A
  generalize hM : Meets Try.prog = M
  cbv
  repeat' first
    | apply And.intro
    | exact True.intro
    | with_reducible rfl
    | exact same_of hA rfl
    | refine br_of hA (fun _ => ?_) (fun _ => ?_)
    | (refine ind_of hA ?_; decide +kernel)
    | exact made_n hA hn (by decide)
  refine loop_of hA (α := { p : Nat × (Nat → Int) // p.1 ≤ n ∧ ∀ j, j < p.1 → p.2 j = rd j }) (fun x => st_toIntS n rd x.1.1 x.1.2) (fun x => n - x.1.1) ⟨(0, fun _ => 0), Nat.zero_le _, fun j h => absurd h (Nat.not_lt_zero _)⟩ ?_ ?_
  · refine cov_of ?_ ?_ ?_
    · cbv
      subst hA
      exact ⟨rfl, ⟨rfl, trivial⟩, trivial⟩
    · cbv
      subst hA
      exact ⟨⟨rfl, fun _ _ => rfl⟩, trivial⟩
    · cbv
  rintro ⟨⟨i, rm⟩, hi, hrm⟩
  cbv
  repeat' first
    | apply And.intro
    | exact True.intro
    | with_reducible rfl
    | exact same_of hA rfl
    | refine br_of hA (fun _ => ?_) (fun _ => ?_)
    | (refine ind_of hA ?_; decide +kernel)
    | (refine inb_of hA fun _ => ?_; subst hA; simp only [real, decide_eq_true_eq, Int.ofNat_eq_natCast] at *; omega)
  · rename_i hlt
    have hlt' : i < n := by subst hA; simp only [real, decide_eq_true_eq, Int.ofNat_eq_natCast] at hlt; omega
    refine ⟨⟨(i + 1, fun j => if j = i then rd i else rm j), by simp only; omega, fun j hj => ?_⟩, by simp only; omega, cov_of ?_ ?_ ?_⟩
    · simp only at hj ⊢
      by_cases e : j = i
      · simp [e]
      · rw [if_neg e]; exact hrm j (by simp only; omega)
    · cbv
      subst hA
      exact ⟨congrArg (fun x => DV.v (.int .i64 x)) (up64 hlt' hn2), trivial⟩
    · cbv
      refine ⟨fun q _ => ?_, trivial⟩
      subst hA
      by_cases e : q = i
      · subst e; show (if q = 0 + q then [eI (rd q)] else [eI (rm q)]) = _; simp only [Nat.zero_add, if_pos, if_true] <;> rfl
      · show (if q = 0 + i then [eI (rd i)] else [eI (rm q)]) = _; simp only [Nat.zero_add, e, if_false] <;> rfl
    · cbv
  · rename_i hge
    have hin : i = n := by
      subst hA
      have : ¬ ((i : Int) < (n : Int)) := of_decide_eq_false hge
      simp only at hi
      omega
    subst hin
    refine stop_of hA ⟨[(3, .c (.own 448 0 i 1))], [(448, 1, .arr 1 i fun j => [eI (rd j)])]⟩ (cov_of ?_ ?_ ?_) ?_
    · cbv
    · cbv
      exact ⟨fun q hq => congrArg (fun x => [eI x]) (hrm q hq), trivial⟩
    · cbv
    · cbv
      repeat' first | apply And.intro | refine br_of hA (fun _ => ?_) (fun _ => ?_)
      all_goals first | exact True.intro | with_reducible rfl | exact same_of hA rfl | skip
def st_eqIntS (n : Nat) (rd : Nat → Int) (i : Nat) : St := ⟨[(5, .c (.d (eI i))), (0, .c (.d (.sl 1 n fun i => [eI (rd i)]))), (1, .c (.d (.sl 1 n fun i => [eI (rd i)])))], []⟩
set_option maxRecDepth 100000 in
theorem eq_IntS (n : Nat) (hn : n ≤ maxLen) (rd : Nat → Int) : Meets Try.prog 40 [.c (.d (.sl 1 n fun i => [eI (rd i)])), .c (.d (.sl 1 n fun i => [eI (rd i)]))] ⟨.one (.c (.d (eB true))), [none, none]⟩ := by
  refine meets_of (H := []) (EX := EXA) ttok mixed Try.func40 rfl (by kernel_rfl) (by decide) ?_
  generalize hA : real = A
  generalize hM : Meets Try.prog = M
  cbv
  repeat' first
    | apply And.intro
    | exact True.intro
    | with_reducible rfl
    | exact same_of hA rfl
    | refine br_of hA (fun _ => ?_) (fun _ => ?_)
    | (refine ind_of hA ?_; decide +kernel)
    | (exfalso; rename_i h; subst hA; simp [real] at h; done)
  refine loop_of hA (α := { i : Nat // i ≤ n }) (fun x => st_eqIntS n rd x.1) (fun x => n - x.1) ⟨0, Nat.zero_le _⟩ ?_ ?_
  · refine cov_of ?_ ?_ ?_
    · cbv; exact ⟨rfl, trivial⟩
    · cbv
    · cbv
  rintro ⟨i, hi⟩
  cbv
  repeat' first
    | apply And.intro
    | exact True.intro
    | with_reducible rfl
    | exact same_of hA rfl
    | refine br_of hA (fun _ => ?_) (fun _ => ?_)
    | (refine ind_of hA ?_; decide +kernel)
    | (exfalso; rename_i h; subst hA; simp [real] at h; done)
    | (refine inb_of hA fun _ => ?_; subst hA; simp only [real, decide_eq_true_eq, Int.ofNat_eq_natCast] at *; omega)
  have hlt' : i < n := by
    subst hA
    simp only [real, decide_eq_true_eq, Int.ofNat_eq_natCast] at *
    omega
  refine ⟨⟨i + 1, by omega⟩, by simp only; omega, cov_of ?_ ?_ ?_⟩
  · cbv
    subst hA
    exact ⟨congrArg (fun x => DV.v (.int .i64 x)) (up64 hlt' hn), trivial⟩
  · cbv
  · cbv
set_option maxRecDepth 100000 in
theorem sz_IntS (n : Nat) (hn : n ≤ maxLen) (rd : Nat → Int) (l : Int) (h0 : 0 ≤ l) (h1 : l ≤ 1048576) (y : Int) (hy : y = szN n l) : Meets Try.prog 52 [.c (.d (.sl 1 n fun i => [eI (rd i)])), .c (.d (eI l))] ⟨.one (.c (.d (eI y))), [none, none]⟩ := by
  have hm : maxLen = 9223372036854775807 := by decide
  have hw : IntKind.i64.wrap (l - (n : Int)) = l - n := IntWalk.i64_in _ (by omega)
  refine meets_of (H := []) (EX := EXA) ttok mixed Try.func52 rfl (by kernel_rfl) (by decide) ?_
  generalize hA : real = A
  generalize hM : Meets Try.prog = M
  cbv
  repeat' first
    | apply And.intro
    | exact True.intro
    | with_reducible rfl
    | exact same_of hA rfl
    | refine br_of hA (fun _ => ?_) (fun _ => ?_)
    | (refine ind_of hA ?_; decide +kernel)
  all_goals rename_i hlt
  all_goals subst hA
  · refine congrArg (fun x => XA.one (.c (.d (eI x)))) ?_
    have hlt : IntKind.i64.wrap (l - (n : Int)) < 0 := of_decide_eq_true hlt
    rw [hw] at hlt
    rw [hy]; unfold szN; rw [if_pos hlt]
  · refine congrArg (fun x => XA.one (.c (.d (eI x)))) ?_
    have hlt : ¬ IntKind.i64.wrap (l - (n : Int)) < 0 := of_decide_eq_false hlt
    rw [hw] at hlt
    rw [hy]; unfold szN; rw [if_neg hlt]
    exact hw
def st_toBoolS (n : Nat) (rd : Nat → Bool) (i : Nat) (rm : Nat → Bool) : St :=
  ⟨[(4, .c (.d (eI i))), (0, .c (.d (.sl 1 n fun i => [eB (rd i)]))), (3, .c (.own 448 0 n 1))], [(448, 1, .arr 1 n fun i => [eB (rm i)])]⟩
set_option maxRecDepth 100000 in
theorem to_BoolS (n : Nat) (hn : n ≤ 1048576) (rd : Nat → Bool) : Meets Try.prog 59 [.c (.d (.sl 1 n fun i => [eB (rd i)]))] ⟨.one (.c (.own 1 n fun i => [eB (rd i)])), [none]⟩ := by
  have hn2 : n ≤ maxLen := Nat.le_trans hn (by decide)
  refine meets_of (H := [6]) (EX := EXA) ttok mixed Try.func59 rfl (by kernel_rfl) (by decide) ?_
  generalize hA : real = A
  generalize hM : Meets Try.prog = M
  cbv
  repeat' first
    | apply And.intro
    | exact True.intro
    | with_reducible rfl
    | exact same_of hA rfl
    | refine br_of hA (fun _ => ?_) (fun _ => ?_)
    | (refine ind_of hA ?_; decide +kernel)
    | exact made_n hA hn (by decide)
  refine loop_of hA (α := { p : Nat × (Nat → Bool) // p.1 ≤ n ∧ ∀ j, j < p.1 → p.2 j = rd j }) (fun x => st_toBoolS n rd x.1.1 x.1.2) (fun x => n - x.1.1) ⟨(0, fun _ => false), Nat.zero_le _, fun j h => absurd h (Nat.not_lt_zero _)⟩ ?_ ?_
  · refine cov_of ?_ ?_ ?_
    · cbv
      subst hA
      exact ⟨rfl, ⟨rfl, trivial⟩, trivial⟩
    · cbv
      subst hA
      exact ⟨⟨rfl, fun _ _ => rfl⟩, trivial⟩
    · cbv
  rintro ⟨⟨i, rm⟩, hi, hrm⟩
  cbv
  repeat' first
    | apply And.intro
    | exact True.intro
    | with_reducible rfl
    | exact same_of hA rfl
    | refine br_of hA (fun _ => ?_) (fun _ => ?_)
    | (refine ind_of hA ?_; decide +kernel)
    | (refine inb_of hA fun _ => ?_; subst hA; simp only [real, decide_eq_true_eq, Int.ofNat_eq_natCast] at *; omega)
  · rename_i hlt
    have hlt' : i < n := by subst hA; simp only [real, decide_eq_true_eq, Int.ofNat_eq_natCast] at hlt; omega
    refine ⟨⟨(i + 1, fun j => if j = i then rd i else rm j), by simp only; omega, fun j hj => ?_⟩, by simp only; omega, cov_of ?_ ?_ ?_⟩
    · simp only at hj ⊢
      by_cases e : j = i
      · simp [e]
      · rw [if_neg e]; exact hrm j (by simp only; omega)
    · cbv
      subst hA
      exact ⟨congrArg (fun x => DV.v (.int .i64 x)) (up64 hlt' hn2), trivial⟩
    · cbv
      refine ⟨fun q _ => ?_, trivial⟩
      subst hA
      by_cases e : q = i
      · subst e; show (if q = 0 + q then [eB (rd q)] else [eB (rm q)]) = _; simp only [Nat.zero_add, if_pos, if_true] <;> rfl
      · show (if q = 0 + i then [eB (rd i)] else [eB (rm q)]) = _; simp only [Nat.zero_add, e, if_false] <;> rfl
    · cbv
  · rename_i hge
    have hin : i = n := by
      subst hA
      have : ¬ ((i : Int) < (n : Int)) := of_decide_eq_false hge
      simp only at hi
      omega
    subst hin
    refine stop_of hA ⟨[(3, .c (.own 448 0 i 1))], [(448, 1, .arr 1 i fun j => [eB (rd j)])]⟩ (cov_of ?_ ?_ ?_) ?_
    · cbv
    · cbv
      exact ⟨fun q hq => congrArg (fun x => [eB x]) (hrm q hq), trivial⟩
    · cbv
    · cbv
      repeat' first | apply And.intro | refine br_of hA (fun _ => ?_) (fun _ => ?_)
      all_goals first | exact True.intro | with_reducible rfl | exact same_of hA rfl | skip
def st_eqBoolS (n : Nat) (rd : Nat → Bool) (i : Nat) : St := ⟨[(5, .c (.d (eI i))), (0, .c (.d (.sl 1 n fun i => [eB (rd i)]))), (1, .c (.d (.sl 1 n fun i => [eB (rd i)])))], []⟩
set_option maxRecDepth 100000 in
theorem eq_BoolS (n : Nat) (hn : n ≤ maxLen) (rd : Nat → Bool) : Meets Try.prog 41 [.c (.d (.sl 1 n fun i => [eB (rd i)])), .c (.d (.sl 1 n fun i => [eB (rd i)]))] ⟨.one (.c (.d (eB true))), [none, none]⟩ := by
  refine meets_of (H := []) (EX := EXA) ttok mixed Try.func41 rfl (by kernel_rfl) (by decide) ?_
  generalize hA : real = A
  generalize hM : Meets Try.prog = M
  cbv
  repeat' first
    | apply And.intro
    | exact True.intro
    | with_reducible rfl
    | exact same_of hA rfl
    | refine br_of hA (fun _ => ?_) (fun _ => ?_)
    | (refine ind_of hA ?_; decide +kernel)
    | (exfalso; rename_i h; subst hA; simp [real] at h; done)
  refine loop_of hA (α := { i : Nat // i ≤ n }) (fun x => st_eqBoolS n rd x.1) (fun x => n - x.1) ⟨0, Nat.zero_le _⟩ ?_ ?_
  · refine cov_of ?_ ?_ ?_
    · cbv; exact ⟨rfl, trivial⟩
    · cbv
    · cbv
  rintro ⟨i, hi⟩
  cbv
  repeat' first
    | apply And.intro
    | exact True.intro
    | with_reducible rfl
    | exact same_of hA rfl
    | refine br_of hA (fun _ => ?_) (fun _ => ?_)
    | (refine ind_of hA ?_; decide +kernel)
    | (exfalso; rename_i h; subst hA; simp [real] at h; done)
    | (refine inb_of hA fun _ => ?_; subst hA; simp only [real, decide_eq_true_eq, Int.ofNat_eq_natCast] at *; omega)
  have hlt' : i < n := by
    subst hA
    simp only [real, decide_eq_true_eq, Int.ofNat_eq_natCast] at *
    omega
  refine ⟨⟨i + 1, by omega⟩, by simp only; omega, cov_of ?_ ?_ ?_⟩
  · cbv
    subst hA
    exact ⟨congrArg (fun x => DV.v (.int .i64 x)) (up64 hlt' hn), trivial⟩
  · cbv
  · cbv
set_option maxRecDepth 100000 in
theorem sz_BoolS (n : Nat) (hn : n ≤ maxLen) (rd : Nat → Bool) (l : Int) (h0 : 0 ≤ l) (h1 : l ≤ 1048576) (y : Int) (hy : y = szN n l) : Meets Try.prog 53 [.c (.d (.sl 1 n fun i => [eB (rd i)])), .c (.d (eI l))] ⟨.one (.c (.d (eI y))), [none, none]⟩ := by
  have hm : maxLen = 9223372036854775807 := by decide
  have hw : IntKind.i64.wrap (l - (n : Int)) = l - n := IntWalk.i64_in _ (by omega)
  refine meets_of (H := []) (EX := EXA) ttok mixed Try.func53 rfl (by kernel_rfl) (by decide) ?_
  generalize hA : real = A
  generalize hM : Meets Try.prog = M
  cbv
  repeat' first
    | apply And.intro
    | exact True.intro
    | with_reducible rfl
    | exact same_of hA rfl
    | refine br_of hA (fun _ => ?_) (fun _ => ?_)
    | (refine ind_of hA ?_; decide +kernel)
  all_goals rename_i hlt
  all_goals subst hA
  · refine congrArg (fun x => XA.one (.c (.d (eI x)))) ?_
    have hlt : IntKind.i64.wrap (l - (n : Int)) < 0 := of_decide_eq_true hlt
    rw [hw] at hlt
    rw [hy]; unfold szN; rw [if_pos hlt]
  · refine congrArg (fun x => XA.one (.c (.d (eI x)))) ?_
    have hlt : ¬ IntKind.i64.wrap (l - (n : Int)) < 0 := of_decide_eq_false hlt
    rw [hw] at hlt
    rw [hy]; unfold szN; rw [if_neg hlt]
    exact hw
set_option maxRecDepth 100000 in
theorem to_Job (x : JobT) : Meets Try.prog 16 [xd (eJob x)] ⟨.one (xd (eJob x)), [none]⟩ := by
  refine meets_of (H := []) (EX := EXA) ttok mixed Try.func16 rfl (by kernel_rfl) (by decide) ?_
  generalize hA : real = A
  generalize hM : Meets Try.prog = M
  cbv
  repeat' first
    | apply And.intro
    | exact True.intro
    | with_reducible rfl
    | exact same_of hA rfl
    | refine br_of hA (fun _ => ?_) (fun _ => ?_)
    | (refine ind_of hA ?_; decide +kernel)
set_option maxRecDepth 100000 in
theorem to_Win (x : WinT) : Meets Try.prog 126 [xd (eWin x)] ⟨.one (xd (eWin x)), [none]⟩ := by
  refine meets_of (H := []) (EX := EXA) ttok mixed Try.func126 rfl (by kernel_rfl) (by decide) ?_
  generalize hA : real = A
  generalize hM : Meets Try.prog = M
  cbv
  repeat' first
    | apply And.intro
    | exact True.intro
    | with_reducible rfl
    | exact same_of hA rfl
    | refine br_of hA (fun _ => ?_) (fun _ => ?_)
    | (refine ind_of hA ?_; decide +kernel)
set_option maxRecDepth 100000 in
theorem eq_Win (x : WinT) : Meets Try.prog 124 [xd (eWin x), xd (eWin x)] ⟨.one (.c (.d (eB true))), [none, none]⟩ := by
  refine meets_of (H := []) (EX := EXA) ttok mixed Try.func124 rfl (by kernel_rfl) (by decide) ?_
  generalize hA : real = A
  generalize hM : Meets Try.prog = M
  cbv
  repeat' first
    | apply And.intro
    | exact True.intro
    | with_reducible rfl
    | exact same_of hA rfl
    | refine br_of hA (fun _ => ?_) (fun _ => ?_)
    | (refine ind_of hA ?_; decide +kernel)
    | (exfalso; rename_i h; subst hA; simp [real] at h; done)
set_option maxRecDepth 100000 in
theorem to_Agg (x : AggT) : Meets Try.prog 127 [xd (eAgg x)] ⟨.one (xd (eAgg x)), [none]⟩ := by
  refine meets_of (H := []) (EX := EXA) ttok mixed Try.func127 rfl (by kernel_rfl) (by decide) ?_
  generalize hA : real = A
  generalize hM : Meets Try.prog = M
  cbv
  repeat' first
    | apply And.intro
    | exact True.intro
    | with_reducible rfl
    | exact same_of hA rfl
    | refine br_of hA (fun _ => ?_) (fun _ => ?_)
    | (refine ind_of hA ?_; decide +kernel)
set_option maxRecDepth 100000 in
theorem eq_Agg (x : AggT) : Meets Try.prog 125 [xd (eAgg x), xd (eAgg x)] ⟨.one (.c (.d (eB true))), [none, none]⟩ := by
  refine meets_of (H := []) (EX := EXA) ttok mixed Try.func125 rfl (by kernel_rfl) (by decide) ?_
  generalize hA : real = A
  generalize hM : Meets Try.prog = M
  cbv
  repeat' first
    | apply And.intro
    | exact True.intro
    | with_reducible rfl
    | exact same_of hA rfl
    | refine br_of hA (fun _ => ?_) (fun _ => ?_)
    | (refine ind_of hA ?_; decide +kernel)
    | (exfalso; rename_i h; subst hA; simp [real] at h; done)
set_option maxRecDepth 100000 in
theorem to_Row (x : RowT) : Meets Try.prog 123 [xd (eRow x)] ⟨.one (xd (eRow x)), [none]⟩ := by
  refine meets_of (H := []) (EX := EXA) ttok mixed Try.func123 rfl (by kernel_rfl) (by decide) ?_
  generalize hA : real = A
  generalize hM : Meets Try.prog = M
  cbv
  repeat' first
    | apply And.intro
    | exact True.intro
    | with_reducible rfl
    | exact same_of hA rfl
    | refine br_of hA (fun _ => ?_) (fun _ => ?_)
    | (refine ind_of hA ?_; decide +kernel)
    | (refine call_of hA hM _ (to_Win x.win) ?_; cbv)
    | (refine call_of hA hM _ (to_Agg x.all) ?_; cbv)
    | (refine call_of hA hM _ (to_Agg x.fresh) ?_; cbv)
set_option maxRecDepth 100000 in
theorem eq_Row (x : RowT) : Meets Try.prog 122 [xd (eRow x), xd (eRow x)] ⟨.one (.c (.d (eB true))), [none, none]⟩ := by
  refine meets_of (H := []) (EX := EXA) ttok mixed Try.func122 rfl (by kernel_rfl) (by decide) ?_
  generalize hA : real = A
  generalize hM : Meets Try.prog = M
  cbv
  repeat' first
    | apply And.intro
    | exact True.intro
    | with_reducible rfl
    | exact same_of hA rfl
    | refine br_of hA (fun _ => ?_) (fun _ => ?_)
    | (refine ind_of hA ?_; decide +kernel)
    | (refine call_of hA hM _ (eq_Win x.win) ?_; cbv)
    | (refine call_of hA hM _ (eq_Agg x.all) ?_; cbv)
    | (refine call_of hA hM _ (eq_Agg x.fresh) ?_; cbv)
    | (exfalso; rename_i h; subst hA; simp [real] at h; done)
def st_toRowS (n : Nat) (rd : Nat → RowT) (i : Nat) (rm : Nat → RowT) : St :=
  ⟨[(4, .c (.d (eI i))), (0, .c (.d (.sl 13 n fun i => eRow (rd i)))), (3, .c (.own 448 0 n 1))], [(448, 1, .arr 13 n fun i => eRow (rm i))]⟩
set_option maxRecDepth 100000 in
theorem to_RowS (n : Nat) (hn : n ≤ 1048576) (rd : Nat → RowT) : Meets Try.prog 119 [.c (.d (.sl 13 n fun i => eRow (rd i)))] ⟨.one (.c (.own 13 n fun i => eRow (rd i))), [none]⟩ := by
  have hn2 : n ≤ maxLen := Nat.le_trans hn (by decide)
  refine meets_of (H := [6]) (EX := EXA) ttok mixed Try.func119 rfl (by kernel_rfl) (by decide) ?_
  generalize hA : real = A
  generalize hM : Meets Try.prog = M
  cbv
  repeat' first
    | apply And.intro
    | exact True.intro
    | with_reducible rfl
    | exact same_of hA rfl
    | refine br_of hA (fun _ => ?_) (fun _ => ?_)
    | (refine ind_of hA ?_; decide +kernel)
    | exact made_n hA hn (by decide)
  refine loop_of hA (α := { p : Nat × (Nat → RowT) // p.1 ≤ n ∧ ∀ j, j < p.1 → p.2 j = rd j }) (fun x => st_toRowS n rd x.1.1 x.1.2) (fun x => n - x.1.1) ⟨(0, fun _ => ⟨0, ⟨0, 0⟩, ⟨0, 0, 0, 0⟩, ⟨0, 0, 0, 0⟩, 0, false⟩), Nat.zero_le _, fun j h => absurd h (Nat.not_lt_zero _)⟩ ?_ ?_
  · refine cov_of ?_ ?_ ?_
    · cbv
      subst hA
      exact ⟨rfl, ⟨rfl, trivial⟩, trivial⟩
    · cbv
      subst hA
      exact ⟨⟨rfl, fun _ _ => rfl⟩, trivial⟩
    · cbv
  rintro ⟨⟨i, rm⟩, hi, hrm⟩
  cbv
  repeat' first
    | apply And.intro
    | exact True.intro
    | with_reducible rfl
    | exact same_of hA rfl
    | refine br_of hA (fun _ => ?_) (fun _ => ?_)
    | (refine ind_of hA ?_; decide +kernel)
    | (refine call_of hA hM _ (to_Row (rd (A.nat (Int.ofNat i)))) ?_; cbv)
    | (refine inb_of hA fun _ => ?_; subst hA; simp only [real, decide_eq_true_eq, Int.ofNat_eq_natCast] at *; omega)
  · rename_i hlt
    have hlt' : i < n := by subst hA; simp only [real, decide_eq_true_eq, Int.ofNat_eq_natCast] at hlt; omega
    refine ⟨⟨(i + 1, fun j => if j = i then rd i else rm j), by simp only; omega, fun j hj => ?_⟩, by simp only; omega, cov_of ?_ ?_ ?_⟩
    · simp only at hj ⊢
      by_cases e : j = i
      · simp [e]
      · rw [if_neg e]; exact hrm j (by simp only; omega)
    · cbv
      subst hA
      exact ⟨congrArg (fun x => DV.v (.int .i64 x)) (up64 hlt' hn2), trivial⟩
    · cbv
      refine ⟨fun q _ => ?_, trivial⟩
      subst hA
      by_cases e : q = i
      · subst e; show (if q = 0 + q then eRow (rd q) else eRow (rm q)) = _; simp only [Nat.zero_add, if_pos, if_true] <;> rfl
      · show (if q = 0 + i then eRow (rd i) else eRow (rm q)) = _; simp only [Nat.zero_add, e, if_false] <;> rfl
    · cbv
  · rename_i hge
    have hin : i = n := by
      subst hA
      have : ¬ ((i : Int) < (n : Int)) := of_decide_eq_false hge
      simp only at hi
      omega
    subst hin
    refine stop_of hA ⟨[(3, .c (.own 448 0 i 1))], [(448, 1, .arr 13 i fun j => eRow (rd j))]⟩ (cov_of ?_ ?_ ?_) ?_
    · cbv
    · cbv
      exact ⟨fun q hq => congrArg (fun x => eRow x) (hrm q hq), trivial⟩
    · cbv
    · cbv
      repeat' first | apply And.intro | refine br_of hA (fun _ => ?_) (fun _ => ?_)
      all_goals first | exact True.intro | with_reducible rfl | exact same_of hA rfl | skip
def st_eqRowS (n : Nat) (rd : Nat → RowT) (i : Nat) : St := ⟨[(5, .c (.d (eI i))), (0, .c (.d (.sl 13 n fun i => eRow (rd i)))), (1, .c (.d (.sl 13 n fun i => eRow (rd i))))], []⟩
set_option maxRecDepth 100000 in
theorem eq_RowS (n : Nat) (hn : n ≤ maxLen) (rd : Nat → RowT) : Meets Try.prog 114 [.c (.d (.sl 13 n fun i => eRow (rd i))), .c (.d (.sl 13 n fun i => eRow (rd i)))] ⟨.one (.c (.d (eB true))), [none, none]⟩ := by
  refine meets_of (H := []) (EX := EXA) ttok mixed Try.func114 rfl (by kernel_rfl) (by decide) ?_
  generalize hA : real = A
  generalize hM : Meets Try.prog = M
  cbv
  repeat' first
    | apply And.intro
    | exact True.intro
    | with_reducible rfl
    | exact same_of hA rfl
    | refine br_of hA (fun _ => ?_) (fun _ => ?_)
    | (refine ind_of hA ?_; decide +kernel)
    | (exfalso; rename_i h; subst hA; simp [real] at h; done)
  refine loop_of hA (α := { i : Nat // i ≤ n }) (fun x => st_eqRowS n rd x.1) (fun x => n - x.1) ⟨0, Nat.zero_le _⟩ ?_ ?_
  · refine cov_of ?_ ?_ ?_
    · cbv; exact ⟨rfl, trivial⟩
    · cbv
    · cbv
  rintro ⟨i, hi⟩
  cbv
  repeat' first
    | apply And.intro
    | exact True.intro
    | with_reducible rfl
    | exact same_of hA rfl
    | refine br_of hA (fun _ => ?_) (fun _ => ?_)
    | (refine ind_of hA ?_; decide +kernel)
    | (refine call_of hA hM _ (eq_Row (rd (A.nat (Int.ofNat i)))) ?_; cbv)
    | (exfalso; rename_i h; subst hA; simp [real] at h; done)
    | (refine inb_of hA fun _ => ?_; subst hA; simp only [real, decide_eq_true_eq, Int.ofNat_eq_natCast] at *; omega)
  have hlt' : i < n := by
    subst hA
    simp only [real, decide_eq_true_eq, Int.ofNat_eq_natCast] at *
    omega
  refine ⟨⟨i + 1, by omega⟩, by simp only; omega, cov_of ?_ ?_ ?_⟩
  · cbv
    subst hA
    exact ⟨congrArg (fun x => DV.v (.int .i64 x)) (up64 hlt' hn), trivial⟩
  · cbv
  · cbv
set_option maxRecDepth 100000 in
theorem sz_RowS (n : Nat) (hn : n ≤ maxLen) (rd : Nat → RowT) (l : Int) (h0 : 0 ≤ l) (h1 : l ≤ 1048576) (y : Int) (hy : y = szN n l) : Meets Try.prog 115 [.c (.d (.sl 13 n fun i => eRow (rd i))), .c (.d (eI l))] ⟨.one (.c (.d (eI y))), [none, none]⟩ := by
  have hm : maxLen = 9223372036854775807 := by decide
  have hw : IntKind.i64.wrap (l - (n : Int)) = l - n := IntWalk.i64_in _ (by omega)
  refine meets_of (H := []) (EX := EXA) ttok mixed Try.func115 rfl (by kernel_rfl) (by decide) ?_
  generalize hA : real = A
  generalize hM : Meets Try.prog = M
  cbv
  repeat' first
    | apply And.intro
    | exact True.intro
    | with_reducible rfl
    | exact same_of hA rfl
    | refine br_of hA (fun _ => ?_) (fun _ => ?_)
    | (refine ind_of hA ?_; decide +kernel)
  all_goals rename_i hlt
  all_goals subst hA
  · refine congrArg (fun x => XA.one (.c (.d (eI x)))) ?_
    have hlt : IntKind.i64.wrap (l - (n : Int)) < 0 := of_decide_eq_true hlt
    rw [hw] at hlt
    rw [hy]; unfold szN; rw [if_pos hlt]
  · refine congrArg (fun x => XA.one (.c (.d (eI x)))) ?_
    have hlt : ¬ IntKind.i64.wrap (l - (n : Int)) < 0 := of_decide_eq_false hlt
    rw [hw] at hlt
    rw [hy]; unfold szN; rw [if_neg hlt]
    exact hw
set_option maxRecDepth 100000 in
theorem to_OpSt (x : OpStT) (hb : bdOpSt x) : Meets Try.prog 104 [xd (eOpSt x)] ⟨.one (xd (eOpSt x)), [none]⟩ := by
  refine meets_of (H := []) (EX := EXA) ttok mixed Try.func104 rfl (by kernel_rfl) (by decide) ?_
  generalize hA : real = A
  generalize hM : Meets Try.prog = M
  cbv
  repeat' first
    | apply And.intro
    | exact True.intro
    | with_reducible rfl
    | exact same_of hA rfl
    | refine br_of hA (fun _ => ?_) (fun _ => ?_)
    | (refine ind_of hA ?_; decide +kernel)
    | (refine call_of hA hM _ (meets_frz (to_RowS x.rows.n hb x.rows.g) rfl) ?_; cbv)
set_option maxRecDepth 100000 in
theorem eq_OpSt (x : OpStT) : Meets Try.prog 99 [xd (eOpSt x), xd (eOpSt x)] ⟨.one (.c (.d (eB true))), [none, none]⟩ := by
  refine meets_of (H := []) (EX := EXA) ttok mixed Try.func99 rfl (by kernel_rfl) (by decide) ?_
  generalize hA : real = A
  generalize hM : Meets Try.prog = M
  cbv
  repeat' first
    | apply And.intro
    | exact True.intro
    | with_reducible rfl
    | exact same_of hA rfl
    | refine br_of hA (fun _ => ?_) (fun _ => ?_)
    | (refine ind_of hA ?_; decide +kernel)
    | (refine call_of hA hM _ (eq_RowS x.rows.n x.rows.hn x.rows.g) ?_; cbv)
    | (exfalso; rename_i h; subst hA; simp [real] at h; done)
set_option maxRecDepth 100000 in
theorem sz_OpSt (x : OpStT) (l0 : Int) (h0 : 0 ≤ l0) (h1 : l0 ≤ 1048576) (y : Int) (hy : y = szOpSt x l0) : Meets Try.prog 100 [xd (eOpSt x), .c (.d (eI l0))] ⟨.one (.c (.d (eI y))), [none, none]⟩ := by
  refine meets_of (H := []) (EX := EXA) ttok mixed Try.func100 rfl (by kernel_rfl) (by decide) ?_
  generalize hA : real = A
  generalize hM : Meets Try.prog = M
  cbv
  repeat' first
    | apply And.intro
    | exact True.intro
    | with_reducible rfl
    | exact same_of hA rfl
    | refine br_of hA (fun _ => ?_) (fun _ => ?_)
    | (refine ind_of hA ?_; decide +kernel)
  unfold szOpSt at hy
  obtain ⟨l1, e1⟩ : ∃ z : Int, z = szN x.rows.n l0 := ⟨_, rfl⟩
  have s1 := szN_spec (n := x.rows.n) h0 h1
  rw [← e1] at s1 hy
  refine call_of hA hM _ (sz_RowS x.rows.n x.rows.hn x.rows.g l0 h0 h1 l1 e1) ?_
  cbv
  repeat' first
    | apply And.intro
    | exact True.intro
    | with_reducible rfl
    | exact same_of hA rfl
    | refine br_of hA (fun _ => ?_) (fun _ => ?_)
    | (refine ind_of hA ?_; decide +kernel)
  · rename_i hlt
    refine congrArg (fun x => XA.one (.c (.d (eI x)))) ?_
    subst hA
    have hlt : l1 < 0 := of_decide_eq_true hlt
    omega
  rename_i hge1
  have hge1 : ¬ l1 < 0 := by subst hA; exact of_decide_eq_false hge1
  exact congrArg (fun x => XA.one (.c (.d (eI x)))) hy.symm
set_option maxRecDepth 100000 in
theorem to_Snap (x : SnapT) (hb : bdSnap x) : Meets Try.prog 85 [xd (eSnap x)] ⟨.one (xd (eSnap x)), [none]⟩ := by
  refine meets_of (H := []) (EX := EXA) ttok mixed Try.func85 rfl (by kernel_rfl) (by decide) ?_
  generalize hA : real = A
  generalize hM : Meets Try.prog = M
  cbv
  repeat' first
    | apply And.intro
    | exact True.intro
    | with_reducible rfl
    | exact same_of hA rfl
    | refine br_of hA (fun _ => ?_) (fun _ => ?_)
    | (refine ind_of hA ?_; decide +kernel)
    | (refine call_of hA hM _ (to_OpSt x.op hb.1) ?_; cbv)
    | (refine call_of hA hM _ (meets_frz (to_IntS x.marks.n hb.2 x.marks.g) rfl) ?_; cbv)
set_option maxRecDepth 100000 in
theorem eq_Snap (x : SnapT) : Meets Try.prog 80 [xd (eSnap x), xd (eSnap x)] ⟨.one (.c (.d (eB true))), [none, none]⟩ := by
  refine meets_of (H := []) (EX := EXA) ttok mixed Try.func80 rfl (by kernel_rfl) (by decide) ?_
  generalize hA : real = A
  generalize hM : Meets Try.prog = M
  cbv
  repeat' first
    | apply And.intro
    | exact True.intro
    | with_reducible rfl
    | exact same_of hA rfl
    | refine br_of hA (fun _ => ?_) (fun _ => ?_)
    | (refine ind_of hA ?_; decide +kernel)
    | (refine call_of hA hM _ (eq_OpSt x.op) ?_; cbv)
    | (refine call_of hA hM _ (eq_IntS x.marks.n x.marks.hn x.marks.g) ?_; cbv)
    | (exfalso; rename_i h; subst hA; simp [real] at h; done)
set_option maxRecDepth 100000 in
theorem sz_Snap (x : SnapT) (l0 : Int) (h0 : 0 ≤ l0) (h1 : l0 ≤ 1048576) (y : Int) (hy : y = szSnap x l0) : Meets Try.prog 83 [xd (eSnap x), .c (.d (eI l0))] ⟨.one (.c (.d (eI y))), [none, none]⟩ := by
  refine meets_of (H := []) (EX := EXA) ttok mixed Try.func83 rfl (by kernel_rfl) (by decide) ?_
  generalize hA : real = A
  generalize hM : Meets Try.prog = M
  cbv
  repeat' first
    | apply And.intro
    | exact True.intro
    | with_reducible rfl
    | exact same_of hA rfl
    | refine br_of hA (fun _ => ?_) (fun _ => ?_)
    | (refine ind_of hA ?_; decide +kernel)
  unfold szSnap at hy
  obtain ⟨l1, e1⟩ : ∃ z : Int, z = szOpSt x.op l0 := ⟨_, rfl⟩
  have s1 := szOpSt_spec x.op h0 h1
  rw [← e1] at s1 hy
  refine call_of hA hM _ (sz_OpSt x.op l0 h0 h1 l1 e1) ?_
  cbv
  repeat' first
    | apply And.intro
    | exact True.intro
    | with_reducible rfl
    | exact same_of hA rfl
    | refine br_of hA (fun _ => ?_) (fun _ => ?_)
    | (refine ind_of hA ?_; decide +kernel)
  · rename_i hlt
    refine congrArg (fun x => XA.one (.c (.d (eI x)))) ?_
    subst hA
    have hlt : l1 < 0 := of_decide_eq_true hlt
    simp only [hlt, if_true] at hy; omega
  rename_i hge1
  have hge1 : ¬ l1 < 0 := by subst hA; exact of_decide_eq_false hge1
  simp only [hge1, if_false] at hy
  obtain ⟨l2, e2⟩ : ∃ z : Int, z = szN x.marks.n l1 := ⟨_, rfl⟩
  have s2 := szN_spec (n := x.marks.n) (by omega) s1.2.1
  rw [← e2] at s2 hy
  refine call_of hA hM _ (sz_IntS x.marks.n x.marks.hn x.marks.g l1 (by omega) s1.2.1 l2 e2) ?_
  cbv
  repeat' first
    | apply And.intro
    | exact True.intro
    | with_reducible rfl
    | exact same_of hA rfl
    | refine br_of hA (fun _ => ?_) (fun _ => ?_)
    | (refine ind_of hA ?_; decide +kernel)
  · rename_i hlt
    refine congrArg (fun x => XA.one (.c (.d (eI x)))) ?_
    subst hA
    have hlt : l2 < 0 := of_decide_eq_true hlt
    omega
  rename_i hge2
  have hge2 : ¬ l2 < 0 := by subst hA; exact of_decide_eq_false hge2
  exact congrArg (fun x => XA.one (.c (.d (eI x)))) hy.symm
def st_toSnapS (n : Nat) (rd : Nat → SnapT) (i : Nat) (rm : Nat → Nat → DV) : St :=
  ⟨[(4, .c (.d (eI i))), (0, .c (.d (.sl 3 n fun i => eSnap (rd i)))), (3, .c (.own 448 0 n 1))], [(448, 1, .arr 3 n fun i => [rm i 0, rm i 1, rm i 2])]⟩
set_option maxRecDepth 100000 in
theorem to_SnapS (n : Nat) (hn : n ≤ 1048576) (rd : Nat → SnapT) (hb : ∀ i, i < n → bdSnap (rd i)) : Meets Try.prog 60 [.c (.d (.sl 3 n fun i => eSnap (rd i)))] ⟨.one (.c (.own 3 n fun i => eSnap (rd i))), [none]⟩ := by
  have hn2 : n ≤ maxLen := Nat.le_trans hn (by decide)
  refine meets_of (H := [6]) (EX := EXA) ttok mixed Try.func60 rfl (by kernel_rfl) (by decide) ?_
  generalize hA : real = A
  generalize hM : Meets Try.prog = M
  cbv
  repeat' first
    | apply And.intro
    | exact True.intro
    | with_reducible rfl
    | exact same_of hA rfl
    | refine br_of hA (fun _ => ?_) (fun _ => ?_)
    | (refine ind_of hA ?_; decide +kernel)
    | exact made_n hA hn (by decide)
  refine loop_of hA (α := { p : Nat × (Nat → Nat → DV) // p.1 ≤ n ∧ ∀ j, j < p.1 → [p.2 j 0, p.2 j 1, p.2 j 2] = eSnap (rd j) }) (fun x => st_toSnapS n rd x.1.1 x.1.2) (fun x => n - x.1.1) ⟨(0, fun _ => fun c => [eI 0, .v nilS, .v nilS].getD c (.v nilS)), Nat.zero_le _, fun j h => absurd h (Nat.not_lt_zero _)⟩ ?_ ?_
  · refine cov_of ?_ ?_ ?_
    · cbv
      subst hA
      exact ⟨rfl, ⟨rfl, trivial⟩, trivial⟩
    · cbv
      subst hA
      exact ⟨⟨rfl, fun _ _ => rfl⟩, trivial⟩
    · cbv
  rintro ⟨⟨i, rm⟩, hi, hrm⟩
  cbv
  repeat' first
    | apply And.intro
    | exact True.intro
    | with_reducible rfl
    | exact same_of hA rfl
    | refine br_of hA (fun _ => ?_) (fun _ => ?_)
    | (refine ind_of hA ?_; decide +kernel)
    | (refine call_of hA hM _ (to_Snap (rd (A.nat (Int.ofNat i))) (hb _ (by rename_i hlt; subst hA; simp only [real, decide_eq_true_eq, Int.ofNat_eq_natCast, Int.toNat_natCast] at *; omega))) ?_; cbv)
    | (refine inb_of hA fun _ => ?_; subst hA; simp only [real, decide_eq_true_eq, Int.ofNat_eq_natCast] at *; omega)
  · rename_i hlt
    have hlt' : i < n := by subst hA; simp only [real, decide_eq_true_eq, Int.ofNat_eq_natCast] at hlt; omega
    refine ⟨⟨(i + 1, fun j => if j = i then fun c => (eSnap (rd i)).getD c (.v nilS) else rm j), by simp only; omega, fun j hj => ?_⟩, by simp only; omega, cov_of ?_ ?_ ?_⟩
    · simp only at hj ⊢
      by_cases e : j = i
      · subst e; simp only [if_true]; rfl
      · simp only [if_neg e]; exact hrm j (by simp only; omega)
    · cbv
      subst hA
      exact ⟨congrArg (fun x => DV.v (.int .i64 x)) (up64 hlt' hn2), trivial⟩
    · cbv
      refine ⟨fun q _ => ?_, trivial⟩
      subst hA
      by_cases e : q = i
      · subst e; show (if q = 0 + q then eSnap (rd q) else [rm q 0, rm q 1, rm q 2]) = _; simp only [Nat.zero_add, if_pos, if_true] <;> rfl
      · show (if q = 0 + i then eSnap (rd i) else [rm q 0, rm q 1, rm q 2]) = _; simp only [Nat.zero_add, e, if_false] <;> rfl
    · cbv
  · rename_i hge
    have hin : i = n := by
      subst hA
      have : ¬ ((i : Int) < (n : Int)) := of_decide_eq_false hge
      simp only at hi
      omega
    subst hin
    refine stop_of hA ⟨[(3, .c (.own 448 0 i 1))], [(448, 1, .arr 3 i fun j => eSnap (rd j))]⟩ (cov_of ?_ ?_ ?_) ?_
    · cbv
    · cbv
      exact ⟨fun q hq => hrm q hq, trivial⟩
    · cbv
    · cbv
      repeat' first | apply And.intro | refine br_of hA (fun _ => ?_) (fun _ => ?_)
      all_goals first | exact True.intro | with_reducible rfl | exact same_of hA rfl | skip
def st_eqSnapS (n : Nat) (rd : Nat → SnapT) (i : Nat) : St := ⟨[(5, .c (.d (eI i))), (0, .c (.d (.sl 3 n fun i => eSnap (rd i)))), (1, .c (.d (.sl 3 n fun i => eSnap (rd i))))], []⟩
set_option maxRecDepth 100000 in
theorem eq_SnapS (n : Nat) (hn : n ≤ maxLen) (rd : Nat → SnapT) : Meets Try.prog 42 [.c (.d (.sl 3 n fun i => eSnap (rd i))), .c (.d (.sl 3 n fun i => eSnap (rd i)))] ⟨.one (.c (.d (eB true))), [none, none]⟩ := by
  refine meets_of (H := []) (EX := EXA) ttok mixed Try.func42 rfl (by kernel_rfl) (by decide) ?_
  generalize hA : real = A
  generalize hM : Meets Try.prog = M
  cbv
  repeat' first
    | apply And.intro
    | exact True.intro
    | with_reducible rfl
    | exact same_of hA rfl
    | refine br_of hA (fun _ => ?_) (fun _ => ?_)
    | (refine ind_of hA ?_; decide +kernel)
    | (exfalso; rename_i h; subst hA; simp [real] at h; done)
  refine loop_of hA (α := { i : Nat // i ≤ n }) (fun x => st_eqSnapS n rd x.1) (fun x => n - x.1) ⟨0, Nat.zero_le _⟩ ?_ ?_
  · refine cov_of ?_ ?_ ?_
    · cbv; exact ⟨rfl, trivial⟩
    · cbv
    · cbv
  rintro ⟨i, hi⟩
  cbv
  repeat' first
    | apply And.intro
    | exact True.intro
    | with_reducible rfl
    | exact same_of hA rfl
    | refine br_of hA (fun _ => ?_) (fun _ => ?_)
    | (refine ind_of hA ?_; decide +kernel)
    | (refine call_of hA hM _ (eq_Snap (rd (A.nat (Int.ofNat i)))) ?_; cbv)
    | (exfalso; rename_i h; subst hA; simp [real] at h; done)
    | (refine inb_of hA fun _ => ?_; subst hA; simp only [real, decide_eq_true_eq, Int.ofNat_eq_natCast] at *; omega)
  have hlt' : i < n := by
    subst hA
    simp only [real, decide_eq_true_eq, Int.ofNat_eq_natCast] at *
    omega
  refine ⟨⟨i + 1, by omega⟩, by simp only; omega, cov_of ?_ ?_ ?_⟩
  · cbv
    subst hA
    exact ⟨congrArg (fun x => DV.v (.int .i64 x)) (up64 hlt' hn), trivial⟩
  · cbv
  · cbv
def st_szSnapS (n : Nat) (rd : Nat → SnapT) (i : Nat) (v : Int) : St := ⟨[(5, .c (.d (eI i))), (0, .c (.d (.sl 3 n fun i => eSnap (rd i)))), (1, .c (.d (eI v)))], []⟩
set_option maxRecDepth 100000 in
theorem sz_SnapS (n : Nat) (hn : n ≤ maxLen) (rd : Nat → SnapT) (l : Int) (h0 : 0 ≤ l) (h1 : l ≤ 1048576) (y : Int) (hy : y = szS (fun i l => szSnap (rd i) l) n l) : Meets Try.prog 54 [.c (.d (.sl 3 n fun i => eSnap (rd i))), .c (.d (eI l))] ⟨.one (.c (.d (eI y))), [none, none]⟩ := by
  have hm : maxLen = 9223372036854775807 := by decide
  have hw : IntKind.i64.wrap (l - (n : Int)) = l - n := IntWalk.i64_in _ (by omega)
  refine meets_of (H := []) (EX := EXA) ttok mixed Try.func54 rfl (by kernel_rfl) (by decide) ?_
  generalize hA : real = A
  generalize hM : Meets Try.prog = M
  cbv
  repeat' first
    | apply And.intro
    | exact True.intro
    | with_reducible rfl
    | exact same_of hA rfl
    | refine br_of hA (fun _ => ?_) (fun _ => ?_)
    | (refine ind_of hA ?_; decide +kernel)
  · rename_i hlt
    refine congrArg (fun x => XA.one (.c (.d (eI x)))) ?_
    subst hA
    have hlt : IntKind.i64.wrap (l - (n : Int)) < 0 := of_decide_eq_true hlt
    rw [hw] at hlt
    rw [hy]; unfold szS szN; simp [hlt]
  rename_i hge
  have hge' : ¬ l - (n : Int) < 0 := by
    subst hA
    have h : ¬ IntKind.i64.wrap (l - (n : Int)) < 0 := of_decide_eq_false hge
    rw [hw] at h; exact h
  have hN : szN n l = l - n := if_neg hge'
  have hy' : y = szLoop (fun i l => szSnap (rd i) l) (l - n) n := by rw [hy]; unfold szS; rw [hN, if_neg hge']
  have hs := szLoop_spec (f := (fun i l => szSnap (rd i) l)) (B := fun i => bdSnap (rd i)) (n := n) (fun i _ l h0 h1 => by simpa using szSnap_spec (rd i) h0 h1) (l := l - n) (by omega) (by omega)
  have hs1 : ∀ k, k ≤ n → -1 ≤ szLoop (fun i l => szSnap (rd i) l) (l - n) k := fun k hk => (hs k hk).1
  refine loop_of hA (α := { p : Nat × Int // p.1 ≤ n ∧ p.2 = szLoop (fun i l => szSnap (rd i) l) (l - n) p.1 ∧ 0 ≤ p.2 }) (fun x => st_szSnapS n rd x.1.1 x.1.2) (fun x => n - x.1.1) ⟨(0, l - n), Nat.zero_le _, rfl, by simp only; omega⟩ ?_ ?_
  · refine cov_of ?_ ?_ ?_
    · cbv; subst hA; exact ⟨rfl, congrArg (fun x => DV.v (.int .i64 x)) hw, trivial⟩
    · cbv
    · cbv
  rintro ⟨⟨i, v⟩, hi, hv, hv0⟩
  have hv1 : v ≤ 1048576 := by have := (hs i hi).2.1; simp only at hv; omega
  obtain ⟨z, hz⟩ : ∃ z : Int, z = szSnap (rd (A.nat (Int.ofNat i))) v := ⟨_, rfl⟩
  have hc := sz_Snap (rd (A.nat (Int.ofNat i))) v hv0 hv1 z hz
  cbv
  repeat' first
    | apply And.intro
    | exact True.intro
    | with_reducible rfl
    | exact same_of hA rfl
    | refine br_of hA (fun _ => ?_) (fun _ => ?_)
    | (refine ind_of hA ?_; decide +kernel)
    | (refine call_of hA hM _ hc ?_; cbv)
    | (refine inb_of hA fun _ => ?_; subst hA; simp only [real, decide_eq_true_eq, Int.ofNat_eq_natCast] at *; omega)
  · rename_i hlt hz0
    refine congrArg (fun x => XA.one (.c (.d (eI x)))) ?_
    subst hA
    simp only [real, decide_eq_true_eq, Int.ofNat_eq_natCast, Int.toNat_natCast] at *
    have e1 : szLoop (fun i l => szSnap (rd i) l) (l - n) (i + 1) = z := by unfold szLoop; rw [← hv, if_neg (by omega)]; exact hz.symm
    have e2 := szLoop_neg hs1 (k := i + 1) (by rw [e1]; exact hz0) (n - (i + 1)) (by omega)
    rw [Nat.add_sub_cancel' (by omega)] at e2
    rw [hy', e2]
  · rename_i hlt hz0
    have hz0 : ¬ z < 0 := by subst hA; exact of_decide_eq_false hz0
    have hlt' : i < n := by subst hA; simp only [real, decide_eq_true_eq, Int.ofNat_eq_natCast] at hlt; omega
    have e1 : szLoop (fun i l => szSnap (rd i) l) (l - n) (i + 1) = z := by
      subst hA
      simp only at hv
      unfold szLoop; rw [← hv, if_neg (by omega)]; exact hz.symm
    refine ⟨⟨(i + 1, z), by simp only; omega, e1.symm, by simp only; omega⟩, by simp only; omega, cov_of ?_ ?_ ?_⟩
    · cbv
      subst hA
      exact ⟨congrArg (fun x => DV.v (.int .i64 x)) (up64 hlt' hn), trivial⟩
    · cbv
    · cbv
  · rename_i hge2
    refine congrArg (fun x => XA.one (.c (.d (eI x)))) ?_
    have : i = n := by
      subst hA
      have : ¬ ((i : Int) < (n : Int)) := of_decide_eq_false hge2
      simp only at hi
      omega
    subst this
    simp only at hv
    omega
set_option maxRecDepth 100000 in
theorem to_Safe (x : SafeT) (hb : bdSafe x) : Meets Try.prog 61 [xd (eSafe x)] ⟨.one (xd (eSafe x)), [none]⟩ := by
  refine meets_of (H := []) (EX := EXA) ttok mixed Try.func61 rfl (by kernel_rfl) (by decide) ?_
  generalize hA : real = A
  generalize hM : Meets Try.prog = M
  cbv
  repeat' first
    | apply And.intro
    | exact True.intro
    | with_reducible rfl
    | exact same_of hA rfl
    | refine br_of hA (fun _ => ?_) (fun _ => ?_)
    | (refine ind_of hA ?_; decide +kernel)
    | (refine call_of hA hM _ (meets_frz (to_IntS x.at_.n hb.1 x.at_.g) rfl) ?_; cbv)
    | (refine call_of hA hM _ (meets_frz (to_SnapS x.snaps.n hb.2.1 x.snaps.g hb.2.2) rfl) ?_; cbv)
set_option maxRecDepth 100000 in
theorem eq_Safe (x : SafeT) : Meets Try.prog 43 [xd (eSafe x), xd (eSafe x)] ⟨.one (.c (.d (eB true))), [none, none]⟩ := by
  refine meets_of (H := []) (EX := EXA) ttok mixed Try.func43 rfl (by kernel_rfl) (by decide) ?_
  generalize hA : real = A
  generalize hM : Meets Try.prog = M
  cbv
  repeat' first
    | apply And.intro
    | exact True.intro
    | with_reducible rfl
    | exact same_of hA rfl
    | refine br_of hA (fun _ => ?_) (fun _ => ?_)
    | (refine ind_of hA ?_; decide +kernel)
    | (refine call_of hA hM _ (eq_IntS x.at_.n x.at_.hn x.at_.g) ?_; cbv)
    | (refine call_of hA hM _ (eq_SnapS x.snaps.n x.snaps.hn x.snaps.g) ?_; cbv)
    | (exfalso; rename_i h; subst hA; simp [real] at h; done)
set_option maxRecDepth 100000 in
theorem sz_Safe (x : SafeT) (l0 : Int) (h0 : 0 ≤ l0) (h1 : l0 ≤ 1048576) (y : Int) (hy : y = szSafe x l0) : Meets Try.prog 55 [xd (eSafe x), .c (.d (eI l0))] ⟨.one (.c (.d (eI y))), [none, none]⟩ := by
  refine meets_of (H := []) (EX := EXA) ttok mixed Try.func55 rfl (by kernel_rfl) (by decide) ?_
  generalize hA : real = A
  generalize hM : Meets Try.prog = M
  cbv
  repeat' first
    | apply And.intro
    | exact True.intro
    | with_reducible rfl
    | exact same_of hA rfl
    | refine br_of hA (fun _ => ?_) (fun _ => ?_)
    | (refine ind_of hA ?_; decide +kernel)
  unfold szSafe at hy
  obtain ⟨l1, e1⟩ : ∃ z : Int, z = szN x.at_.n l0 := ⟨_, rfl⟩
  have s1 := szN_spec (n := x.at_.n) h0 h1
  rw [← e1] at s1 hy
  refine call_of hA hM _ (sz_IntS x.at_.n x.at_.hn x.at_.g l0 h0 h1 l1 e1) ?_
  cbv
  repeat' first
    | apply And.intro
    | exact True.intro
    | with_reducible rfl
    | exact same_of hA rfl
    | refine br_of hA (fun _ => ?_) (fun _ => ?_)
    | (refine ind_of hA ?_; decide +kernel)
  · rename_i hlt
    refine congrArg (fun x => XA.one (.c (.d (eI x)))) ?_
    subst hA
    have hlt : l1 < 0 := of_decide_eq_true hlt
    simp only [hlt, if_true] at hy; omega
  rename_i hge1
  have hge1 : ¬ l1 < 0 := by subst hA; exact of_decide_eq_false hge1
  simp only [hge1, if_false] at hy
  obtain ⟨l2, e2⟩ : ∃ z : Int, z = szS (fun i l => szSnap (x.snaps.g i) l) x.snaps.n l1 := ⟨_, rfl⟩
  have s2 := (szS_spec (n := x.snaps.n) (B := fun i => bdSnap (x.snaps.g i)) (fun i _ l h0 h1 => by simpa using szSnap_spec (x.snaps.g i) h0 h1) (by omega) s1.2.1)
  rw [← e2] at s2 hy
  refine call_of hA hM _ (sz_SnapS x.snaps.n x.snaps.hn x.snaps.g l1 (by omega) s1.2.1 l2 e2) ?_
  cbv
  repeat' first
    | apply And.intro
    | exact True.intro
    | with_reducible rfl
    | exact same_of hA rfl
    | refine br_of hA (fun _ => ?_) (fun _ => ?_)
    | (refine ind_of hA ?_; decide +kernel)
  · rename_i hlt
    refine congrArg (fun x => XA.one (.c (.d (eI x)))) ?_
    subst hA
    have hlt : l2 < 0 := of_decide_eq_true hlt
    omega
  rename_i hge2
  have hge2 : ¬ l2 < 0 := by subst hA; exact of_decide_eq_false hge2
  exact congrArg (fun x => XA.one (.c (.d (eI x)))) hy.symm
set_option maxRecDepth 100000 in
theorem to_Ckp (x : CkpT) (hb : bdCkp x) : Meets Try.prog 22 [xd (eCkp x)] ⟨.one (xd (eCkp x)), [none]⟩ := by
  refine meets_of (H := []) (EX := EXA) ttok mixed Try.func22 rfl (by kernel_rfl) (by decide) ?_
  generalize hA : real = A
  generalize hM : Meets Try.prog = M
  cbv
  repeat' first
    | apply And.intro
    | exact True.intro
    | with_reducible rfl
    | exact same_of hA rfl
    | refine br_of hA (fun _ => ?_) (fun _ => ?_)
    | (refine ind_of hA ?_; decide +kernel)
    | (refine call_of hA hM _ (meets_frz (to_IntS x.src.n hb.1 x.src.g) rfl) ?_; cbv)
    | (refine call_of hA hM _ (meets_frz (to_BoolS x.tsk.n hb.2.1 x.tsk.g) rfl) ?_; cbv)
    | (refine call_of hA hM _ (meets_frz (to_SnapS x.snaps.n hb.2.2.1 x.snaps.g hb.2.2.2.1) rfl) ?_; cbv)
    | (refine call_of hA hM _ (to_Safe x.safe hb.2.2.2.2) ?_; cbv)
set_option maxRecDepth 100000 in
theorem eq_Ckp (x : CkpT) : Meets Try.prog 17 [xd (eCkp x), xd (eCkp x)] ⟨.one (.c (.d (eB true))), [none, none]⟩ := by
  refine meets_of (H := []) (EX := EXA) ttok mixed Try.func17 rfl (by kernel_rfl) (by decide) ?_
  generalize hA : real = A
  generalize hM : Meets Try.prog = M
  cbv
  repeat' first
    | apply And.intro
    | exact True.intro
    | with_reducible rfl
    | exact same_of hA rfl
    | refine br_of hA (fun _ => ?_) (fun _ => ?_)
    | (refine ind_of hA ?_; decide +kernel)
    | (refine call_of hA hM _ (eq_IntS x.src.n x.src.hn x.src.g) ?_; cbv)
    | (refine call_of hA hM _ (eq_BoolS x.tsk.n x.tsk.hn x.tsk.g) ?_; cbv)
    | (refine call_of hA hM _ (eq_SnapS x.snaps.n x.snaps.hn x.snaps.g) ?_; cbv)
    | (refine call_of hA hM _ (eq_Safe x.safe) ?_; cbv)
    | (exfalso; rename_i h; subst hA; simp [real] at h; done)
set_option maxRecDepth 100000 in
theorem sz_Ckp (x : CkpT) (l0 : Int) (h0 : 0 ≤ l0) (h1 : l0 ≤ 1048576) (y : Int) (hy : y = szCkp x l0) : Meets Try.prog 20 [xd (eCkp x), .c (.d (eI l0))] ⟨.one (.c (.d (eI y))), [none, none]⟩ := by
  refine meets_of (H := []) (EX := EXA) ttok mixed Try.func20 rfl (by kernel_rfl) (by decide) ?_
  generalize hA : real = A
  generalize hM : Meets Try.prog = M
  cbv
  repeat' first
    | apply And.intro
    | exact True.intro
    | with_reducible rfl
    | exact same_of hA rfl
    | refine br_of hA (fun _ => ?_) (fun _ => ?_)
    | (refine ind_of hA ?_; decide +kernel)
  unfold szCkp at hy
  obtain ⟨l1, e1⟩ : ∃ z : Int, z = szN x.src.n l0 := ⟨_, rfl⟩
  have s1 := szN_spec (n := x.src.n) h0 h1
  rw [← e1] at s1 hy
  refine call_of hA hM _ (sz_IntS x.src.n x.src.hn x.src.g l0 h0 h1 l1 e1) ?_
  cbv
  repeat' first
    | apply And.intro
    | exact True.intro
    | with_reducible rfl
    | exact same_of hA rfl
    | refine br_of hA (fun _ => ?_) (fun _ => ?_)
    | (refine ind_of hA ?_; decide +kernel)
  · rename_i hlt
    refine congrArg (fun x => XA.one (.c (.d (eI x)))) ?_
    subst hA
    have hlt : l1 < 0 := of_decide_eq_true hlt
    simp only [hlt, if_true] at hy; omega
  rename_i hge1
  have hge1 : ¬ l1 < 0 := by subst hA; exact of_decide_eq_false hge1
  simp only [hge1, if_false] at hy
  obtain ⟨l2, e2⟩ : ∃ z : Int, z = szN x.tsk.n l1 := ⟨_, rfl⟩
  have s2 := szN_spec (n := x.tsk.n) (by omega) s1.2.1
  rw [← e2] at s2 hy
  refine call_of hA hM _ (sz_BoolS x.tsk.n x.tsk.hn x.tsk.g l1 (by omega) s1.2.1 l2 e2) ?_
  cbv
  repeat' first
    | apply And.intro
    | exact True.intro
    | with_reducible rfl
    | exact same_of hA rfl
    | refine br_of hA (fun _ => ?_) (fun _ => ?_)
    | (refine ind_of hA ?_; decide +kernel)
  · rename_i hlt
    refine congrArg (fun x => XA.one (.c (.d (eI x)))) ?_
    subst hA
    have hlt : l2 < 0 := of_decide_eq_true hlt
    simp only [hlt, if_true] at hy; omega
  rename_i hge2
  have hge2 : ¬ l2 < 0 := by subst hA; exact of_decide_eq_false hge2
  simp only [hge2, if_false] at hy
  obtain ⟨l3, e3⟩ : ∃ z : Int, z = szS (fun i l => szSnap (x.snaps.g i) l) x.snaps.n l2 := ⟨_, rfl⟩
  have s3 := (szS_spec (n := x.snaps.n) (B := fun i => bdSnap (x.snaps.g i)) (fun i _ l h0 h1 => by simpa using szSnap_spec (x.snaps.g i) h0 h1) (by omega) s2.2.1)
  rw [← e3] at s3 hy
  refine call_of hA hM _ (sz_SnapS x.snaps.n x.snaps.hn x.snaps.g l2 (by omega) s2.2.1 l3 e3) ?_
  cbv
  repeat' first
    | apply And.intro
    | exact True.intro
    | with_reducible rfl
    | exact same_of hA rfl
    | refine br_of hA (fun _ => ?_) (fun _ => ?_)
    | (refine ind_of hA ?_; decide +kernel)
  · rename_i hlt
    refine congrArg (fun x => XA.one (.c (.d (eI x)))) ?_
    subst hA
    have hlt : l3 < 0 := of_decide_eq_true hlt
    simp only [hlt, if_true] at hy; omega
  rename_i hge3
  have hge3 : ¬ l3 < 0 := by subst hA; exact of_decide_eq_false hge3
  simp only [hge3, if_false] at hy
  obtain ⟨l4, e4⟩ : ∃ z : Int, z = szSafe x.safe l3 := ⟨_, rfl⟩
  have s4 := szSafe_spec x.safe (by omega) s3.2.1
  rw [← e4] at s4 hy
  refine call_of hA hM _ (sz_Safe x.safe l3 (by omega) s3.2.1 l4 e4) ?_
  cbv
  repeat' first
    | apply And.intro
    | exact True.intro
    | with_reducible rfl
    | exact same_of hA rfl
    | refine br_of hA (fun _ => ?_) (fun _ => ?_)
    | (refine ind_of hA ?_; decide +kernel)
  · rename_i hlt
    refine congrArg (fun x => XA.one (.c (.d (eI x)))) ?_
    subst hA
    have hlt : l4 < 0 := of_decide_eq_true hlt
    omega
  rename_i hge4
  have hge4 : ¬ l4 < 0 := by subst hA; exact of_decide_eq_false hge4
  exact congrArg (fun x => XA.one (.c (.d (eI x)))) hy.symm
end Go.Rk
