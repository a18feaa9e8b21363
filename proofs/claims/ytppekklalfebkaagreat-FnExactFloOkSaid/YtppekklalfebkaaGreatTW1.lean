/- Mirrors, comparisons and sizes: what these functions of the laws do. -/
import Derived.Test.YtppekklalfebkaaGreatRW0
import Derived.Test.YtppekklalfebkaaGreatChecked
import Derived.Test.YtppekklalfebkaaGreatDSz
import Derived.IntWalk
namespace Go.Rk
set_option linter.unusedSimpArgs false
set_option linter.unusedVariables false
open Go.Proofs
def EXA : FuncId → List Nat × Bool := fun _ => ([], false)
theorem mixed : Tryz.prog.follows .mixedOrders = true := by kernel_rfl
def st_toIntS (n : Nat) (rd : Nat → Int) (i : Nat) (rm : Nat → Int) : St :=
  ⟨[(4, .c (.d (eI i))), (0, .c (.d (.sl 1 n fun i => [eI (rd i)]))), (3, .c (.own 448 0 n 1))], [(448, 1, .arr 1 n fun i => [eI (rm i)])]⟩
set_option maxRecDepth 100000 in
theorem to_IntS (n : Nat) (hn : n ≤ 1048576) (rd : Nat → Int) : Meets Tryz.prog 40 [.c (.d (.sl 1 n fun i => [eI (rd i)]))] ⟨.one (.c (.own 1 n fun i => [eI (rd i)])), [none]⟩ := by
  have hn2 : n ≤ maxLen := Nat.le_trans hn (by decide)
  refine meets_of (H := [6]) (EX := EXA) ttok mixed Tryz.func40 rfl (by kernel_rfl) (by decide) ?_
  generalize hA : real = A
  generalize hM : Meets Tryz.prog = M
  cbv
  repeat' first
    | apply And.intro
    | exact True.intro
    | with_reducible rfl
    | exact same_of hA rfl
    | refine br_of hA (fun _ => ?_) (fun _ => ?_)
    | (refine ind_of hA ?_; decide +kernel)
    | exact made_n hA hn (by decide)
  refine loop_of hA (α := { p : Nat × (Nat → Int) // p.1 ≤ n ∧ ∀ j, j < p.1 → p.2 j = rd j }) (fun x => st_toIntS n rd x.1.1 x.1.2) (fun x => n - x.1.1) ⟨(0, fun _ => 0), Nat.zero_le _, fun j h => absurd h (Nat.not_lt_zero _)⟩ ?_ ?_
  · refine cov_of ?_ ?_ ?_
    · cbv
      subst hA
      exact ⟨rfl, ⟨rfl, trivial⟩, trivial⟩
    · cbv
      subst hA
      exact ⟨⟨rfl, fun _ _ => rfl⟩, trivial⟩
    · cbv
  rintro ⟨⟨i, rm⟩, hi, hrm⟩
  cbv
  repeat' first
    | apply And.intro
    | exact True.intro
    | with_reducible rfl
    | exact same_of hA rfl
    | refine br_of hA (fun _ => ?_) (fun _ => ?_)
    | (refine ind_of hA ?_; decide +kernel)
    | (refine inb_of hA fun _ => ?_; subst hA; simp only [real, decide_eq_true_eq, Int.ofNat_eq_natCast] at *; omega)
  · rename_i hlt
    have hlt' : i < n := by subst hA; simp only [real, decide_eq_true_eq, Int.ofNat_eq_natCast] at hlt; omega
    refine ⟨⟨(i + 1, fun j => if j = i then rd i else rm j), by simp only; omega, fun j hj => ?_⟩, by simp only; omega, cov_of ?_ ?_ ?_⟩
    · simp only at hj ⊢
      by_cases e : j = i
      · simp [e]
      · rw [if_neg e]; exact hrm j (by simp only; omega)
    · cbv
      subst hA
      exact ⟨congrArg (fun x => DV.v (.int .i64 x)) (up64 hlt' hn2), trivial⟩
    · cbv
      refine ⟨fun q _ => ?_, trivial⟩
      subst hA
      by_cases e : q = i
      · subst e; show (if q = 0 + q then [eI (rd q)] else [eI (rm q)]) = _; simp only [Nat.zero_add, if_pos, if_true] <;> rfl
      · show (if q = 0 + i then [eI (rd i)] else [eI (rm q)]) = _; simp only [Nat.zero_add, e, if_false] <;> rfl
    · cbv
  · rename_i hge
    have hin : i = n := by
      subst hA
      have : ¬ ((i : Int) < (n : Int)) := of_decide_eq_false hge
      simp only at hi
      omega
    subst hin
    refine stop_of hA ⟨[(3, .c (.own 448 0 i 1))], [(448, 1, .arr 1 i fun j => [eI (rd j)])]⟩ (cov_of ?_ ?_ ?_) ?_
    · cbv
    · cbv
      exact ⟨fun q hq => congrArg (fun x => [eI x]) (hrm q hq), trivial⟩
    · cbv
    · cbv
      repeat' first | apply And.intro | refine br_of hA (fun _ => ?_) (fun _ => ?_)
      all_goals first | exact True.intro | with_reducible rfl | exact same_of hA rfl | skip
def st_eqIntS (n : Nat) (rd : Nat → Int) (i : Nat) : St := ⟨[(5, .c (.d (eI i))), (0, .c (.d (.sl 1 n fun i => [eI (rd i)]))), (1, .c (.d (.sl 1 n fun i => [eI (rd i)])))], []⟩
set_option maxRecDepth 100000 in
theorem eq_IntS (n : Nat) (hn : n ≤ maxLen) (rd : Nat → Int) : Meets Tryz.prog 46 [.c (.d (.sl 1 n fun i => [eI (rd i)])), .c (.d (.sl 1 n fun i => [eI (rd i)]))] ⟨.one (.c (.d (eB true))), [none, none]⟩ := by
  refine meets_of (H := []) (EX := EXA) ttok mixed Tryz.func46 rfl (by kernel_rfl) (by decide) ?_
  generalize hA : real = A
  generalize hM : Meets Tryz.prog = M
  cbv
  repeat' first
    | apply And.intro
    | exact True.intro
    | with_reducible rfl
    | exact same_of hA rfl
    | refine br_of hA (fun _ => ?_) (fun _ => ?_)
    | (refine ind_of hA ?_; decide +kernel)
    | (exfalso; rename_i h; subst hA; simp [real] at h; done)
  refine loop_of hA (α := { i : Nat // i ≤ n }) (fun x => st_eqIntS n rd x.1) (fun x => n - x.1) ⟨0, Nat.zero_le _⟩ ?_ ?_
  · refine cov_of ?_ ?_ ?_
    · cbv; exact ⟨rfl, trivial⟩
    · cbv
    · cbv
  rintro ⟨i, hi⟩
  cbv
  repeat' first
    | apply And.intro
    | exact True.intro
    | with_reducible rfl
    | exact same_of hA rfl
    | refine br_of hA (fun _ => ?_) (fun _ => ?_)
    | (refine ind_of hA ?_; decide +kernel)
    | (exfalso; rename_i h; subst hA; simp [real] at h; done)
    | (refine inb_of hA fun _ => ?_; subst hA; simp only [real, decide_eq_true_eq, Int.ofNat_eq_natCast] at *; omega)
  have hlt' : i < n := by
    subst hA
    simp only [real, decide_eq_true_eq, Int.ofNat_eq_natCast] at *
    omega
  refine ⟨⟨i + 1, by omega⟩, by simp only; omega, cov_of ?_ ?_ ?_⟩
  · cbv
    subst hA
    exact ⟨congrArg (fun x => DV.v (.int .i64 x)) (up64 hlt' hn), trivial⟩
  · cbv
  · cbv
set_option maxRecDepth 100000 in
theorem sz_IntS (n : Nat) (hn : n ≤ maxLen) (rd : Nat → Int) (l : Int) (h0 : 0 ≤ l) (h1 : l ≤ 1048576) (y : Int) (hy : y = szN n l) : Meets Tryz.prog 35 [.c (.d (.sl 1 n fun i => [eI (rd i)])), .c (.d (eI l))] ⟨.one (.c (.d (eI y))), [none, none]⟩ := by
  have hm : maxLen = 9223372036854775807 := by decide
  have hw : IntKind.i64.wrap (l - (n : Int)) = l - n := IntWalk.i64_in _ (by omega)
  refine meets_of (H := []) (EX := EXA) ttok mixed Tryz.func35 rfl (by kernel_rfl) (by decide) ?_
  generalize hA : real = A
  generalize hM : Meets Tryz.prog = M
  cbv
  repeat' first
    | apply And.intro
    | exact True.intro
    | with_reducible rfl
    | exact same_of hA rfl
    | refine br_of hA (fun _ => ?_) (fun _ => ?_)
    | (refine ind_of hA ?_; decide +kernel)
  all_goals rename_i hlt
  all_goals subst hA
  · refine congrArg (fun x => XA.one (.c (.d (eI x)))) ?_
    have hlt : IntKind.i64.wrap (l - (n : Int)) < 0 := of_decide_eq_true hlt
    rw [hw] at hlt
    rw [hy]; unfold szN; rw [if_pos hlt]
  · refine congrArg (fun x => XA.one (.c (.d (eI x)))) ?_
    have hlt : ¬ IntKind.i64.wrap (l - (n : Int)) < 0 := of_decide_eq_false hlt
    rw [hw] at hlt
    rw [hy]; unfold szN; rw [if_neg hlt]
    exact hw
def st_toBoolS (n : Nat) (rd : Nat → Bool) (i : Nat) (rm : Nat → Bool) : St :=
  ⟨[(4, .c (.d (eI i))), (0, .c (.d (.sl 1 n fun i => [eB (rd i)]))), (3, .c (.own 448 0 n 1))], [(448, 1, .arr 1 n fun i => [eB (rm i)])]⟩
set_option maxRecDepth 100000 in
theorem to_BoolS (n : Nat) (hn : n ≤ 1048576) (rd : Nat → Bool) : Meets Tryz.prog 41 [.c (.d (.sl 1 n fun i => [eB (rd i)]))] ⟨.one (.c (.own 1 n fun i => [eB (rd i)])), [none]⟩ := by
  have hn2 : n ≤ maxLen := Nat.le_trans hn (by decide)
  refine meets_of (H := [6]) (EX := EXA) ttok mixed Tryz.func41 rfl (by kernel_rfl) (by decide) ?_
  generalize hA : real = A
  generalize hM : Meets Tryz.prog = M
  cbv
  repeat' first
    | apply And.intro
    | exact True.intro
    | with_reducible rfl
    | exact same_of hA rfl
    | refine br_of hA (fun _ => ?_) (fun _ => ?_)
    | (refine ind_of hA ?_; decide +kernel)
    | exact made_n hA hn (by decide)
  refine loop_of hA (α := { p : Nat × (Nat → Bool) // p.1 ≤ n ∧ ∀ j, j < p.1 → p.2 j = rd j }) (fun x => st_toBoolS n rd x.1.1 x.1.2) (fun x => n - x.1.1) ⟨(0, fun _ => false), Nat.zero_le _, fun j h => absurd h (Nat.not_lt_zero _)⟩ ?_ ?_
  · refine cov_of ?_ ?_ ?_
    · cbv
      subst hA
      exact ⟨rfl, ⟨rfl, trivial⟩, trivial⟩
    · cbv
      subst hA
      exact ⟨⟨rfl, fun _ _ => rfl⟩, trivial⟩
    · cbv
  rintro ⟨⟨i, rm⟩, hi, hrm⟩
  cbv
  repeat' first
    | apply And.intro
    | exact True.intro
    | with_reducible rfl
    | exact same_of hA rfl
    | refine br_of hA (fun _ => ?_) (fun _ => ?_)
    | (refine ind_of hA ?_; decide +kernel)
    | (refine inb_of hA fun _ => ?_; subst hA; simp only [real, decide_eq_true_eq, Int.ofNat_eq_natCast] at *; omega)
  · rename_i hlt
    have hlt' : i < n := by subst hA; simp only [real, decide_eq_true_eq, Int.ofNat_eq_natCast] at hlt; omega
    refine ⟨⟨(i + 1, fun j => if j = i then rd i else rm j), by simp only; omega, fun j hj => ?_⟩, by simp only; omega, cov_of ?_ ?_ ?_⟩
    · simp only at hj ⊢
      by_cases e : j = i
      · simp [e]
      · rw [if_neg e]; exact hrm j (by simp only; omega)
    · cbv
      subst hA
      exact ⟨congrArg (fun x => DV.v (.int .i64 x)) (up64 hlt' hn2), trivial⟩
    · cbv
      refine ⟨fun q _ => ?_, trivial⟩
      subst hA
      by_cases e : q = i
      · subst e; show (if q = 0 + q then [eB (rd q)] else [eB (rm q)]) = _; simp only [Nat.zero_add, if_pos, if_true] <;> rfl
      · show (if q = 0 + i then [eB (rd i)] else [eB (rm q)]) = _; simp only [Nat.zero_add, e, if_false] <;> rfl
    · cbv
  · rename_i hge
    have hin : i = n := by
      subst hA
      have : ¬ ((i : Int) < (n : Int)) := of_decide_eq_false hge
      simp only at hi
      omega
    subst hin
    refine stop_of hA ⟨[(3, .c (.own 448 0 i 1))], [(448, 1, .arr 1 i fun j => [eB (rd j)])]⟩ (cov_of ?_ ?_ ?_) ?_
    · cbv
    · cbv
      exact ⟨fun q hq => congrArg (fun x => [eB x]) (hrm q hq), trivial⟩
    · cbv
    · cbv
      repeat' first | apply And.intro | refine br_of hA (fun _ => ?_) (fun _ => ?_)
      all_goals first | exact True.intro | with_reducible rfl | exact same_of hA rfl | skip
def st_eqBoolS (n : Nat) (rd : Nat → Bool) (i : Nat) : St := ⟨[(5, .c (.d (eI i))), (0, .c (.d (.sl 1 n fun i => [eB (rd i)]))), (1, .c (.d (.sl 1 n fun i => [eB (rd i)])))], []⟩
set_option maxRecDepth 100000 in
theorem eq_BoolS (n : Nat) (hn : n ≤ maxLen) (rd : Nat → Bool) : Meets Tryz.prog 47 [.c (.d (.sl 1 n fun i => [eB (rd i)])), .c (.d (.sl 1 n fun i => [eB (rd i)]))] ⟨.one (.c (.d (eB true))), [none, none]⟩ := by
  refine meets_of (H := []) (EX := EXA) ttok mixed Tryz.func47 rfl (by kernel_rfl) (by decide) ?_
  generalize hA : real = A
  generalize hM : Meets Tryz.prog = M
  cbv
  repeat' first
    | apply And.intro
    | exact True.intro
    | with_reducible rfl
    | exact same_of hA rfl
    | refine br_of hA (fun _ => ?_) (fun _ => ?_)
    | (refine ind_of hA ?_; decide +kernel)
    | (exfalso; rename_i h; subst hA; simp [real] at h; done)
  refine loop_of hA (α := { i : Nat // i ≤ n }) (fun x => st_eqBoolS n rd x.1) (fun x => n - x.1) ⟨0, Nat.zero_le _⟩ ?_ ?_
  · refine cov_of ?_ ?_ ?_
    · cbv; exact ⟨rfl, trivial⟩
    · cbv
    · cbv
  rintro ⟨i, hi⟩
  cbv
  repeat' first
    | apply And.intro
    | exact True.intro
    | with_reducible rfl
    | exact same_of hA rfl
    | refine br_of hA (fun _ => ?_) (fun _ => ?_)
    | (refine ind_of hA ?_; decide +kernel)
    | (exfalso; rename_i h; subst hA; simp [real] at h; done)
    | (refine inb_of hA fun _ => ?_; subst hA; simp only [real, decide_eq_true_eq, Int.ofNat_eq_natCast] at *; omega)
  have hlt' : i < n := by
    subst hA
    simp only [real, decide_eq_true_eq, Int.ofNat_eq_natCast] at *
    omega
  refine ⟨⟨i + 1, by omega⟩, by simp only; omega, cov_of ?_ ?_ ?_⟩
  · cbv
    subst hA
    exact ⟨congrArg (fun x => DV.v (.int .i64 x)) (up64 hlt' hn), trivial⟩
  · cbv
  · cbv
set_option maxRecDepth 100000 in
theorem sz_BoolS (n : Nat) (hn : n ≤ maxLen) (rd : Nat → Bool) (l : Int) (h0 : 0 ≤ l) (h1 : l ≤ 1048576) (y : Int) (hy : y = szN n l) : Meets Tryz.prog 36 [.c (.d (.sl 1 n fun i => [eB (rd i)])), .c (.d (eI l))] ⟨.one (.c (.d (eI y))), [none, none]⟩ := by
  have hm : maxLen = 9223372036854775807 := by decide
  have hw : IntKind.i64.wrap (l - (n : Int)) = l - n := IntWalk.i64_in _ (by omega)
  refine meets_of (H := []) (EX := EXA) ttok mixed Tryz.func36 rfl (by kernel_rfl) (by decide) ?_
  generalize hA : real = A
  generalize hM : Meets Tryz.prog = M
  cbv
  repeat' first
    | apply And.intro
    | exact True.intro
    | with_reducible rfl
    | exact same_of hA rfl
    | refine br_of hA (fun _ => ?_) (fun _ => ?_)
    | (refine ind_of hA ?_; decide +kernel)
  all_goals rename_i hlt
  all_goals subst hA
  · refine congrArg (fun x => XA.one (.c (.d (eI x)))) ?_
    have hlt : IntKind.i64.wrap (l - (n : Int)) < 0 := of_decide_eq_true hlt
    rw [hw] at hlt
    rw [hy]; unfold szN; rw [if_pos hlt]
  · refine congrArg (fun x => XA.one (.c (.d (eI x)))) ?_
    have hlt : ¬ IntKind.i64.wrap (l - (n : Int)) < 0 := of_decide_eq_false hlt
    rw [hw] at hlt
    rw [hy]; unfold szN; rw [if_neg hlt]
    exact hw
set_option maxRecDepth 100000 in
theorem to_Job (x : JobT) : Meets Tryz.prog 11 [xd (eJob x)] ⟨.one (xd (eJob x)), [none]⟩ := by
  refine meets_of (H := []) (EX := EXA) ttok mixed Tryz.func11 rfl (by kernel_rfl) (by decide) ?_
  generalize hA : real = A
  generalize hM : Meets Tryz.prog = M
  cbv
  repeat' first
    | apply And.intro
    | exact True.intro
    | with_reducible rfl
    | exact same_of hA rfl
    | refine br_of hA (fun _ => ?_) (fun _ => ?_)
    | (refine ind_of hA ?_; decide +kernel)
set_option maxRecDepth 100000 in
theorem eq_Job (x : JobT) : Meets Tryz.prog 81 [xd (eJob x), xd (eJob x)] ⟨.one (.c (.d (eB true))), [none, none]⟩ := by
  refine meets_of (H := []) (EX := EXA) ttok mixed Tryz.func81 rfl (by kernel_rfl) (by decide) ?_
  generalize hA : real = A
  generalize hM : Meets Tryz.prog = M
  cbv
  repeat' first
    | apply And.intro
    | exact True.intro
    | with_reducible rfl
    | exact same_of hA rfl
    | refine br_of hA (fun _ => ?_) (fun _ => ?_)
    | (refine ind_of hA ?_; decide +kernel)
    | (exfalso; rename_i h; subst hA; simp [real] at h; done)
set_option maxRecDepth 100000 in
theorem to_Itm (x : ItmT) : Meets Tryz.prog 168 [xd (eItm x)] ⟨.one (xd (eItm x)), [none]⟩ := by
  refine meets_of (H := []) (EX := EXA) ttok mixed Tryz.func168 rfl (by kernel_rfl) (by decide) ?_
  generalize hA : real = A
  generalize hM : Meets Tryz.prog = M
  cbv
  repeat' first
    | apply And.intro
    | exact True.intro
    | with_reducible rfl
    | exact same_of hA rfl
    | refine br_of hA (fun _ => ?_) (fun _ => ?_)
    | (refine ind_of hA ?_; decide +kernel)
set_option maxRecDepth 100000 in
theorem eq_Itm (x : ItmT) : Meets Tryz.prog 190 [xd (eItm x), xd (eItm x)] ⟨.one (.c (.d (eB true))), [none, none]⟩ := by
  refine meets_of (H := []) (EX := EXA) ttok mixed Tryz.func190 rfl (by kernel_rfl) (by decide) ?_
  generalize hA : real = A
  generalize hM : Meets Tryz.prog = M
  cbv
  repeat' first
    | apply And.intro
    | exact True.intro
    | with_reducible rfl
    | exact same_of hA rfl
    | refine br_of hA (fun _ => ?_) (fun _ => ?_)
    | (refine ind_of hA ?_; decide +kernel)
    | (exfalso; rename_i h; subst hA; simp [real] at h; done)
def st_toItmS (n : Nat) (rd : Nat → ItmT) (i : Nat) (rm : Nat → ItmT) : St :=
  ⟨[(4, .c (.d (eI i))), (0, .c (.d (.sl 5 n fun i => eItm (rd i)))), (3, .c (.own 448 0 n 1))], [(448, 1, .arr 5 n fun i => eItm (rm i))]⟩
set_option maxRecDepth 100000 in
theorem to_ItmS (n : Nat) (hn : n ≤ 1048576) (rd : Nat → ItmT) : Meets Tryz.prog 120 [.c (.d (.sl 5 n fun i => eItm (rd i)))] ⟨.one (.c (.own 5 n fun i => eItm (rd i))), [none]⟩ := by
  have hn2 : n ≤ maxLen := Nat.le_trans hn (by decide)
  refine meets_of (H := [6]) (EX := EXA) ttok mixed Tryz.func120 rfl (by kernel_rfl) (by decide) ?_
  generalize hA : real = A
  generalize hM : Meets Tryz.prog = M
  cbv
  repeat' first
    | apply And.intro
    | exact True.intro
    | with_reducible rfl
    | exact same_of hA rfl
    | refine br_of hA (fun _ => ?_) (fun _ => ?_)
    | (refine ind_of hA ?_; decide +kernel)
    | exact made_n hA hn (by decide)
  refine loop_of hA (α := { p : Nat × (Nat → ItmT) // p.1 ≤ n ∧ ∀ j, j < p.1 → p.2 j = rd j }) (fun x => st_toItmS n rd x.1.1 x.1.2) (fun x => n - x.1.1) ⟨(0, fun _ => ⟨0, 0, 0, 0, 0⟩), Nat.zero_le _, fun j h => absurd h (Nat.not_lt_zero _)⟩ ?_ ?_
  · refine cov_of ?_ ?_ ?_
    · cbv
      subst hA
      exact ⟨rfl, ⟨rfl, trivial⟩, trivial⟩
    · cbv
      subst hA
      exact ⟨⟨rfl, fun _ _ => rfl⟩, trivial⟩
    · cbv
  rintro ⟨⟨i, rm⟩, hi, hrm⟩
  cbv
  repeat' first
    | apply And.intro
    | exact True.intro
    | with_reducible rfl
    | exact same_of hA rfl
    | refine br_of hA (fun _ => ?_) (fun _ => ?_)
    | (refine ind_of hA ?_; decide +kernel)
    | (refine call_of hA hM _ (to_Itm (rd (A.nat (Int.ofNat i)))) ?_; cbv)
    | (refine inb_of hA fun _ => ?_; subst hA; simp only [real, decide_eq_true_eq, Int.ofNat_eq_natCast] at *; omega)
  · rename_i hlt
    have hlt' : i < n := by subst hA; simp only [real, decide_eq_true_eq, Int.ofNat_eq_natCast] at hlt; omega
    refine ⟨⟨(i + 1, fun j => if j = i then rd i else rm j), by simp only; omega, fun j hj => ?_⟩, by simp only; omega, cov_of ?_ ?_ ?_⟩
    · simp only at hj ⊢
      by_cases e : j = i
      · simp [e]
      · rw [if_neg e]; exact hrm j (by simp only; omega)
    · cbv
      subst hA
      exact ⟨congrArg (fun x => DV.v (.int .i64 x)) (up64 hlt' hn2), trivial⟩
    · cbv
      refine ⟨fun q _ => ?_, trivial⟩
      subst hA
      by_cases e : q = i
      · subst e; show (if q = 0 + q then eItm (rd q) else eItm (rm q)) = _; simp only [Nat.zero_add, if_pos, if_true] <;> rfl
      · show (if q = 0 + i then eItm (rd i) else eItm (rm q)) = _; simp only [Nat.zero_add, e, if_false] <;> rfl
    · cbv
  · rename_i hge
    have hin : i = n := by
      subst hA
      have : ¬ ((i : Int) < (n : Int)) := of_decide_eq_false hge
      simp only at hi
      omega
    subst hin
    refine stop_of hA ⟨[(3, .c (.own 448 0 i 1))], [(448, 1, .arr 5 i fun j => eItm (rd j))]⟩ (cov_of ?_ ?_ ?_) ?_
    · cbv
    · cbv
      exact ⟨fun q hq => congrArg (fun x => eItm x) (hrm q hq), trivial⟩
    · cbv
    · cbv
      repeat' first | apply And.intro | refine br_of hA (fun _ => ?_) (fun _ => ?_)
      all_goals first | exact True.intro | with_reducible rfl | exact same_of hA rfl | skip
def st_eqItmS (n : Nat) (rd : Nat → ItmT) (i : Nat) : St := ⟨[(5, .c (.d (eI i))), (0, .c (.d (.sl 5 n fun i => eItm (rd i)))), (1, .c (.d (.sl 5 n fun i => eItm (rd i))))], []⟩
set_option maxRecDepth 100000 in
theorem eq_ItmS (n : Nat) (hn : n ≤ maxLen) (rd : Nat → ItmT) : Meets Tryz.prog 134 [.c (.d (.sl 5 n fun i => eItm (rd i))), .c (.d (.sl 5 n fun i => eItm (rd i)))] ⟨.one (.c (.d (eB true))), [none, none]⟩ := by
  refine meets_of (H := []) (EX := EXA) ttok mixed Tryz.func134 rfl (by kernel_rfl) (by decide) ?_
  generalize hA : real = A
  generalize hM : Meets Tryz.prog = M
  cbv
  repeat' first
    | apply And.intro
    | exact True.intro
    | with_reducible rfl
    | exact same_of hA rfl
    | refine br_of hA (fun _ => ?_) (fun _ => ?_)
    | (refine ind_of hA ?_; decide +kernel)
    | (exfalso; rename_i h; subst hA; simp [real] at h; done)
  refine loop_of hA (α := { i : Nat // i ≤ n }) (fun x => st_eqItmS n rd x.1) (fun x => n - x.1) ⟨0, Nat.zero_le _⟩ ?_ ?_
  · refine cov_of ?_ ?_ ?_
    · cbv; exact ⟨rfl, trivial⟩
    · cbv
    · cbv
  rintro ⟨i, hi⟩
  cbv
  repeat' first
    | apply And.intro
    | exact True.intro
    | with_reducible rfl
    | exact same_of hA rfl
    | refine br_of hA (fun _ => ?_) (fun _ => ?_)
    | (refine ind_of hA ?_; decide +kernel)
    | (refine call_of hA hM _ (eq_Itm (rd (A.nat (Int.ofNat i)))) ?_; cbv)
    | (exfalso; rename_i h; subst hA; simp [real] at h; done)
    | (refine inb_of hA fun _ => ?_; subst hA; simp only [real, decide_eq_true_eq, Int.ofNat_eq_natCast] at *; omega)
  have hlt' : i < n := by
    subst hA
    simp only [real, decide_eq_true_eq, Int.ofNat_eq_natCast] at *
    omega
  refine ⟨⟨i + 1, by omega⟩, by simp only; omega, cov_of ?_ ?_ ?_⟩
  · cbv
    subst hA
    exact ⟨congrArg (fun x => DV.v (.int .i64 x)) (up64 hlt' hn), trivial⟩
  · cbv
  · cbv
set_option maxRecDepth 100000 in
theorem sz_ItmS (n : Nat) (hn : n ≤ maxLen) (rd : Nat → ItmT) (l : Int) (h0 : 0 ≤ l) (h1 : l ≤ 1048576) (y : Int) (hy : y = szN n l) : Meets Tryz.prog 109 [.c (.d (.sl 5 n fun i => eItm (rd i))), .c (.d (eI l))] ⟨.one (.c (.d (eI y))), [none, none]⟩ := by
  have hm : maxLen = 9223372036854775807 := by decide
  have hw : IntKind.i64.wrap (l - (n : Int)) = l - n := IntWalk.i64_in _ (by omega)
  refine meets_of (H := []) (EX := EXA) ttok mixed Tryz.func109 rfl (by kernel_rfl) (by decide) ?_
  generalize hA : real = A
  generalize hM : Meets Tryz.prog = M
  cbv
  repeat' first
    | apply And.intro
    | exact True.intro
    | with_reducible rfl
    | exact same_of hA rfl
    | refine br_of hA (fun _ => ?_) (fun _ => ?_)
    | (refine ind_of hA ?_; decide +kernel)
  all_goals rename_i hlt
  all_goals subst hA
  · refine congrArg (fun x => XA.one (.c (.d (eI x)))) ?_
    have hlt : IntKind.i64.wrap (l - (n : Int)) < 0 := of_decide_eq_true hlt
    rw [hw] at hlt
    rw [hy]; unfold szN; rw [if_pos hlt]
  · refine congrArg (fun x => XA.one (.c (.d (eI x)))) ?_
    have hlt : ¬ IntKind.i64.wrap (l - (n : Int)) < 0 := of_decide_eq_false hlt
    rw [hw] at hlt
    rw [hy]; unfold szN; rw [if_neg hlt]
    exact hw
set_option maxRecDepth 100000 in
theorem to_Win (x : WinT) : Meets Tryz.prog 241 [xd (eWin x)] ⟨.one (xd (eWin x)), [none]⟩ := by
  refine meets_of (H := []) (EX := EXA) ttok mixed Tryz.func241 rfl (by kernel_rfl) (by decide) ?_
  generalize hA : real = A
  generalize hM : Meets Tryz.prog = M
  cbv
  repeat' first
    | apply And.intro
    | exact True.intro
    | with_reducible rfl
    | exact same_of hA rfl
    | refine br_of hA (fun _ => ?_) (fun _ => ?_)
    | (refine ind_of hA ?_; decide +kernel)
set_option maxRecDepth 100000 in
theorem eq_Win (x : WinT) : Meets Tryz.prog 244 [xd (eWin x), xd (eWin x)] ⟨.one (.c (.d (eB true))), [none, none]⟩ := by
  refine meets_of (H := []) (EX := EXA) ttok mixed Tryz.func244 rfl (by kernel_rfl) (by decide) ?_
  generalize hA : real = A
  generalize hM : Meets Tryz.prog = M
  cbv
  repeat' first
    | apply And.intro
    | exact True.intro
    | with_reducible rfl
    | exact same_of hA rfl
    | refine br_of hA (fun _ => ?_) (fun _ => ?_)
    | (refine ind_of hA ?_; decide +kernel)
    | (exfalso; rename_i h; subst hA; simp [real] at h; done)
set_option maxRecDepth 100000 in
theorem to_Agg (x : AggT) : Meets Tryz.prog 242 [xd (eAgg x)] ⟨.one (xd (eAgg x)), [none]⟩ := by
  refine meets_of (H := []) (EX := EXA) ttok mixed Tryz.func242 rfl (by kernel_rfl) (by decide) ?_
  generalize hA : real = A
  generalize hM : Meets Tryz.prog = M
  cbv
  repeat' first
    | apply And.intro
    | exact True.intro
    | with_reducible rfl
    | exact same_of hA rfl
    | refine br_of hA (fun _ => ?_) (fun _ => ?_)
    | (refine ind_of hA ?_; decide +kernel)
set_option maxRecDepth 100000 in
theorem eq_Agg (x : AggT) : Meets Tryz.prog 245 [xd (eAgg x), xd (eAgg x)] ⟨.one (.c (.d (eB true))), [none, none]⟩ := by
  refine meets_of (H := []) (EX := EXA) ttok mixed Tryz.func245 rfl (by kernel_rfl) (by decide) ?_
  generalize hA : real = A
  generalize hM : Meets Tryz.prog = M
  cbv
  repeat' first
    | apply And.intro
    | exact True.intro
    | with_reducible rfl
    | exact same_of hA rfl
    | refine br_of hA (fun _ => ?_) (fun _ => ?_)
    | (refine ind_of hA ?_; decide +kernel)
    | (exfalso; rename_i h; subst hA; simp [real] at h; done)
set_option maxRecDepth 100000 in
theorem to_Row (x : RowT) : Meets Tryz.prog 238 [xd (eRow x)] ⟨.one (xd (eRow x)), [none]⟩ := by
  refine meets_of (H := []) (EX := EXA) ttok mixed Tryz.func238 rfl (by kernel_rfl) (by decide) ?_
  generalize hA : real = A
  generalize hM : Meets Tryz.prog = M
  cbv
  repeat' first
    | apply And.intro
    | exact True.intro
    | with_reducible rfl
    | exact same_of hA rfl
    | refine br_of hA (fun _ => ?_) (fun _ => ?_)
    | (refine ind_of hA ?_; decide +kernel)
    | (refine call_of hA hM _ (to_Win x.win) ?_; cbv)
    | (refine call_of hA hM _ (to_Agg x.all) ?_; cbv)
    | (refine call_of hA hM _ (to_Agg x.fresh) ?_; cbv)
set_option maxRecDepth 100000 in
theorem eq_Row (x : RowT) : Meets Tryz.prog 240 [xd (eRow x), xd (eRow x)] ⟨.one (.c (.d (eB true))), [none, none]⟩ := by
  refine meets_of (H := []) (EX := EXA) ttok mixed Tryz.func240 rfl (by kernel_rfl) (by decide) ?_
  generalize hA : real = A
  generalize hM : Meets Tryz.prog = M
  cbv
  repeat' first
    | apply And.intro
    | exact True.intro
    | with_reducible rfl
    | exact same_of hA rfl
    | refine br_of hA (fun _ => ?_) (fun _ => ?_)
    | (refine ind_of hA ?_; decide +kernel)
    | (refine call_of hA hM _ (eq_Win x.win) ?_; cbv)
    | (refine call_of hA hM _ (eq_Agg x.all) ?_; cbv)
    | (refine call_of hA hM _ (eq_Agg x.fresh) ?_; cbv)
    | (exfalso; rename_i h; subst hA; simp [real] at h; done)
def st_toRowS (n : Nat) (rd : Nat → RowT) (i : Nat) (rm : Nat → RowT) : St :=
  ⟨[(4, .c (.d (eI i))), (0, .c (.d (.sl 13 n fun i => eRow (rd i)))), (3, .c (.own 448 0 n 1))], [(448, 1, .arr 13 n fun i => eRow (rm i))]⟩
set_option maxRecDepth 100000 in
theorem to_RowS (n : Nat) (hn : n ≤ 1048576) (rd : Nat → RowT) : Meets Tryz.prog 207 [.c (.d (.sl 13 n fun i => eRow (rd i)))] ⟨.one (.c (.own 13 n fun i => eRow (rd i))), [none]⟩ := by
  have hn2 : n ≤ maxLen := Nat.le_trans hn (by decide)
  refine meets_of (H := [6]) (EX := EXA) ttok mixed Tryz.func207 rfl (by kernel_rfl) (by decide) ?_
  generalize hA : real = A
  generalize hM : Meets Tryz.prog = M
  cbv
  repeat' first
    | apply And.intro
    | exact True.intro
    | with_reducible rfl
    | exact same_of hA rfl
    | refine br_of hA (fun _ => ?_) (fun _ => ?_)
    | (refine ind_of hA ?_; decide +kernel)
    | exact made_n hA hn (by decide)
  refine loop_of hA (α := { p : Nat × (Nat → RowT) // p.1 ≤ n ∧ ∀ j, j < p.1 → p.2 j = rd j }) (fun x => st_toRowS n rd x.1.1 x.1.2) (fun x => n - x.1.1) ⟨(0, fun _ => ⟨0, ⟨0, 0⟩, ⟨0, 0, 0, 0⟩, ⟨0, 0, 0, 0⟩, 0, false⟩), Nat.zero_le _, fun j h => absurd h (Nat.not_lt_zero _)⟩ ?_ ?_
  · refine cov_of ?_ ?_ ?_
    · cbv
      subst hA
      exact ⟨rfl, ⟨rfl, trivial⟩, trivial⟩
    · cbv
      subst hA
      exact ⟨⟨rfl, fun _ _ => rfl⟩, trivial⟩
    · cbv
  rintro ⟨⟨i, rm⟩, hi, hrm⟩
  cbv
  repeat' first
    | apply And.intro
    | exact True.intro
    | with_reducible rfl
    | exact same_of hA rfl
    | refine br_of hA (fun _ => ?_) (fun _ => ?_)
    | (refine ind_of hA ?_; decide +kernel)
    | (refine call_of hA hM _ (to_Row (rd (A.nat (Int.ofNat i)))) ?_; cbv)
    | (refine inb_of hA fun _ => ?_; subst hA; simp only [real, decide_eq_true_eq, Int.ofNat_eq_natCast] at *; omega)
  · rename_i hlt
    have hlt' : i < n := by subst hA; simp only [real, decide_eq_true_eq, Int.ofNat_eq_natCast] at hlt; omega
    refine ⟨⟨(i + 1, fun j => if j = i then rd i else rm j), by simp only; omega, fun j hj => ?_⟩, by simp only; omega, cov_of ?_ ?_ ?_⟩
    · simp only at hj ⊢
      by_cases e : j = i
      · simp [e]
      · rw [if_neg e]; exact hrm j (by simp only; omega)
    · cbv
      subst hA
      exact ⟨congrArg (fun x => DV.v (.int .i64 x)) (up64 hlt' hn2), trivial⟩
    · cbv
      refine ⟨fun q _ => ?_, trivial⟩
      subst hA
      by_cases e : q = i
      · subst e; show (if q = 0 + q then eRow (rd q) else eRow (rm q)) = _; simp only [Nat.zero_add, if_pos, if_true] <;> rfl
      · show (if q = 0 + i then eRow (rd i) else eRow (rm q)) = _; simp only [Nat.zero_add, e, if_false] <;> rfl
    · cbv
  · rename_i hge
    have hin : i = n := by
      subst hA
      have : ¬ ((i : Int) < (n : Int)) := of_decide_eq_false hge
      simp only at hi
      omega
    subst hin
    refine stop_of hA ⟨[(3, .c (.own 448 0 i 1))], [(448, 1, .arr 13 i fun j => eRow (rd j))]⟩ (cov_of ?_ ?_ ?_) ?_
    · cbv
    · cbv
      exact ⟨fun q hq => congrArg (fun x => eRow x) (hrm q hq), trivial⟩
    · cbv
    · cbv
      repeat' first | apply And.intro | refine br_of hA (fun _ => ?_) (fun _ => ?_)
      all_goals first | exact True.intro | with_reducible rfl | exact same_of hA rfl | skip
def st_eqRowS (n : Nat) (rd : Nat → RowT) (i : Nat) : St := ⟨[(5, .c (.d (eI i))), (0, .c (.d (.sl 13 n fun i => eRow (rd i)))), (1, .c (.d (.sl 13 n fun i => eRow (rd i))))], []⟩
set_option maxRecDepth 100000 in
theorem eq_RowS (n : Nat) (hn : n ≤ maxLen) (rd : Nat → RowT) : Meets Tryz.prog 209 [.c (.d (.sl 13 n fun i => eRow (rd i))), .c (.d (.sl 13 n fun i => eRow (rd i)))] ⟨.one (.c (.d (eB true))), [none, none]⟩ := by
  refine meets_of (H := []) (EX := EXA) ttok mixed Tryz.func209 rfl (by kernel_rfl) (by decide) ?_
  generalize hA : real = A
  generalize hM : Meets Tryz.prog = M
  cbv
  repeat' first
    | apply And.intro
    | exact True.intro
    | with_reducible rfl
    | exact same_of hA rfl
    | refine br_of hA (fun _ => ?_) (fun _ => ?_)
    | (refine ind_of hA ?_; decide +kernel)
    | (exfalso; rename_i h; subst hA; simp [real] at h; done)
  refine loop_of hA (α := { i : Nat // i ≤ n }) (fun x => st_eqRowS n rd x.1) (fun x => n - x.1) ⟨0, Nat.zero_le _⟩ ?_ ?_
  · refine cov_of ?_ ?_ ?_
    · cbv; exact ⟨rfl, trivial⟩
    · cbv
    · cbv
  rintro ⟨i, hi⟩
  cbv
  repeat' first
    | apply And.intro
    | exact True.intro
    | with_reducible rfl
    | exact same_of hA rfl
    | refine br_of hA (fun _ => ?_) (fun _ => ?_)
    | (refine ind_of hA ?_; decide +kernel)
    | (refine call_of hA hM _ (eq_Row (rd (A.nat (Int.ofNat i)))) ?_; cbv)
    | (exfalso; rename_i h; subst hA; simp [real] at h; done)
    | (refine inb_of hA fun _ => ?_; subst hA; simp only [real, decide_eq_true_eq, Int.ofNat_eq_natCast] at *; omega)
  have hlt' : i < n := by
    subst hA
    simp only [real, decide_eq_true_eq, Int.ofNat_eq_natCast] at *
    omega
  refine ⟨⟨i + 1, by omega⟩, by simp only; omega, cov_of ?_ ?_ ?_⟩
  · cbv
    subst hA
    exact ⟨congrArg (fun x => DV.v (.int .i64 x)) (up64 hlt' hn), trivial⟩
  · cbv
  · cbv
set_option maxRecDepth 100000 in
theorem sz_RowS (n : Nat) (hn : n ≤ maxLen) (rd : Nat → RowT) (l : Int) (h0 : 0 ≤ l) (h1 : l ≤ 1048576) (y : Int) (hy : y = szN n l) : Meets Tryz.prog 206 [.c (.d (.sl 13 n fun i => eRow (rd i))), .c (.d (eI l))] ⟨.one (.c (.d (eI y))), [none, none]⟩ := by
  have hm : maxLen = 9223372036854775807 := by decide
  have hw : IntKind.i64.wrap (l - (n : Int)) = l - n := IntWalk.i64_in _ (by omega)
  refine meets_of (H := []) (EX := EXA) ttok mixed Tryz.func206 rfl (by kernel_rfl) (by decide) ?_
  generalize hA : real = A
  generalize hM : Meets Tryz.prog = M
  cbv
  repeat' first
    | apply And.intro
    | exact True.intro
    | with_reducible rfl
    | exact same_of hA rfl
    | refine br_of hA (fun _ => ?_) (fun _ => ?_)
    | (refine ind_of hA ?_; decide +kernel)
  all_goals rename_i hlt
  all_goals subst hA
  · refine congrArg (fun x => XA.one (.c (.d (eI x)))) ?_
    have hlt : IntKind.i64.wrap (l - (n : Int)) < 0 := of_decide_eq_true hlt
    rw [hw] at hlt
    rw [hy]; unfold szN; rw [if_pos hlt]
  · refine congrArg (fun x => XA.one (.c (.d (eI x)))) ?_
    have hlt : ¬ IntKind.i64.wrap (l - (n : Int)) < 0 := of_decide_eq_false hlt
    rw [hw] at hlt
    rw [hy]; unfold szN; rw [if_neg hlt]
    exact hw
set_option maxRecDepth 100000 in
theorem to_OpSt (x : OpStT) (hb : bdOpSt x) : Meets Tryz.prog 154 [xd (eOpSt x)] ⟨.one (xd (eOpSt x)), [none]⟩ := by
  refine meets_of (H := []) (EX := EXA) ttok mixed Tryz.func154 rfl (by kernel_rfl) (by decide) ?_
  generalize hA : real = A
  generalize hM : Meets Tryz.prog = M
  cbv
  repeat' first
    | apply And.intro
    | exact True.intro
    | with_reducible rfl
    | exact same_of hA rfl
    | refine br_of hA (fun _ => ?_) (fun _ => ?_)
    | (refine ind_of hA ?_; decide +kernel)
    | (refine call_of hA hM _ (meets_frz (to_RowS x.rows.n hb x.rows.g) rfl) ?_; cbv)
set_option maxRecDepth 100000 in
theorem eq_OpSt (x : OpStT) : Meets Tryz.prog 156 [xd (eOpSt x), xd (eOpSt x)] ⟨.one (.c (.d (eB true))), [none, none]⟩ := by
  refine meets_of (H := []) (EX := EXA) ttok mixed Tryz.func156 rfl (by kernel_rfl) (by decide) ?_
  generalize hA : real = A
  generalize hM : Meets Tryz.prog = M
  cbv
  repeat' first
    | apply And.intro
    | exact True.intro
    | with_reducible rfl
    | exact same_of hA rfl
    | refine br_of hA (fun _ => ?_) (fun _ => ?_)
    | (refine ind_of hA ?_; decide +kernel)
    | (refine call_of hA hM _ (eq_RowS x.rows.n x.rows.hn x.rows.g) ?_; cbv)
    | (exfalso; rename_i h; subst hA; simp [real] at h; done)
set_option maxRecDepth 100000 in
theorem sz_OpSt (x : OpStT) (l0 : Int) (h0 : 0 ≤ l0) (h1 : l0 ≤ 1048576) (y : Int) (hy : y = szOpSt x l0) : Meets Tryz.prog 153 [xd (eOpSt x), .c (.d (eI l0))] ⟨.one (.c (.d (eI y))), [none, none]⟩ := by
  refine meets_of (H := []) (EX := EXA) ttok mixed Tryz.func153 rfl (by kernel_rfl) (by decide) ?_
  generalize hA : real = A
  generalize hM : Meets Tryz.prog = M
  cbv
  repeat' first
    | apply And.intro
    | exact True.intro
    | with_reducible rfl
    | exact same_of hA rfl
    | refine br_of hA (fun _ => ?_) (fun _ => ?_)
    | (refine ind_of hA ?_; decide +kernel)
  unfold szOpSt at hy
  obtain ⟨l1, e1⟩ : ∃ z : Int, z = szN x.rows.n l0 := ⟨_, rfl⟩
  have s1 := szN_spec (n := x.rows.n) h0 h1
  rw [← e1] at s1 hy
  refine call_of hA hM _ (sz_RowS x.rows.n x.rows.hn x.rows.g l0 h0 h1 l1 e1) ?_
  cbv
  repeat' first
    | apply And.intro
    | exact True.intro
    | with_reducible rfl
    | exact same_of hA rfl
    | refine br_of hA (fun _ => ?_) (fun _ => ?_)
    | (refine ind_of hA ?_; decide +kernel)
  · rename_i hlt
    refine congrArg (fun x => XA.one (.c (.d (eI x)))) ?_
    subst hA
    have hlt : l1 < 0 := of_decide_eq_true hlt
    omega
  rename_i hge1
  have hge1 : ¬ l1 < 0 := by subst hA; exact of_decide_eq_false hge1
  exact congrArg (fun x => XA.one (.c (.d (eI x)))) hy.symm
set_option maxRecDepth 100000 in
theorem to_Pane (x : PaneT) : Meets Tryz.prog 215 [xd (ePane x)] ⟨.one (xd (ePane x)), [none]⟩ := by
  refine meets_of (H := []) (EX := EXA) ttok mixed Tryz.func215 rfl (by kernel_rfl) (by decide) ?_
  generalize hA : real = A
  generalize hM : Meets Tryz.prog = M
  cbv
  repeat' first
    | apply And.intro
    | exact True.intro
    | with_reducible rfl
    | exact same_of hA rfl
    | refine br_of hA (fun _ => ?_) (fun _ => ?_)
    | (refine ind_of hA ?_; decide +kernel)
    | (refine call_of hA hM _ (to_Win x.win) ?_; cbv)
    | (refine call_of hA hM _ (to_Agg x.agg) ?_; cbv)
set_option maxRecDepth 100000 in
theorem eq_Pane (x : PaneT) : Meets Tryz.prog 228 [xd (ePane x), xd (ePane x)] ⟨.one (.c (.d (eB true))), [none, none]⟩ := by
  refine meets_of (H := []) (EX := EXA) ttok mixed Tryz.func228 rfl (by kernel_rfl) (by decide) ?_
  generalize hA : real = A
  generalize hM : Meets Tryz.prog = M
  cbv
  repeat' first
    | apply And.intro
    | exact True.intro
    | with_reducible rfl
    | exact same_of hA rfl
    | refine br_of hA (fun _ => ?_) (fun _ => ?_)
    | (refine ind_of hA ?_; decide +kernel)
    | (refine call_of hA hM _ (eq_Win x.win) ?_; cbv)
    | (refine call_of hA hM _ (eq_Agg x.agg) ?_; cbv)
    | (exfalso; rename_i h; subst hA; simp [real] at h; done)
def st_toPaneS (n : Nat) (rd : Nat → PaneT) (i : Nat) (rm : Nat → PaneT) : St :=
  ⟨[(4, .c (.d (eI i))), (0, .c (.d (.sl 9 n fun i => ePane (rd i)))), (3, .c (.own 448 0 n 1))], [(448, 1, .arr 9 n fun i => ePane (rm i))]⟩
set_option maxRecDepth 100000 in
theorem to_PaneS (n : Nat) (hn : n ≤ 1048576) (rd : Nat → PaneT) : Meets Tryz.prog 172 [.c (.d (.sl 9 n fun i => ePane (rd i)))] ⟨.one (.c (.own 9 n fun i => ePane (rd i))), [none]⟩ := by
  have hn2 : n ≤ maxLen := Nat.le_trans hn (by decide)
  refine meets_of (H := [6]) (EX := EXA) ttok mixed Tryz.func172 rfl (by kernel_rfl) (by decide) ?_
  generalize hA : real = A
  generalize hM : Meets Tryz.prog = M
  cbv
  repeat' first
    | apply And.intro
    | exact True.intro
    | with_reducible rfl
    | exact same_of hA rfl
    | refine br_of hA (fun _ => ?_) (fun _ => ?_)
    | (refine ind_of hA ?_; decide +kernel)
    | exact made_n hA hn (by decide)
  refine loop_of hA (α := { p : Nat × (Nat → PaneT) // p.1 ≤ n ∧ ∀ j, j < p.1 → p.2 j = rd j }) (fun x => st_toPaneS n rd x.1.1 x.1.2) (fun x => n - x.1.1) ⟨(0, fun _ => ⟨0, ⟨0, 0⟩, 0, 0, ⟨0, 0, 0, 0⟩⟩), Nat.zero_le _, fun j h => absurd h (Nat.not_lt_zero _)⟩ ?_ ?_
  · refine cov_of ?_ ?_ ?_
    · cbv
      subst hA
      exact ⟨rfl, ⟨rfl, trivial⟩, trivial⟩
    · cbv
      subst hA
      exact ⟨⟨rfl, fun _ _ => rfl⟩, trivial⟩
    · cbv
  rintro ⟨⟨i, rm⟩, hi, hrm⟩
  cbv
  repeat' first
    | apply And.intro
    | exact True.intro
    | with_reducible rfl
    | exact same_of hA rfl
    | refine br_of hA (fun _ => ?_) (fun _ => ?_)
    | (refine ind_of hA ?_; decide +kernel)
    | (refine call_of hA hM _ (to_Pane (rd (A.nat (Int.ofNat i)))) ?_; cbv)
    | (refine inb_of hA fun _ => ?_; subst hA; simp only [real, decide_eq_true_eq, Int.ofNat_eq_natCast] at *; omega)
  · rename_i hlt
    have hlt' : i < n := by subst hA; simp only [real, decide_eq_true_eq, Int.ofNat_eq_natCast] at hlt; omega
    refine ⟨⟨(i + 1, fun j => if j = i then rd i else rm j), by simp only; omega, fun j hj => ?_⟩, by simp only; omega, cov_of ?_ ?_ ?_⟩
    · simp only at hj ⊢
      by_cases e : j = i
      · simp [e]
      · rw [if_neg e]; exact hrm j (by simp only; omega)
    · cbv
      subst hA
      exact ⟨congrArg (fun x => DV.v (.int .i64 x)) (up64 hlt' hn2), trivial⟩
    · cbv
      refine ⟨fun q _ => ?_, trivial⟩
      subst hA
      by_cases e : q = i
      · subst e; show (if q = 0 + q then ePane (rd q) else ePane (rm q)) = _; simp only [Nat.zero_add, if_pos, if_true] <;> rfl
      · show (if q = 0 + i then ePane (rd i) else ePane (rm q)) = _; simp only [Nat.zero_add, e, if_false] <;> rfl
    · cbv
  · rename_i hge
    have hin : i = n := by
      subst hA
      have : ¬ ((i : Int) < (n : Int)) := of_decide_eq_false hge
      simp only at hi
      omega
    subst hin
    refine stop_of hA ⟨[(3, .c (.own 448 0 i 1))], [(448, 1, .arr 9 i fun j => ePane (rd j))]⟩ (cov_of ?_ ?_ ?_) ?_
    · cbv
    · cbv
      exact ⟨fun q hq => congrArg (fun x => ePane x) (hrm q hq), trivial⟩
    · cbv
    · cbv
      repeat' first | apply And.intro | refine br_of hA (fun _ => ?_) (fun _ => ?_)
      all_goals first | exact True.intro | with_reducible rfl | exact same_of hA rfl | skip
def st_eqPaneS (n : Nat) (rd : Nat → PaneT) (i : Nat) : St := ⟨[(5, .c (.d (eI i))), (0, .c (.d (.sl 9 n fun i => ePane (rd i)))), (1, .c (.d (.sl 9 n fun i => ePane (rd i))))], []⟩
set_option maxRecDepth 100000 in
theorem eq_PaneS (n : Nat) (hn : n ≤ maxLen) (rd : Nat → PaneT) : Meets Tryz.prog 194 [.c (.d (.sl 9 n fun i => ePane (rd i))), .c (.d (.sl 9 n fun i => ePane (rd i)))] ⟨.one (.c (.d (eB true))), [none, none]⟩ := by
  refine meets_of (H := []) (EX := EXA) ttok mixed Tryz.func194 rfl (by kernel_rfl) (by decide) ?_
  generalize hA : real = A
  generalize hM : Meets Tryz.prog = M
  cbv
  repeat' first
    | apply And.intro
    | exact True.intro
    | with_reducible rfl
    | exact same_of hA rfl
    | refine br_of hA (fun _ => ?_) (fun _ => ?_)
    | (refine ind_of hA ?_; decide +kernel)
    | (exfalso; rename_i h; subst hA; simp [real] at h; done)
  refine loop_of hA (α := { i : Nat // i ≤ n }) (fun x => st_eqPaneS n rd x.1) (fun x => n - x.1) ⟨0, Nat.zero_le _⟩ ?_ ?_
  · refine cov_of ?_ ?_ ?_
    · cbv; exact ⟨rfl, trivial⟩
    · cbv
    · cbv
  rintro ⟨i, hi⟩
  cbv
  repeat' first
    | apply And.intro
    | exact True.intro
    | with_reducible rfl
    | exact same_of hA rfl
    | refine br_of hA (fun _ => ?_) (fun _ => ?_)
    | (refine ind_of hA ?_; decide +kernel)
    | (refine call_of hA hM _ (eq_Pane (rd (A.nat (Int.ofNat i)))) ?_; cbv)
    | (exfalso; rename_i h; subst hA; simp [real] at h; done)
    | (refine inb_of hA fun _ => ?_; subst hA; simp only [real, decide_eq_true_eq, Int.ofNat_eq_natCast] at *; omega)
  have hlt' : i < n := by
    subst hA
    simp only [real, decide_eq_true_eq, Int.ofNat_eq_natCast] at *
    omega
  refine ⟨⟨i + 1, by omega⟩, by simp only; omega, cov_of ?_ ?_ ?_⟩
  · cbv
    subst hA
    exact ⟨congrArg (fun x => DV.v (.int .i64 x)) (up64 hlt' hn), trivial⟩
  · cbv
  · cbv
set_option maxRecDepth 100000 in
theorem sz_PaneS (n : Nat) (hn : n ≤ maxLen) (rd : Nat → PaneT) (l : Int) (h0 : 0 ≤ l) (h1 : l ≤ 1048576) (y : Int) (hy : y = szN n l) : Meets Tryz.prog 161 [.c (.d (.sl 9 n fun i => ePane (rd i))), .c (.d (eI l))] ⟨.one (.c (.d (eI y))), [none, none]⟩ := by
  have hm : maxLen = 9223372036854775807 := by decide
  have hw : IntKind.i64.wrap (l - (n : Int)) = l - n := IntWalk.i64_in _ (by omega)
  refine meets_of (H := []) (EX := EXA) ttok mixed Tryz.func161 rfl (by kernel_rfl) (by decide) ?_
  generalize hA : real = A
  generalize hM : Meets Tryz.prog = M
  cbv
  repeat' first
    | apply And.intro
    | exact True.intro
    | with_reducible rfl
    | exact same_of hA rfl
    | refine br_of hA (fun _ => ?_) (fun _ => ?_)
    | (refine ind_of hA ?_; decide +kernel)
  all_goals rename_i hlt
  all_goals subst hA
  · refine congrArg (fun x => XA.one (.c (.d (eI x)))) ?_
    have hlt : IntKind.i64.wrap (l - (n : Int)) < 0 := of_decide_eq_true hlt
    rw [hw] at hlt
    rw [hy]; unfold szN; rw [if_pos hlt]
  · refine congrArg (fun x => XA.one (.c (.d (eI x)))) ?_
    have hlt : ¬ IntKind.i64.wrap (l - (n : Int)) < 0 := of_decide_eq_false hlt
    rw [hw] at hlt
    rw [hy]; unfold szN; rw [if_neg hlt]
    exact hw
set_option maxRecDepth 100000 in
theorem to_Lat (x : LatT) : Meets Tryz.prog 216 [xd (eLat x)] ⟨.one (xd (eLat x)), [none]⟩ := by
  refine meets_of (H := []) (EX := EXA) ttok mixed Tryz.func216 rfl (by kernel_rfl) (by decide) ?_
  generalize hA : real = A
  generalize hM : Meets Tryz.prog = M
  cbv
  repeat' first
    | apply And.intro
    | exact True.intro
    | with_reducible rfl
    | exact same_of hA rfl
    | refine br_of hA (fun _ => ?_) (fun _ => ?_)
    | (refine ind_of hA ?_; decide +kernel)
    | (refine call_of hA hM _ (to_Itm x.itm) ?_; cbv)
    | (refine call_of hA hM _ (to_Win x.win) ?_; cbv)
set_option maxRecDepth 100000 in
theorem eq_Lat (x : LatT) : Meets Tryz.prog 229 [xd (eLat x), xd (eLat x)] ⟨.one (.c (.d (eB true))), [none, none]⟩ := by
  refine meets_of (H := []) (EX := EXA) ttok mixed Tryz.func229 rfl (by kernel_rfl) (by decide) ?_
  generalize hA : real = A
  generalize hM : Meets Tryz.prog = M
  cbv
  repeat' first
    | apply And.intro
    | exact True.intro
    | with_reducible rfl
    | exact same_of hA rfl
    | refine br_of hA (fun _ => ?_) (fun _ => ?_)
    | (refine ind_of hA ?_; decide +kernel)
    | (refine call_of hA hM _ (eq_Itm x.itm) ?_; cbv)
    | (refine call_of hA hM _ (eq_Win x.win) ?_; cbv)
    | (exfalso; rename_i h; subst hA; simp [real] at h; done)
def st_toLatS (n : Nat) (rd : Nat → LatT) (i : Nat) (rm : Nat → LatT) : St :=
  ⟨[(4, .c (.d (eI i))), (0, .c (.d (.sl 7 n fun i => eLat (rd i)))), (3, .c (.own 448 0 n 1))], [(448, 1, .arr 7 n fun i => eLat (rm i))]⟩
set_option maxRecDepth 100000 in
theorem to_LatS (n : Nat) (hn : n ≤ 1048576) (rd : Nat → LatT) : Meets Tryz.prog 173 [.c (.d (.sl 7 n fun i => eLat (rd i)))] ⟨.one (.c (.own 7 n fun i => eLat (rd i))), [none]⟩ := by
  have hn2 : n ≤ maxLen := Nat.le_trans hn (by decide)
  refine meets_of (H := [6]) (EX := EXA) ttok mixed Tryz.func173 rfl (by kernel_rfl) (by decide) ?_
  generalize hA : real = A
  generalize hM : Meets Tryz.prog = M
  cbv
  repeat' first
    | apply And.intro
    | exact True.intro
    | with_reducible rfl
    | exact same_of hA rfl
    | refine br_of hA (fun _ => ?_) (fun _ => ?_)
    | (refine ind_of hA ?_; decide +kernel)
    | exact made_n hA hn (by decide)
  refine loop_of hA (α := { p : Nat × (Nat → LatT) // p.1 ≤ n ∧ ∀ j, j < p.1 → p.2 j = rd j }) (fun x => st_toLatS n rd x.1.1 x.1.2) (fun x => n - x.1.1) ⟨(0, fun _ => ⟨⟨0, 0, 0, 0, 0⟩, ⟨0, 0⟩⟩), Nat.zero_le _, fun j h => absurd h (Nat.not_lt_zero _)⟩ ?_ ?_
  · refine cov_of ?_ ?_ ?_
    · cbv
      subst hA
      exact ⟨rfl, ⟨rfl, trivial⟩, trivial⟩
    · cbv
      subst hA
      exact ⟨⟨rfl, fun _ _ => rfl⟩, trivial⟩
    · cbv
  rintro ⟨⟨i, rm⟩, hi, hrm⟩
  cbv
  repeat' first
    | apply And.intro
    | exact True.intro
    | with_reducible rfl
    | exact same_of hA rfl
    | refine br_of hA (fun _ => ?_) (fun _ => ?_)
    | (refine ind_of hA ?_; decide +kernel)
    | (refine call_of hA hM _ (to_Lat (rd (A.nat (Int.ofNat i)))) ?_; cbv)
    | (refine inb_of hA fun _ => ?_; subst hA; simp only [real, decide_eq_true_eq, Int.ofNat_eq_natCast] at *; omega)
  · rename_i hlt
    have hlt' : i < n := by subst hA; simp only [real, decide_eq_true_eq, Int.ofNat_eq_natCast] at hlt; omega
    refine ⟨⟨(i + 1, fun j => if j = i then rd i else rm j), by simp only; omega, fun j hj => ?_⟩, by simp only; omega, cov_of ?_ ?_ ?_⟩
    · simp only at hj ⊢
      by_cases e : j = i
      · simp [e]
      · rw [if_neg e]; exact hrm j (by simp only; omega)
    · cbv
      subst hA
      exact ⟨congrArg (fun x => DV.v (.int .i64 x)) (up64 hlt' hn2), trivial⟩
    · cbv
      refine ⟨fun q _ => ?_, trivial⟩
      subst hA
      by_cases e : q = i
      · subst e; show (if q = 0 + q then eLat (rd q) else eLat (rm q)) = _; simp only [Nat.zero_add, if_pos, if_true] <;> rfl
      · show (if q = 0 + i then eLat (rd i) else eLat (rm q)) = _; simp only [Nat.zero_add, e, if_false] <;> rfl
    · cbv
  · rename_i hge
    have hin : i = n := by
      subst hA
      have : ¬ ((i : Int) < (n : Int)) := of_decide_eq_false hge
      simp only at hi
      omega
    subst hin
    refine stop_of hA ⟨[(3, .c (.own 448 0 i 1))], [(448, 1, .arr 7 i fun j => eLat (rd j))]⟩ (cov_of ?_ ?_ ?_) ?_
    · cbv
    · cbv
      exact ⟨fun q hq => congrArg (fun x => eLat x) (hrm q hq), trivial⟩
    · cbv
    · cbv
      repeat' first | apply And.intro | refine br_of hA (fun _ => ?_) (fun _ => ?_)
      all_goals first | exact True.intro | with_reducible rfl | exact same_of hA rfl | skip
def st_eqLatS (n : Nat) (rd : Nat → LatT) (i : Nat) : St := ⟨[(5, .c (.d (eI i))), (0, .c (.d (.sl 7 n fun i => eLat (rd i)))), (1, .c (.d (.sl 7 n fun i => eLat (rd i))))], []⟩
set_option maxRecDepth 100000 in
theorem eq_LatS (n : Nat) (hn : n ≤ maxLen) (rd : Nat → LatT) : Meets Tryz.prog 195 [.c (.d (.sl 7 n fun i => eLat (rd i))), .c (.d (.sl 7 n fun i => eLat (rd i)))] ⟨.one (.c (.d (eB true))), [none, none]⟩ := by
  refine meets_of (H := []) (EX := EXA) ttok mixed Tryz.func195 rfl (by kernel_rfl) (by decide) ?_
  generalize hA : real = A
  generalize hM : Meets Tryz.prog = M
  cbv
  repeat' first
    | apply And.intro
    | exact True.intro
    | with_reducible rfl
    | exact same_of hA rfl
    | refine br_of hA (fun _ => ?_) (fun _ => ?_)
    | (refine ind_of hA ?_; decide +kernel)
    | (exfalso; rename_i h; subst hA; simp [real] at h; done)
  refine loop_of hA (α := { i : Nat // i ≤ n }) (fun x => st_eqLatS n rd x.1) (fun x => n - x.1) ⟨0, Nat.zero_le _⟩ ?_ ?_
  · refine cov_of ?_ ?_ ?_
    · cbv; exact ⟨rfl, trivial⟩
    · cbv
    · cbv
  rintro ⟨i, hi⟩
  cbv
  repeat' first
    | apply And.intro
    | exact True.intro
    | with_reducible rfl
    | exact same_of hA rfl
    | refine br_of hA (fun _ => ?_) (fun _ => ?_)
    | (refine ind_of hA ?_; decide +kernel)
    | (refine call_of hA hM _ (eq_Lat (rd (A.nat (Int.ofNat i)))) ?_; cbv)
    | (exfalso; rename_i h; subst hA; simp [real] at h; done)
    | (refine inb_of hA fun _ => ?_; subst hA; simp only [real, decide_eq_true_eq, Int.ofNat_eq_natCast] at *; omega)
  have hlt' : i < n := by
    subst hA
    simp only [real, decide_eq_true_eq, Int.ofNat_eq_natCast] at *
    omega
  refine ⟨⟨i + 1, by omega⟩, by simp only; omega, cov_of ?_ ?_ ?_⟩
  · cbv
    subst hA
    exact ⟨congrArg (fun x => DV.v (.int .i64 x)) (up64 hlt' hn), trivial⟩
  · cbv
  · cbv
set_option maxRecDepth 100000 in
theorem sz_LatS (n : Nat) (hn : n ≤ maxLen) (rd : Nat → LatT) (l : Int) (h0 : 0 ≤ l) (h1 : l ≤ 1048576) (y : Int) (hy : y = szN n l) : Meets Tryz.prog 162 [.c (.d (.sl 7 n fun i => eLat (rd i))), .c (.d (eI l))] ⟨.one (.c (.d (eI y))), [none, none]⟩ := by
  have hm : maxLen = 9223372036854775807 := by decide
  have hw : IntKind.i64.wrap (l - (n : Int)) = l - n := IntWalk.i64_in _ (by omega)
  refine meets_of (H := []) (EX := EXA) ttok mixed Tryz.func162 rfl (by kernel_rfl) (by decide) ?_
  generalize hA : real = A
  generalize hM : Meets Tryz.prog = M
  cbv
  repeat' first
    | apply And.intro
    | exact True.intro
    | with_reducible rfl
    | exact same_of hA rfl
    | refine br_of hA (fun _ => ?_) (fun _ => ?_)
    | (refine ind_of hA ?_; decide +kernel)
  all_goals rename_i hlt
  all_goals subst hA
  · refine congrArg (fun x => XA.one (.c (.d (eI x)))) ?_
    have hlt : IntKind.i64.wrap (l - (n : Int)) < 0 := of_decide_eq_true hlt
    rw [hw] at hlt
    rw [hy]; unfold szN; rw [if_pos hlt]
  · refine congrArg (fun x => XA.one (.c (.d (eI x)))) ?_
    have hlt : ¬ IntKind.i64.wrap (l - (n : Int)) < 0 := of_decide_eq_false hlt
    rw [hw] at hlt
    rw [hy]; unfold szN; rw [if_neg hlt]
    exact hw
set_option maxRecDepth 100000 in
theorem to_TskIn (x : TskInT) (hb : bdTskIn x) : Meets Tryz.prog 214 [xd (eTskIn x)] ⟨.one (xd (eTskIn x)), [none]⟩ := by
  refine meets_of (H := []) (EX := EXA) ttok mixed Tryz.func214 rfl (by kernel_rfl) (by decide) ?_
  generalize hA : real = A
  generalize hM : Meets Tryz.prog = M
  cbv
  repeat' first
    | apply And.intro
    | exact True.intro
    | with_reducible rfl
    | exact same_of hA rfl
    | refine br_of hA (fun _ => ?_) (fun _ => ?_)
    | (refine ind_of hA ?_; decide +kernel)
    | (refine call_of hA hM _ (meets_frz (to_ItmS x.queue.n hb x.queue.g) rfl) ?_; cbv)
set_option maxRecDepth 100000 in
theorem eq_TskIn (x : TskInT) : Meets Tryz.prog 227 [xd (eTskIn x), xd (eTskIn x)] ⟨.one (.c (.d (eB true))), [none, none]⟩ := by
  refine meets_of (H := []) (EX := EXA) ttok mixed Tryz.func227 rfl (by kernel_rfl) (by decide) ?_
  generalize hA : real = A
  generalize hM : Meets Tryz.prog = M
  cbv
  repeat' first
    | apply And.intro
    | exact True.intro
    | with_reducible rfl
    | exact same_of hA rfl
    | refine br_of hA (fun _ => ?_) (fun _ => ?_)
    | (refine ind_of hA ?_; decide +kernel)
    | (refine call_of hA hM _ (eq_ItmS x.queue.n x.queue.hn x.queue.g) ?_; cbv)
    | (exfalso; rename_i h; subst hA; simp [real] at h; done)
set_option maxRecDepth 100000 in
theorem sz_TskIn (x : TskInT) (l0 : Int) (h0 : 0 ≤ l0) (h1 : l0 ≤ 1048576) (y : Int) (hy : y = szTskIn x l0) : Meets Tryz.prog 212 [xd (eTskIn x), .c (.d (eI l0))] ⟨.one (.c (.d (eI y))), [none, none]⟩ := by
  refine meets_of (H := []) (EX := EXA) ttok mixed Tryz.func212 rfl (by kernel_rfl) (by decide) ?_
  generalize hA : real = A
  generalize hM : Meets Tryz.prog = M
  cbv
  repeat' first
    | apply And.intro
    | exact True.intro
    | with_reducible rfl
    | exact same_of hA rfl
    | refine br_of hA (fun _ => ?_) (fun _ => ?_)
    | (refine ind_of hA ?_; decide +kernel)
  unfold szTskIn at hy
  obtain ⟨l1, e1⟩ : ∃ z : Int, z = szN x.queue.n l0 := ⟨_, rfl⟩
  have s1 := szN_spec (n := x.queue.n) h0 h1
  rw [← e1] at s1 hy
  refine call_of hA hM _ (sz_ItmS x.queue.n x.queue.hn x.queue.g l0 h0 h1 l1 e1) ?_
  cbv
  repeat' first
    | apply And.intro
    | exact True.intro
    | with_reducible rfl
    | exact same_of hA rfl
    | refine br_of hA (fun _ => ?_) (fun _ => ?_)
    | (refine ind_of hA ?_; decide +kernel)
  · rename_i hlt
    refine congrArg (fun x => XA.one (.c (.d (eI x)))) ?_
    subst hA
    have hlt : l1 < 0 := of_decide_eq_true hlt
    omega
  rename_i hge1
  have hge1 : ¬ l1 < 0 := by subst hA; exact of_decide_eq_false hge1
  exact congrArg (fun x => XA.one (.c (.d (eI x)))) hy.symm
def st_toTskInS (n : Nat) (rd : Nat → TskInT) (i : Nat) (rm : Nat → Nat → DV) : St :=
  ⟨[(4, .c (.d (eI i))), (0, .c (.d (.sl 3 n fun i => eTskIn (rd i)))), (3, .c (.own 448 0 n 1))], [(448, 1, .arr 3 n fun i => [rm i 0, rm i 1, rm i 2])]⟩
set_option maxRecDepth 100000 in
theorem to_TskInS (n : Nat) (hn : n ≤ 1048576) (rd : Nat → TskInT) (hb : ∀ i, i < n → bdTskIn (rd i)) : Meets Tryz.prog 169 [.c (.d (.sl 3 n fun i => eTskIn (rd i)))] ⟨.one (.c (.own 3 n fun i => eTskIn (rd i))), [none]⟩ := by
  have hn2 : n ≤ maxLen := Nat.le_trans hn (by decide)
  refine meets_of (H := [6]) (EX := EXA) ttok mixed Tryz.func169 rfl (by kernel_rfl) (by decide) ?_
  generalize hA : real = A
  generalize hM : Meets Tryz.prog = M
  cbv
  repeat' first
    | apply And.intro
    | exact True.intro
    | with_reducible rfl
    | exact same_of hA rfl
    | refine br_of hA (fun _ => ?_) (fun _ => ?_)
    | (refine ind_of hA ?_; decide +kernel)
    | exact made_n hA hn (by decide)
  refine loop_of hA (α := { p : Nat × (Nat → Nat → DV) // p.1 ≤ n ∧ ∀ j, j < p.1 → [p.2 j 0, p.2 j 1, p.2 j 2] = eTskIn (rd j) }) (fun x => st_toTskInS n rd x.1.1 x.1.2) (fun x => n - x.1.1) ⟨(0, fun _ => fun c => [.v nilS, eI 0, eB false].getD c (.v nilS)), Nat.zero_le _, fun j h => absurd h (Nat.not_lt_zero _)⟩ ?_ ?_
  · refine cov_of ?_ ?_ ?_
    · cbv
      subst hA
      exact ⟨rfl, ⟨rfl, trivial⟩, trivial⟩
    · cbv
      subst hA
      exact ⟨⟨rfl, fun _ _ => rfl⟩, trivial⟩
    · cbv
  rintro ⟨⟨i, rm⟩, hi, hrm⟩
  cbv
  repeat' first
    | apply And.intro
    | exact True.intro
    | with_reducible rfl
    | exact same_of hA rfl
    | refine br_of hA (fun _ => ?_) (fun _ => ?_)
    | (refine ind_of hA ?_; decide +kernel)
    | (refine call_of hA hM _ (to_TskIn (rd (A.nat (Int.ofNat i))) (hb _ (by rename_i hlt; subst hA; simp only [real, decide_eq_true_eq, Int.ofNat_eq_natCast, Int.toNat_natCast] at *; omega))) ?_; cbv)
    | (refine inb_of hA fun _ => ?_; subst hA; simp only [real, decide_eq_true_eq, Int.ofNat_eq_natCast] at *; omega)
  · rename_i hlt
    have hlt' : i < n := by subst hA; simp only [real, decide_eq_true_eq, Int.ofNat_eq_natCast] at hlt; omega
    refine ⟨⟨(i + 1, fun j => if j = i then fun c => (eTskIn (rd i)).getD c (.v nilS) else rm j), by simp only; omega, fun j hj => ?_⟩, by simp only; omega, cov_of ?_ ?_ ?_⟩
    · simp only at hj ⊢
      by_cases e : j = i
      · subst e; simp only [if_true]; rfl
      · simp only [if_neg e]; exact hrm j (by simp only; omega)
    · cbv
      subst hA
      exact ⟨congrArg (fun x => DV.v (.int .i64 x)) (up64 hlt' hn2), trivial⟩
    · cbv
      refine ⟨fun q _ => ?_, trivial⟩
      subst hA
      by_cases e : q = i
      · subst e; show (if q = 0 + q then eTskIn (rd q) else [rm q 0, rm q 1, rm q 2]) = _; simp only [Nat.zero_add, if_pos, if_true] <;> rfl
      · show (if q = 0 + i then eTskIn (rd i) else [rm q 0, rm q 1, rm q 2]) = _; simp only [Nat.zero_add, e, if_false] <;> rfl
    · cbv
  · rename_i hge
    have hin : i = n := by
      subst hA
      have : ¬ ((i : Int) < (n : Int)) := of_decide_eq_false hge
      simp only at hi
      omega
    subst hin
    refine stop_of hA ⟨[(3, .c (.own 448 0 i 1))], [(448, 1, .arr 3 i fun j => eTskIn (rd j))]⟩ (cov_of ?_ ?_ ?_) ?_
    · cbv
    · cbv
      exact ⟨fun q hq => hrm q hq, trivial⟩
    · cbv
    · cbv
      repeat' first | apply And.intro | refine br_of hA (fun _ => ?_) (fun _ => ?_)
      all_goals first | exact True.intro | with_reducible rfl | exact same_of hA rfl | skip
def st_eqTskInS (n : Nat) (rd : Nat → TskInT) (i : Nat) : St := ⟨[(5, .c (.d (eI i))), (0, .c (.d (.sl 3 n fun i => eTskIn (rd i)))), (1, .c (.d (.sl 3 n fun i => eTskIn (rd i))))], []⟩
set_option maxRecDepth 100000 in
theorem eq_TskInS (n : Nat) (hn : n ≤ maxLen) (rd : Nat → TskInT) : Meets Tryz.prog 191 [.c (.d (.sl 3 n fun i => eTskIn (rd i))), .c (.d (.sl 3 n fun i => eTskIn (rd i)))] ⟨.one (.c (.d (eB true))), [none, none]⟩ := by
  refine meets_of (H := []) (EX := EXA) ttok mixed Tryz.func191 rfl (by kernel_rfl) (by decide) ?_
  generalize hA : real = A
  generalize hM : Meets Tryz.prog = M
  cbv
  repeat' first
    | apply And.intro
    | exact True.intro
    | with_reducible rfl
    | exact same_of hA rfl
    | refine br_of hA (fun _ => ?_) (fun _ => ?_)
    | (refine ind_of hA ?_; decide +kernel)
    | (exfalso; rename_i h; subst hA; simp [real] at h; done)
  refine loop_of hA (α := { i : Nat // i ≤ n }) (fun x => st_eqTskInS n rd x.1) (fun x => n - x.1) ⟨0, Nat.zero_le _⟩ ?_ ?_
  · refine cov_of ?_ ?_ ?_
    · cbv; exact ⟨rfl, trivial⟩
    · cbv
    · cbv
  rintro ⟨i, hi⟩
  cbv
  repeat' first
    | apply And.intro
    | exact True.intro
    | with_reducible rfl
    | exact same_of hA rfl
    | refine br_of hA (fun _ => ?_) (fun _ => ?_)
    | (refine ind_of hA ?_; decide +kernel)
    | (refine call_of hA hM _ (eq_TskIn (rd (A.nat (Int.ofNat i)))) ?_; cbv)
    | (exfalso; rename_i h; subst hA; simp [real] at h; done)
    | (refine inb_of hA fun _ => ?_; subst hA; simp only [real, decide_eq_true_eq, Int.ofNat_eq_natCast] at *; omega)
  have hlt' : i < n := by
    subst hA
    simp only [real, decide_eq_true_eq, Int.ofNat_eq_natCast] at *
    omega
  refine ⟨⟨i + 1, by omega⟩, by simp only; omega, cov_of ?_ ?_ ?_⟩
  · cbv
    subst hA
    exact ⟨congrArg (fun x => DV.v (.int .i64 x)) (up64 hlt' hn), trivial⟩
  · cbv
  · cbv
def st_szTskInS (n : Nat) (rd : Nat → TskInT) (i : Nat) (v : Int) : St := ⟨[(5, .c (.d (eI i))), (0, .c (.d (.sl 3 n fun i => eTskIn (rd i)))), (1, .c (.d (eI v)))], []⟩
set_option maxRecDepth 100000 in
theorem sz_TskInS (n : Nat) (hn : n ≤ maxLen) (rd : Nat → TskInT) (l : Int) (h0 : 0 ≤ l) (h1 : l ≤ 1048576) (y : Int) (hy : y = szS (fun i l => szTskIn (rd i) l) n l) : Meets Tryz.prog 158 [.c (.d (.sl 3 n fun i => eTskIn (rd i))), .c (.d (eI l))] ⟨.one (.c (.d (eI y))), [none, none]⟩ := by
  have hm : maxLen = 9223372036854775807 := by decide
  have hw : IntKind.i64.wrap (l - (n : Int)) = l - n := IntWalk.i64_in _ (by omega)
  refine meets_of (H := []) (EX := EXA) ttok mixed Tryz.func158 rfl (by kernel_rfl) (by decide) ?_
  generalize hA : real = A
  generalize hM : Meets Tryz.prog = M
  cbv
  repeat' first
    | apply And.intro
    | exact True.intro
    | with_reducible rfl
    | exact same_of hA rfl
    | refine br_of hA (fun _ => ?_) (fun _ => ?_)
    | (refine ind_of hA ?_; decide +kernel)
  · rename_i hlt
    refine congrArg (fun x => XA.one (.c (.d (eI x)))) ?_
    subst hA
    have hlt : IntKind.i64.wrap (l - (n : Int)) < 0 := of_decide_eq_true hlt
    rw [hw] at hlt
    rw [hy]; unfold szS szN; simp [hlt]
  rename_i hge
  have hge' : ¬ l - (n : Int) < 0 := by
    subst hA
    have h : ¬ IntKind.i64.wrap (l - (n : Int)) < 0 := of_decide_eq_false hge
    rw [hw] at h; exact h
  have hN : szN n l = l - n := if_neg hge'
  have hy' : y = szLoop (fun i l => szTskIn (rd i) l) (l - n) n := by rw [hy]; unfold szS; rw [hN, if_neg hge']
  have hs := szLoop_spec (f := (fun i l => szTskIn (rd i) l)) (B := fun i => bdTskIn (rd i)) (n := n) (fun i _ l h0 h1 => by simpa using szTskIn_spec (rd i) h0 h1) (l := l - n) (by omega) (by omega)
  have hs1 : ∀ k, k ≤ n → -1 ≤ szLoop (fun i l => szTskIn (rd i) l) (l - n) k := fun k hk => (hs k hk).1
  refine loop_of hA (α := { p : Nat × Int // p.1 ≤ n ∧ p.2 = szLoop (fun i l => szTskIn (rd i) l) (l - n) p.1 ∧ 0 ≤ p.2 }) (fun x => st_szTskInS n rd x.1.1 x.1.2) (fun x => n - x.1.1) ⟨(0, l - n), Nat.zero_le _, rfl, by simp only; omega⟩ ?_ ?_
  · refine cov_of ?_ ?_ ?_
    · cbv; subst hA; exact ⟨rfl, congrArg (fun x => DV.v (.int .i64 x)) hw, trivial⟩
    · cbv
    · cbv
  rintro ⟨⟨i, v⟩, hi, hv, hv0⟩
  have hv1 : v ≤ 1048576 := by have := (hs i hi).2.1; simp only at hv; omega
  obtain ⟨z, hz⟩ : ∃ z : Int, z = szTskIn (rd (A.nat (Int.ofNat i))) v := ⟨_, rfl⟩
  have hc := sz_TskIn (rd (A.nat (Int.ofNat i))) v hv0 hv1 z hz
  cbv
  repeat' first
    | apply And.intro
    | exact True.intro
    | with_reducible rfl
    | exact same_of hA rfl
    | refine br_of hA (fun _ => ?_) (fun _ => ?_)
    | (refine ind_of hA ?_; decide +kernel)
    | (refine call_of hA hM _ hc ?_; cbv)
    | (refine inb_of hA fun _ => ?_; subst hA; simp only [real, decide_eq_true_eq, Int.ofNat_eq_natCast] at *; omega)
  · rename_i hlt hz0
    refine congrArg (fun x => XA.one (.c (.d (eI x)))) ?_
    subst hA
    simp only [real, decide_eq_true_eq, Int.ofNat_eq_natCast, Int.toNat_natCast] at *
    have e1 : szLoop (fun i l => szTskIn (rd i) l) (l - n) (i + 1) = z := by unfold szLoop; rw [← hv, if_neg (by omega)]; exact hz.symm
    have e2 := szLoop_neg hs1 (k := i + 1) (by rw [e1]; exact hz0) (n - (i + 1)) (by omega)
    rw [Nat.add_sub_cancel' (by omega)] at e2
    rw [hy', e2]
  · rename_i hlt hz0
    have hz0 : ¬ z < 0 := by subst hA; exact of_decide_eq_false hz0
    have hlt' : i < n := by subst hA; simp only [real, decide_eq_true_eq, Int.ofNat_eq_natCast] at hlt; omega
    have e1 : szLoop (fun i l => szTskIn (rd i) l) (l - n) (i + 1) = z := by
      subst hA
      simp only at hv
      unfold szLoop; rw [← hv, if_neg (by omega)]; exact hz.symm
    refine ⟨⟨(i + 1, z), by simp only; omega, e1.symm, by simp only; omega⟩, by simp only; omega, cov_of ?_ ?_ ?_⟩
    · cbv
      subst hA
      exact ⟨congrArg (fun x => DV.v (.int .i64 x)) (up64 hlt' hn), trivial⟩
    · cbv
    · cbv
  · rename_i hge2
    refine congrArg (fun x => XA.one (.c (.d (eI x)))) ?_
    have : i = n := by
      subst hA
      have : ¬ ((i : Int) < (n : Int)) := of_decide_eq_false hge2
      simp only at hi
      omega
    subst this
    simp only at hv
    omega
set_option maxRecDepth 100000 in
theorem to_Txn (x : TxnT) (hb : bdTxn x) : Meets Tryz.prog 170 [xd (eTxn x)] ⟨.one (xd (eTxn x)), [none]⟩ := by
  refine meets_of (H := []) (EX := EXA) ttok mixed Tryz.func170 rfl (by kernel_rfl) (by decide) ?_
  generalize hA : real = A
  generalize hM : Meets Tryz.prog = M
  cbv
  repeat' first
    | apply And.intro
    | exact True.intro
    | with_reducible rfl
    | exact same_of hA rfl
    | refine br_of hA (fun _ => ?_) (fun _ => ?_)
    | (refine ind_of hA ?_; decide +kernel)
    | (refine call_of hA hM _ (meets_frz (to_PaneS x.panes.n hb.1 x.panes.g) rfl) ?_; cbv)
    | (refine call_of hA hM _ (meets_frz (to_LatS x.lates.n hb.2 x.lates.g) rfl) ?_; cbv)
set_option maxRecDepth 100000 in
theorem eq_Txn (x : TxnT) : Meets Tryz.prog 192 [xd (eTxn x), xd (eTxn x)] ⟨.one (.c (.d (eB true))), [none, none]⟩ := by
  refine meets_of (H := []) (EX := EXA) ttok mixed Tryz.func192 rfl (by kernel_rfl) (by decide) ?_
  generalize hA : real = A
  generalize hM : Meets Tryz.prog = M
  cbv
  repeat' first
    | apply And.intro
    | exact True.intro
    | with_reducible rfl
    | exact same_of hA rfl
    | refine br_of hA (fun _ => ?_) (fun _ => ?_)
    | (refine ind_of hA ?_; decide +kernel)
    | (refine call_of hA hM _ (eq_PaneS x.panes.n x.panes.hn x.panes.g) ?_; cbv)
    | (refine call_of hA hM _ (eq_LatS x.lates.n x.lates.hn x.lates.g) ?_; cbv)
    | (exfalso; rename_i h; subst hA; simp [real] at h; done)
set_option maxRecDepth 100000 in
theorem sz_Txn (x : TxnT) (l0 : Int) (h0 : 0 ≤ l0) (h1 : l0 ≤ 1048576) (y : Int) (hy : y = szTxn x l0) : Meets Tryz.prog 159 [xd (eTxn x), .c (.d (eI l0))] ⟨.one (.c (.d (eI y))), [none, none]⟩ := by
  refine meets_of (H := []) (EX := EXA) ttok mixed Tryz.func159 rfl (by kernel_rfl) (by decide) ?_
  generalize hA : real = A
  generalize hM : Meets Tryz.prog = M
  cbv
  repeat' first
    | apply And.intro
    | exact True.intro
    | with_reducible rfl
    | exact same_of hA rfl
    | refine br_of hA (fun _ => ?_) (fun _ => ?_)
    | (refine ind_of hA ?_; decide +kernel)
  unfold szTxn at hy
  obtain ⟨l1, e1⟩ : ∃ z : Int, z = szN x.panes.n l0 := ⟨_, rfl⟩
  have s1 := szN_spec (n := x.panes.n) h0 h1
  rw [← e1] at s1 hy
  refine call_of hA hM _ (sz_PaneS x.panes.n x.panes.hn x.panes.g l0 h0 h1 l1 e1) ?_
  cbv
  repeat' first
    | apply And.intro
    | exact True.intro
    | with_reducible rfl
    | exact same_of hA rfl
    | refine br_of hA (fun _ => ?_) (fun _ => ?_)
    | (refine ind_of hA ?_; decide +kernel)
  · rename_i hlt
    refine congrArg (fun x => XA.one (.c (.d (eI x)))) ?_
    subst hA
    have hlt : l1 < 0 := of_decide_eq_true hlt
    simp only [hlt, if_true] at hy; omega
  rename_i hge1
  have hge1 : ¬ l1 < 0 := by subst hA; exact of_decide_eq_false hge1
  simp only [hge1, if_false] at hy
  obtain ⟨l2, e2⟩ : ∃ z : Int, z = szN x.lates.n l1 := ⟨_, rfl⟩
  have s2 := szN_spec (n := x.lates.n) (by omega) s1.2.1
  rw [← e2] at s2 hy
  refine call_of hA hM _ (sz_LatS x.lates.n x.lates.hn x.lates.g l1 (by omega) s1.2.1 l2 e2) ?_
  cbv
  repeat' first
    | apply And.intro
    | exact True.intro
    | with_reducible rfl
    | exact same_of hA rfl
    | refine br_of hA (fun _ => ?_) (fun _ => ?_)
    | (refine ind_of hA ?_; decide +kernel)
  · rename_i hlt
    refine congrArg (fun x => XA.one (.c (.d (eI x)))) ?_
    subst hA
    have hlt : l2 < 0 := of_decide_eq_true hlt
    omega
  rename_i hge2
  have hge2 : ¬ l2 < 0 := by subst hA; exact of_decide_eq_false hge2
  exact congrArg (fun x => XA.one (.c (.d (eI x)))) hy.symm
def st_toTxnS (n : Nat) (rd : Nat → TxnT) (i : Nat) (rm : Nat → Nat → DV) : St :=
  ⟨[(4, .c (.d (eI i))), (0, .c (.d (.sl 3 n fun i => eTxn (rd i)))), (3, .c (.own 448 0 n 1))], [(448, 1, .arr 3 n fun i => [rm i 0, rm i 1, rm i 2])]⟩
set_option maxRecDepth 100000 in
theorem to_TxnS (n : Nat) (hn : n ≤ 1048576) (rd : Nat → TxnT) (hb : ∀ i, i < n → bdTxn (rd i)) : Meets Tryz.prog 171 [.c (.d (.sl 3 n fun i => eTxn (rd i)))] ⟨.one (.c (.own 3 n fun i => eTxn (rd i))), [none]⟩ := by
  have hn2 : n ≤ maxLen := Nat.le_trans hn (by decide)
  refine meets_of (H := [6]) (EX := EXA) ttok mixed Tryz.func171 rfl (by kernel_rfl) (by decide) ?_
  generalize hA : real = A
  generalize hM : Meets Tryz.prog = M
  cbv
  repeat' first
    | apply And.intro
    | exact True.intro
    | with_reducible rfl
    | exact same_of hA rfl
    | refine br_of hA (fun _ => ?_) (fun _ => ?_)
    | (refine ind_of hA ?_; decide +kernel)
    | exact made_n hA hn (by decide)
  refine loop_of hA (α := { p : Nat × (Nat → Nat → DV) // p.1 ≤ n ∧ ∀ j, j < p.1 → [p.2 j 0, p.2 j 1, p.2 j 2] = eTxn (rd j) }) (fun x => st_toTxnS n rd x.1.1 x.1.2) (fun x => n - x.1.1) ⟨(0, fun _ => fun c => [eI 0, .v nilS, .v nilS].getD c (.v nilS)), Nat.zero_le _, fun j h => absurd h (Nat.not_lt_zero _)⟩ ?_ ?_
  · refine cov_of ?_ ?_ ?_
    · cbv
      subst hA
      exact ⟨rfl, ⟨rfl, trivial⟩, trivial⟩
    · cbv
      subst hA
      exact ⟨⟨rfl, fun _ _ => rfl⟩, trivial⟩
    · cbv
  rintro ⟨⟨i, rm⟩, hi, hrm⟩
  cbv
  repeat' first
    | apply And.intro
    | exact True.intro
    | with_reducible rfl
    | exact same_of hA rfl
    | refine br_of hA (fun _ => ?_) (fun _ => ?_)
    | (refine ind_of hA ?_; decide +kernel)
    | (refine call_of hA hM _ (to_Txn (rd (A.nat (Int.ofNat i))) (hb _ (by rename_i hlt; subst hA; simp only [real, decide_eq_true_eq, Int.ofNat_eq_natCast, Int.toNat_natCast] at *; omega))) ?_; cbv)
    | (refine inb_of hA fun _ => ?_; subst hA; simp only [real, decide_eq_true_eq, Int.ofNat_eq_natCast] at *; omega)
  · rename_i hlt
    have hlt' : i < n := by subst hA; simp only [real, decide_eq_true_eq, Int.ofNat_eq_natCast] at hlt; omega
    refine ⟨⟨(i + 1, fun j => if j = i then fun c => (eTxn (rd i)).getD c (.v nilS) else rm j), by simp only; omega, fun j hj => ?_⟩, by simp only; omega, cov_of ?_ ?_ ?_⟩
    · simp only at hj ⊢
      by_cases e : j = i
      · subst e; simp only [if_true]; rfl
      · simp only [if_neg e]; exact hrm j (by simp only; omega)
    · cbv
      subst hA
      exact ⟨congrArg (fun x => DV.v (.int .i64 x)) (up64 hlt' hn2), trivial⟩
    · cbv
      refine ⟨fun q _ => ?_, trivial⟩
      subst hA
      by_cases e : q = i
      · subst e; show (if q = 0 + q then eTxn (rd q) else [rm q 0, rm q 1, rm q 2]) = _; simp only [Nat.zero_add, if_pos, if_true] <;> rfl
      · show (if q = 0 + i then eTxn (rd i) else [rm q 0, rm q 1, rm q 2]) = _; simp only [Nat.zero_add, e, if_false] <;> rfl
    · cbv
  · rename_i hge
    have hin : i = n := by
      subst hA
      have : ¬ ((i : Int) < (n : Int)) := of_decide_eq_false hge
      simp only at hi
      omega
    subst hin
    refine stop_of hA ⟨[(3, .c (.own 448 0 i 1))], [(448, 1, .arr 3 i fun j => eTxn (rd j))]⟩ (cov_of ?_ ?_ ?_) ?_
    · cbv
    · cbv
      exact ⟨fun q hq => hrm q hq, trivial⟩
    · cbv
    · cbv
      repeat' first | apply And.intro | refine br_of hA (fun _ => ?_) (fun _ => ?_)
      all_goals first | exact True.intro | with_reducible rfl | exact same_of hA rfl | skip
def st_eqTxnS (n : Nat) (rd : Nat → TxnT) (i : Nat) : St := ⟨[(5, .c (.d (eI i))), (0, .c (.d (.sl 3 n fun i => eTxn (rd i)))), (1, .c (.d (.sl 3 n fun i => eTxn (rd i))))], []⟩
set_option maxRecDepth 100000 in
theorem eq_TxnS (n : Nat) (hn : n ≤ maxLen) (rd : Nat → TxnT) : Meets Tryz.prog 193 [.c (.d (.sl 3 n fun i => eTxn (rd i))), .c (.d (.sl 3 n fun i => eTxn (rd i)))] ⟨.one (.c (.d (eB true))), [none, none]⟩ := by
  refine meets_of (H := []) (EX := EXA) ttok mixed Tryz.func193 rfl (by kernel_rfl) (by decide) ?_
  generalize hA : real = A
  generalize hM : Meets Tryz.prog = M
  cbv
  repeat' first
    | apply And.intro
    | exact True.intro
    | with_reducible rfl
    | exact same_of hA rfl
    | refine br_of hA (fun _ => ?_) (fun _ => ?_)
    | (refine ind_of hA ?_; decide +kernel)
    | (exfalso; rename_i h; subst hA; simp [real] at h; done)
  refine loop_of hA (α := { i : Nat // i ≤ n }) (fun x => st_eqTxnS n rd x.1) (fun x => n - x.1) ⟨0, Nat.zero_le _⟩ ?_ ?_
  · refine cov_of ?_ ?_ ?_
    · cbv; exact ⟨rfl, trivial⟩
    · cbv
    · cbv
  rintro ⟨i, hi⟩
  cbv
  repeat' first
    | apply And.intro
    | exact True.intro
    | with_reducible rfl
    | exact same_of hA rfl
    | refine br_of hA (fun _ => ?_) (fun _ => ?_)
    | (refine ind_of hA ?_; decide +kernel)
    | (refine call_of hA hM _ (eq_Txn (rd (A.nat (Int.ofNat i)))) ?_; cbv)
    | (exfalso; rename_i h; subst hA; simp [real] at h; done)
    | (refine inb_of hA fun _ => ?_; subst hA; simp only [real, decide_eq_true_eq, Int.ofNat_eq_natCast] at *; omega)
  have hlt' : i < n := by
    subst hA
    simp only [real, decide_eq_true_eq, Int.ofNat_eq_natCast] at *
    omega
  refine ⟨⟨i + 1, by omega⟩, by simp only; omega, cov_of ?_ ?_ ?_⟩
  · cbv
    subst hA
    exact ⟨congrArg (fun x => DV.v (.int .i64 x)) (up64 hlt' hn), trivial⟩
  · cbv
  · cbv
def st_szTxnS (n : Nat) (rd : Nat → TxnT) (i : Nat) (v : Int) : St := ⟨[(5, .c (.d (eI i))), (0, .c (.d (.sl 3 n fun i => eTxn (rd i)))), (1, .c (.d (eI v)))], []⟩
set_option maxRecDepth 100000 in
theorem sz_TxnS (n : Nat) (hn : n ≤ maxLen) (rd : Nat → TxnT) (l : Int) (h0 : 0 ≤ l) (h1 : l ≤ 1048576) (y : Int) (hy : y = szS (fun i l => szTxn (rd i) l) n l) : Meets Tryz.prog 160 [.c (.d (.sl 3 n fun i => eTxn (rd i))), .c (.d (eI l))] ⟨.one (.c (.d (eI y))), [none, none]⟩ := by
  have hm : maxLen = 9223372036854775807 := by decide
  have hw : IntKind.i64.wrap (l - (n : Int)) = l - n := IntWalk.i64_in _ (by omega)
  refine meets_of (H := []) (EX := EXA) ttok mixed Tryz.func160 rfl (by kernel_rfl) (by decide) ?_
  generalize hA : real = A
  generalize hM : Meets Tryz.prog = M
  cbv
  repeat' first
    | apply And.intro
    | exact True.intro
    | with_reducible rfl
    | exact same_of hA rfl
    | refine br_of hA (fun _ => ?_) (fun _ => ?_)
    | (refine ind_of hA ?_; decide +kernel)
  · rename_i hlt
    refine congrArg (fun x => XA.one (.c (.d (eI x)))) ?_
    subst hA
    have hlt : IntKind.i64.wrap (l - (n : Int)) < 0 := of_decide_eq_true hlt
    rw [hw] at hlt
    rw [hy]; unfold szS szN; simp [hlt]
  rename_i hge
  have hge' : ¬ l - (n : Int) < 0 := by
    subst hA
    have h : ¬ IntKind.i64.wrap (l - (n : Int)) < 0 := of_decide_eq_false hge
    rw [hw] at h; exact h
  have hN : szN n l = l - n := if_neg hge'
  have hy' : y = szLoop (fun i l => szTxn (rd i) l) (l - n) n := by rw [hy]; unfold szS; rw [hN, if_neg hge']
  have hs := szLoop_spec (f := (fun i l => szTxn (rd i) l)) (B := fun i => bdTxn (rd i)) (n := n) (fun i _ l h0 h1 => by simpa using szTxn_spec (rd i) h0 h1) (l := l - n) (by omega) (by omega)
  have hs1 : ∀ k, k ≤ n → -1 ≤ szLoop (fun i l => szTxn (rd i) l) (l - n) k := fun k hk => (hs k hk).1
  refine loop_of hA (α := { p : Nat × Int // p.1 ≤ n ∧ p.2 = szLoop (fun i l => szTxn (rd i) l) (l - n) p.1 ∧ 0 ≤ p.2 }) (fun x => st_szTxnS n rd x.1.1 x.1.2) (fun x => n - x.1.1) ⟨(0, l - n), Nat.zero_le _, rfl, by simp only; omega⟩ ?_ ?_
  · refine cov_of ?_ ?_ ?_
    · cbv; subst hA; exact ⟨rfl, congrArg (fun x => DV.v (.int .i64 x)) hw, trivial⟩
    · cbv
    · cbv
  rintro ⟨⟨i, v⟩, hi, hv, hv0⟩
  have hv1 : v ≤ 1048576 := by have := (hs i hi).2.1; simp only at hv; omega
  obtain ⟨z, hz⟩ : ∃ z : Int, z = szTxn (rd (A.nat (Int.ofNat i))) v := ⟨_, rfl⟩
  have hc := sz_Txn (rd (A.nat (Int.ofNat i))) v hv0 hv1 z hz
  cbv
  repeat' first
    | apply And.intro
    | exact True.intro
    | with_reducible rfl
    | exact same_of hA rfl
    | refine br_of hA (fun _ => ?_) (fun _ => ?_)
    | (refine ind_of hA ?_; decide +kernel)
    | (refine call_of hA hM _ hc ?_; cbv)
    | (refine inb_of hA fun _ => ?_; subst hA; simp only [real, decide_eq_true_eq, Int.ofNat_eq_natCast] at *; omega)
  · rename_i hlt hz0
    refine congrArg (fun x => XA.one (.c (.d (eI x)))) ?_
    subst hA
    simp only [real, decide_eq_true_eq, Int.ofNat_eq_natCast, Int.toNat_natCast] at *
    have e1 : szLoop (fun i l => szTxn (rd i) l) (l - n) (i + 1) = z := by unfold szLoop; rw [← hv, if_neg (by omega)]; exact hz.symm
    have e2 := szLoop_neg hs1 (k := i + 1) (by rw [e1]; exact hz0) (n - (i + 1)) (by omega)
    rw [Nat.add_sub_cancel' (by omega)] at e2
    rw [hy', e2]
  · rename_i hlt hz0
    have hz0 : ¬ z < 0 := by subst hA; exact of_decide_eq_false hz0
    have hlt' : i < n := by subst hA; simp only [real, decide_eq_true_eq, Int.ofNat_eq_natCast] at hlt; omega
    have e1 : szLoop (fun i l => szTxn (rd i) l) (l - n) (i + 1) = z := by
      subst hA
      simp only at hv
      unfold szLoop; rw [← hv, if_neg (by omega)]; exact hz.symm
    refine ⟨⟨(i + 1, z), by simp only; omega, e1.symm, by simp only; omega⟩, by simp only; omega, cov_of ?_ ?_ ?_⟩
    · cbv
      subst hA
      exact ⟨congrArg (fun x => DV.v (.int .i64 x)) (up64 hlt' hn), trivial⟩
    · cbv
    · cbv
  · rename_i hge2
    refine congrArg (fun x => XA.one (.c (.d (eI x)))) ?_
    have : i = n := by
      subst hA
      have : ¬ ((i : Int) < (n : Int)) := of_decide_eq_false hge2
      simp only at hi
      omega
    subst this
    simp only at hv
    omega
set_option maxRecDepth 100000 in
theorem to_Tsk (x : TskT) (hb : bdTsk x) : Meets Tryz.prog 122 [xd (eTsk x)] ⟨.one (xd (eTsk x)), [none]⟩ := by
  refine meets_of (H := []) (EX := EXA) ttok mixed Tryz.func122 rfl (by kernel_rfl) (by decide) ?_
  generalize hA : real = A
  generalize hM : Meets Tryz.prog = M
  cbv
  repeat' first
    | apply And.intro
    | exact True.intro
    | with_reducible rfl
    | exact same_of hA rfl
    | refine br_of hA (fun _ => ?_) (fun _ => ?_)
    | (refine ind_of hA ?_; decide +kernel)
    | (refine call_of hA hM _ (meets_frz (to_TskInS x.ins.n hb.1 x.ins.g hb.2.1) rfl) ?_; cbv)
    | (refine call_of hA hM _ (to_OpSt x.op hb.2.2.1) ?_; cbv)
    | (refine call_of hA hM _ (to_Txn x.pend hb.2.2.2) ?_; cbv)
set_option maxRecDepth 100000 in
theorem eq_Tsk (x : TskT) : Meets Tryz.prog 136 [xd (eTsk x), xd (eTsk x)] ⟨.one (.c (.d (eB true))), [none, none]⟩ := by
  refine meets_of (H := []) (EX := EXA) ttok mixed Tryz.func136 rfl (by kernel_rfl) (by decide) ?_
  generalize hA : real = A
  generalize hM : Meets Tryz.prog = M
  cbv
  repeat' first
    | apply And.intro
    | exact True.intro
    | with_reducible rfl
    | exact same_of hA rfl
    | refine br_of hA (fun _ => ?_) (fun _ => ?_)
    | (refine ind_of hA ?_; decide +kernel)
    | (refine call_of hA hM _ (eq_TskInS x.ins.n x.ins.hn x.ins.g) ?_; cbv)
    | (refine call_of hA hM _ (eq_OpSt x.op) ?_; cbv)
    | (refine call_of hA hM _ (eq_Txn x.pend) ?_; cbv)
    | (exfalso; rename_i h; subst hA; simp [real] at h; done)
set_option maxRecDepth 100000 in
theorem sz_Tsk (x : TskT) (l0 : Int) (h0 : 0 ≤ l0) (h1 : l0 ≤ 1048576) (y : Int) (hy : y = szTsk x l0) : Meets Tryz.prog 110 [xd (eTsk x), .c (.d (eI l0))] ⟨.one (.c (.d (eI y))), [none, none]⟩ := by
  refine meets_of (H := []) (EX := EXA) ttok mixed Tryz.func110 rfl (by kernel_rfl) (by decide) ?_
  generalize hA : real = A
  generalize hM : Meets Tryz.prog = M
  cbv
  repeat' first
    | apply And.intro
    | exact True.intro
    | with_reducible rfl
    | exact same_of hA rfl
    | refine br_of hA (fun _ => ?_) (fun _ => ?_)
    | (refine ind_of hA ?_; decide +kernel)
  unfold szTsk at hy
  obtain ⟨l1, e1⟩ : ∃ z : Int, z = szS (fun i l => szTskIn (x.ins.g i) l) x.ins.n l0 := ⟨_, rfl⟩
  have s1 := (szS_spec (n := x.ins.n) (B := fun i => bdTskIn (x.ins.g i)) (fun i _ l h0 h1 => by simpa using szTskIn_spec (x.ins.g i) h0 h1) h0 h1)
  rw [← e1] at s1 hy
  refine call_of hA hM _ (sz_TskInS x.ins.n x.ins.hn x.ins.g l0 h0 h1 l1 e1) ?_
  cbv
  repeat' first
    | apply And.intro
    | exact True.intro
    | with_reducible rfl
    | exact same_of hA rfl
    | refine br_of hA (fun _ => ?_) (fun _ => ?_)
    | (refine ind_of hA ?_; decide +kernel)
  · rename_i hlt
    refine congrArg (fun x => XA.one (.c (.d (eI x)))) ?_
    subst hA
    have hlt : l1 < 0 := of_decide_eq_true hlt
    simp only [hlt, if_true] at hy; omega
  rename_i hge1
  have hge1 : ¬ l1 < 0 := by subst hA; exact of_decide_eq_false hge1
  simp only [hge1, if_false] at hy
  obtain ⟨l2, e2⟩ : ∃ z : Int, z = szOpSt x.op l1 := ⟨_, rfl⟩
  have s2 := szOpSt_spec x.op (by omega) s1.2.1
  rw [← e2] at s2 hy
  refine call_of hA hM _ (sz_OpSt x.op l1 (by omega) s1.2.1 l2 e2) ?_
  cbv
  repeat' first
    | apply And.intro
    | exact True.intro
    | with_reducible rfl
    | exact same_of hA rfl
    | refine br_of hA (fun _ => ?_) (fun _ => ?_)
    | (refine ind_of hA ?_; decide +kernel)
  · rename_i hlt
    refine congrArg (fun x => XA.one (.c (.d (eI x)))) ?_
    subst hA
    have hlt : l2 < 0 := of_decide_eq_true hlt
    simp only [hlt, if_true] at hy; omega
  rename_i hge2
  have hge2 : ¬ l2 < 0 := by subst hA; exact of_decide_eq_false hge2
  simp only [hge2, if_false] at hy
  obtain ⟨l3, e3⟩ : ∃ z : Int, z = szTxn x.pend l2 := ⟨_, rfl⟩
  have s3 := szTxn_spec x.pend (by omega) s2.2.1
  rw [← e3] at s3 hy
  refine call_of hA hM _ (sz_Txn x.pend l2 (by omega) s2.2.1 l3 e3) ?_
  cbv
  repeat' first
    | apply And.intro
    | exact True.intro
    | with_reducible rfl
    | exact same_of hA rfl
    | refine br_of hA (fun _ => ?_) (fun _ => ?_)
    | (refine ind_of hA ?_; decide +kernel)
  · rename_i hlt
    refine congrArg (fun x => XA.one (.c (.d (eI x)))) ?_
    subst hA
    have hlt : l3 < 0 := of_decide_eq_true hlt
    omega
  rename_i hge3
  have hge3 : ¬ l3 < 0 := by subst hA; exact of_decide_eq_false hge3
  exact congrArg (fun x => XA.one (.c (.d (eI x)))) hy.symm
def st_toTskS (n : Nat) (rd : Nat → TskT) (i : Nat) (rm : Nat → Nat → DV) : St :=
  ⟨[(4, .c (.d (eI i))), (0, .c (.d (.sl 7 n fun i => eTsk (rd i)))), (3, .c (.own 448 0 n 1))], [(448, 1, .arr 7 n fun i => [rm i 0, rm i 1, rm i 2, rm i 3, rm i 4, rm i 5, rm i 6])]⟩
set_option maxRecDepth 100000 in
theorem to_TskS (n : Nat) (hn : n ≤ 1048576) (rd : Nat → TskT) (hb : ∀ i, i < n → bdTsk (rd i)) : Meets Tryz.prog 73 [.c (.d (.sl 7 n fun i => eTsk (rd i)))] ⟨.one (.c (.own 7 n fun i => eTsk (rd i))), [none]⟩ := by
  have hn2 : n ≤ maxLen := Nat.le_trans hn (by decide)
  refine meets_of (H := [6]) (EX := EXA) ttok mixed Tryz.func73 rfl (by kernel_rfl) (by decide) ?_
  generalize hA : real = A
  generalize hM : Meets Tryz.prog = M
  cbv
  repeat' first
    | apply And.intro
    | exact True.intro
    | with_reducible rfl
    | exact same_of hA rfl
    | refine br_of hA (fun _ => ?_) (fun _ => ?_)
    | (refine ind_of hA ?_; decide +kernel)
    | exact made_n hA hn (by decide)
  refine loop_of hA (α := { p : Nat × (Nat → Nat → DV) // p.1 ≤ n ∧ ∀ j, j < p.1 → [p.2 j 0, p.2 j 1, p.2 j 2, p.2 j 3, p.2 j 4, p.2 j 5, p.2 j 6] = eTsk (rd j) }) (fun x => st_toTskS n rd x.1.1 x.1.2) (fun x => n - x.1.1) ⟨(0, fun _ => fun c => [.v nilS, eI 0, .v nilS, eI 0, eI 0, .v nilS, .v nilS].getD c (.v nilS)), Nat.zero_le _, fun j h => absurd h (Nat.not_lt_zero _)⟩ ?_ ?_
  · refine cov_of ?_ ?_ ?_
    · cbv
      subst hA
      exact ⟨rfl, ⟨rfl, trivial⟩, trivial⟩
    · cbv
      subst hA
      exact ⟨⟨rfl, fun _ _ => rfl⟩, trivial⟩
    · cbv
  rintro ⟨⟨i, rm⟩, hi, hrm⟩
  cbv
  repeat' first
    | apply And.intro
    | exact True.intro
    | with_reducible rfl
    | exact same_of hA rfl
    | refine br_of hA (fun _ => ?_) (fun _ => ?_)
    | (refine ind_of hA ?_; decide +kernel)
    | (refine call_of hA hM _ (to_Tsk (rd (A.nat (Int.ofNat i))) (hb _ (by rename_i hlt; subst hA; simp only [real, decide_eq_true_eq, Int.ofNat_eq_natCast, Int.toNat_natCast] at *; omega))) ?_; cbv)
    | (refine inb_of hA fun _ => ?_; subst hA; simp only [real, decide_eq_true_eq, Int.ofNat_eq_natCast] at *; omega)
  · rename_i hlt
    have hlt' : i < n := by subst hA; simp only [real, decide_eq_true_eq, Int.ofNat_eq_natCast] at hlt; omega
    refine ⟨⟨(i + 1, fun j => if j = i then fun c => (eTsk (rd i)).getD c (.v nilS) else rm j), by simp only; omega, fun j hj => ?_⟩, by simp only; omega, cov_of ?_ ?_ ?_⟩
    · simp only at hj ⊢
      by_cases e : j = i
      · subst e; simp only [if_true]; rfl
      · simp only [if_neg e]; exact hrm j (by simp only; omega)
    · cbv
      subst hA
      exact ⟨congrArg (fun x => DV.v (.int .i64 x)) (up64 hlt' hn2), trivial⟩
    · cbv
      refine ⟨fun q _ => ?_, trivial⟩
      subst hA
      by_cases e : q = i
      · subst e; show (if q = 0 + q then eTsk (rd q) else [rm q 0, rm q 1, rm q 2, rm q 3, rm q 4, rm q 5, rm q 6]) = _; simp only [Nat.zero_add, if_pos, if_true] <;> rfl
      · show (if q = 0 + i then eTsk (rd i) else [rm q 0, rm q 1, rm q 2, rm q 3, rm q 4, rm q 5, rm q 6]) = _; simp only [Nat.zero_add, e, if_false] <;> rfl
    · cbv
  · rename_i hge
    have hin : i = n := by
      subst hA
      have : ¬ ((i : Int) < (n : Int)) := of_decide_eq_false hge
      simp only at hi
      omega
    subst hin
    refine stop_of hA ⟨[(3, .c (.own 448 0 i 1))], [(448, 1, .arr 7 i fun j => eTsk (rd j))]⟩ (cov_of ?_ ?_ ?_) ?_
    · cbv
    · cbv
      exact ⟨fun q hq => hrm q hq, trivial⟩
    · cbv
    · cbv
      repeat' first | apply And.intro | refine br_of hA (fun _ => ?_) (fun _ => ?_)
      all_goals first | exact True.intro | with_reducible rfl | exact same_of hA rfl | skip
def st_eqTskS (n : Nat) (rd : Nat → TskT) (i : Nat) : St := ⟨[(5, .c (.d (eI i))), (0, .c (.d (.sl 7 n fun i => eTsk (rd i)))), (1, .c (.d (.sl 7 n fun i => eTsk (rd i))))], []⟩
set_option maxRecDepth 100000 in
theorem eq_TskS (n : Nat) (hn : n ≤ maxLen) (rd : Nat → TskT) : Meets Tryz.prog 84 [.c (.d (.sl 7 n fun i => eTsk (rd i))), .c (.d (.sl 7 n fun i => eTsk (rd i)))] ⟨.one (.c (.d (eB true))), [none, none]⟩ := by
  refine meets_of (H := []) (EX := EXA) ttok mixed Tryz.func84 rfl (by kernel_rfl) (by decide) ?_
  generalize hA : real = A
  generalize hM : Meets Tryz.prog = M
  cbv
  repeat' first
    | apply And.intro
    | exact True.intro
    | with_reducible rfl
    | exact same_of hA rfl
    | refine br_of hA (fun _ => ?_) (fun _ => ?_)
    | (refine ind_of hA ?_; decide +kernel)
    | (exfalso; rename_i h; subst hA; simp [real] at h; done)
  refine loop_of hA (α := { i : Nat // i ≤ n }) (fun x => st_eqTskS n rd x.1) (fun x => n - x.1) ⟨0, Nat.zero_le _⟩ ?_ ?_
  · refine cov_of ?_ ?_ ?_
    · cbv; exact ⟨rfl, trivial⟩
    · cbv
    · cbv
  rintro ⟨i, hi⟩
  cbv
  repeat' first
    | apply And.intro
    | exact True.intro
    | with_reducible rfl
    | exact same_of hA rfl
    | refine br_of hA (fun _ => ?_) (fun _ => ?_)
    | (refine ind_of hA ?_; decide +kernel)
    | (refine call_of hA hM _ (eq_Tsk (rd (A.nat (Int.ofNat i)))) ?_; cbv)
    | (exfalso; rename_i h; subst hA; simp [real] at h; done)
    | (refine inb_of hA fun _ => ?_; subst hA; simp only [real, decide_eq_true_eq, Int.ofNat_eq_natCast] at *; omega)
  have hlt' : i < n := by
    subst hA
    simp only [real, decide_eq_true_eq, Int.ofNat_eq_natCast] at *
    omega
  refine ⟨⟨i + 1, by omega⟩, by simp only; omega, cov_of ?_ ?_ ?_⟩
  · cbv
    subst hA
    exact ⟨congrArg (fun x => DV.v (.int .i64 x)) (up64 hlt' hn), trivial⟩
  · cbv
  · cbv
def st_szTskS (n : Nat) (rd : Nat → TskT) (i : Nat) (v : Int) : St := ⟨[(5, .c (.d (eI i))), (0, .c (.d (.sl 7 n fun i => eTsk (rd i)))), (1, .c (.d (eI v)))], []⟩
set_option maxRecDepth 100000 in
theorem sz_TskS (n : Nat) (hn : n ≤ maxLen) (rd : Nat → TskT) (l : Int) (h0 : 0 ≤ l) (h1 : l ≤ 1048576) (y : Int) (hy : y = szS (fun i l => szTsk (rd i) l) n l) : Meets Tryz.prog 65 [.c (.d (.sl 7 n fun i => eTsk (rd i))), .c (.d (eI l))] ⟨.one (.c (.d (eI y))), [none, none]⟩ := by
  have hm : maxLen = 9223372036854775807 := by decide
  have hw : IntKind.i64.wrap (l - (n : Int)) = l - n := IntWalk.i64_in _ (by omega)
  refine meets_of (H := []) (EX := EXA) ttok mixed Tryz.func65 rfl (by kernel_rfl) (by decide) ?_
  generalize hA : real = A
  generalize hM : Meets Tryz.prog = M
  cbv
  repeat' first
    | apply And.intro
    | exact True.intro
    | with_reducible rfl
    | exact same_of hA rfl
    | refine br_of hA (fun _ => ?_) (fun _ => ?_)
    | (refine ind_of hA ?_; decide +kernel)
  · rename_i hlt
    refine congrArg (fun x => XA.one (.c (.d (eI x)))) ?_
    subst hA
    have hlt : IntKind.i64.wrap (l - (n : Int)) < 0 := of_decide_eq_true hlt
    rw [hw] at hlt
    rw [hy]; unfold szS szN; simp [hlt]
  rename_i hge
  have hge' : ¬ l - (n : Int) < 0 := by
    subst hA
    have h : ¬ IntKind.i64.wrap (l - (n : Int)) < 0 := of_decide_eq_false hge
    rw [hw] at h; exact h
  have hN : szN n l = l - n := if_neg hge'
  have hy' : y = szLoop (fun i l => szTsk (rd i) l) (l - n) n := by rw [hy]; unfold szS; rw [hN, if_neg hge']
  have hs := szLoop_spec (f := (fun i l => szTsk (rd i) l)) (B := fun i => bdTsk (rd i)) (n := n) (fun i _ l h0 h1 => by simpa using szTsk_spec (rd i) h0 h1) (l := l - n) (by omega) (by omega)
  have hs1 : ∀ k, k ≤ n → -1 ≤ szLoop (fun i l => szTsk (rd i) l) (l - n) k := fun k hk => (hs k hk).1
  refine loop_of hA (α := { p : Nat × Int // p.1 ≤ n ∧ p.2 = szLoop (fun i l => szTsk (rd i) l) (l - n) p.1 ∧ 0 ≤ p.2 }) (fun x => st_szTskS n rd x.1.1 x.1.2) (fun x => n - x.1.1) ⟨(0, l - n), Nat.zero_le _, rfl, by simp only; omega⟩ ?_ ?_
  · refine cov_of ?_ ?_ ?_
    · cbv; subst hA; exact ⟨rfl, congrArg (fun x => DV.v (.int .i64 x)) hw, trivial⟩
    · cbv
    · cbv
  rintro ⟨⟨i, v⟩, hi, hv, hv0⟩
  have hv1 : v ≤ 1048576 := by have := (hs i hi).2.1; simp only at hv; omega
  obtain ⟨z, hz⟩ : ∃ z : Int, z = szTsk (rd (A.nat (Int.ofNat i))) v := ⟨_, rfl⟩
  have hc := sz_Tsk (rd (A.nat (Int.ofNat i))) v hv0 hv1 z hz
  cbv
  repeat' first
    | apply And.intro
    | exact True.intro
    | with_reducible rfl
    | exact same_of hA rfl
    | refine br_of hA (fun _ => ?_) (fun _ => ?_)
    | (refine ind_of hA ?_; decide +kernel)
    | (refine call_of hA hM _ hc ?_; cbv)
    | (refine inb_of hA fun _ => ?_; subst hA; simp only [real, decide_eq_true_eq, Int.ofNat_eq_natCast] at *; omega)
  · rename_i hlt hz0
    refine congrArg (fun x => XA.one (.c (.d (eI x)))) ?_
    subst hA
    simp only [real, decide_eq_true_eq, Int.ofNat_eq_natCast, Int.toNat_natCast] at *
    have e1 : szLoop (fun i l => szTsk (rd i) l) (l - n) (i + 1) = z := by unfold szLoop; rw [← hv, if_neg (by omega)]; exact hz.symm
    have e2 := szLoop_neg hs1 (k := i + 1) (by rw [e1]; exact hz0) (n - (i + 1)) (by omega)
    rw [Nat.add_sub_cancel' (by omega)] at e2
    rw [hy', e2]
  · rename_i hlt hz0
    have hz0 : ¬ z < 0 := by subst hA; exact of_decide_eq_false hz0
    have hlt' : i < n := by subst hA; simp only [real, decide_eq_true_eq, Int.ofNat_eq_natCast] at hlt; omega
    have e1 : szLoop (fun i l => szTsk (rd i) l) (l - n) (i + 1) = z := by
      subst hA
      simp only at hv
      unfold szLoop; rw [← hv, if_neg (by omega)]; exact hz.symm
    refine ⟨⟨(i + 1, z), by simp only; omega, e1.symm, by simp only; omega⟩, by simp only; omega, cov_of ?_ ?_ ?_⟩
    · cbv
      subst hA
      exact ⟨congrArg (fun x => DV.v (.int .i64 x)) (up64 hlt' hn), trivial⟩
    · cbv
    · cbv
  · rename_i hge2
    refine congrArg (fun x => XA.one (.c (.d (eI x)))) ?_
    have : i = n := by
      subst hA
      have : ¬ ((i : Int) < (n : Int)) := of_decide_eq_false hge2
      simp only at hi
      omega
    subst this
    simp only at hv
    omega
set_option maxRecDepth 100000 in
theorem to_Snap (x : SnapT) (hb : bdSnap x) : Meets Tryz.prog 99 [xd (eSnap x)] ⟨.one (xd (eSnap x)), [none]⟩ := by
  refine meets_of (H := []) (EX := EXA) ttok mixed Tryz.func99 rfl (by kernel_rfl) (by decide) ?_
  generalize hA : real = A
  generalize hM : Meets Tryz.prog = M
  cbv
  repeat' first
    | apply And.intro
    | exact True.intro
    | with_reducible rfl
    | exact same_of hA rfl
    | refine br_of hA (fun _ => ?_) (fun _ => ?_)
    | (refine ind_of hA ?_; decide +kernel)
    | (refine call_of hA hM _ (to_OpSt x.op hb.1) ?_; cbv)
    | (refine call_of hA hM _ (meets_frz (to_IntS x.marks.n hb.2 x.marks.g) rfl) ?_; cbv)
set_option maxRecDepth 100000 in
theorem eq_Snap (x : SnapT) : Meets Tryz.prog 103 [xd (eSnap x), xd (eSnap x)] ⟨.one (.c (.d (eB true))), [none, none]⟩ := by
  refine meets_of (H := []) (EX := EXA) ttok mixed Tryz.func103 rfl (by kernel_rfl) (by decide) ?_
  generalize hA : real = A
  generalize hM : Meets Tryz.prog = M
  cbv
  repeat' first
    | apply And.intro
    | exact True.intro
    | with_reducible rfl
    | exact same_of hA rfl
    | refine br_of hA (fun _ => ?_) (fun _ => ?_)
    | (refine ind_of hA ?_; decide +kernel)
    | (refine call_of hA hM _ (eq_OpSt x.op) ?_; cbv)
    | (refine call_of hA hM _ (eq_IntS x.marks.n x.marks.hn x.marks.g) ?_; cbv)
    | (exfalso; rename_i h; subst hA; simp [real] at h; done)
set_option maxRecDepth 100000 in
theorem sz_Snap (x : SnapT) (l0 : Int) (h0 : 0 ≤ l0) (h1 : l0 ≤ 1048576) (y : Int) (hy : y = szSnap x l0) : Meets Tryz.prog 98 [xd (eSnap x), .c (.d (eI l0))] ⟨.one (.c (.d (eI y))), [none, none]⟩ := by
  refine meets_of (H := []) (EX := EXA) ttok mixed Tryz.func98 rfl (by kernel_rfl) (by decide) ?_
  generalize hA : real = A
  generalize hM : Meets Tryz.prog = M
  cbv
  repeat' first
    | apply And.intro
    | exact True.intro
    | with_reducible rfl
    | exact same_of hA rfl
    | refine br_of hA (fun _ => ?_) (fun _ => ?_)
    | (refine ind_of hA ?_; decide +kernel)
  unfold szSnap at hy
  obtain ⟨l1, e1⟩ : ∃ z : Int, z = szOpSt x.op l0 := ⟨_, rfl⟩
  have s1 := szOpSt_spec x.op h0 h1
  rw [← e1] at s1 hy
  refine call_of hA hM _ (sz_OpSt x.op l0 h0 h1 l1 e1) ?_
  cbv
  repeat' first
    | apply And.intro
    | exact True.intro
    | with_reducible rfl
    | exact same_of hA rfl
    | refine br_of hA (fun _ => ?_) (fun _ => ?_)
    | (refine ind_of hA ?_; decide +kernel)
  · rename_i hlt
    refine congrArg (fun x => XA.one (.c (.d (eI x)))) ?_
    subst hA
    have hlt : l1 < 0 := of_decide_eq_true hlt
    simp only [hlt, if_true] at hy; omega
  rename_i hge1
  have hge1 : ¬ l1 < 0 := by subst hA; exact of_decide_eq_false hge1
  simp only [hge1, if_false] at hy
  obtain ⟨l2, e2⟩ : ∃ z : Int, z = szN x.marks.n l1 := ⟨_, rfl⟩
  have s2 := szN_spec (n := x.marks.n) (by omega) s1.2.1
  rw [← e2] at s2 hy
  refine call_of hA hM _ (sz_IntS x.marks.n x.marks.hn x.marks.g l1 (by omega) s1.2.1 l2 e2) ?_
  cbv
  repeat' first
    | apply And.intro
    | exact True.intro
    | with_reducible rfl
    | exact same_of hA rfl
    | refine br_of hA (fun _ => ?_) (fun _ => ?_)
    | (refine ind_of hA ?_; decide +kernel)
  · rename_i hlt
    refine congrArg (fun x => XA.one (.c (.d (eI x)))) ?_
    subst hA
    have hlt : l2 < 0 := of_decide_eq_true hlt
    omega
  rename_i hge2
  have hge2 : ¬ l2 < 0 := by subst hA; exact of_decide_eq_false hge2
  exact congrArg (fun x => XA.one (.c (.d (eI x)))) hy.symm
def st_toSnapS (n : Nat) (rd : Nat → SnapT) (i : Nat) (rm : Nat → Nat → DV) : St :=
  ⟨[(4, .c (.d (eI i))), (0, .c (.d (.sl 3 n fun i => eSnap (rd i)))), (3, .c (.own 448 0 n 1))], [(448, 1, .arr 3 n fun i => [rm i 0, rm i 1, rm i 2])]⟩
set_option maxRecDepth 100000 in
theorem to_SnapS (n : Nat) (hn : n ≤ 1048576) (rd : Nat → SnapT) (hb : ∀ i, i < n → bdSnap (rd i)) : Meets Tryz.prog 42 [.c (.d (.sl 3 n fun i => eSnap (rd i)))] ⟨.one (.c (.own 3 n fun i => eSnap (rd i))), [none]⟩ := by
  have hn2 : n ≤ maxLen := Nat.le_trans hn (by decide)
  refine meets_of (H := [6]) (EX := EXA) ttok mixed Tryz.func42 rfl (by kernel_rfl) (by decide) ?_
  generalize hA : real = A
  generalize hM : Meets Tryz.prog = M
  cbv
  repeat' first
    | apply And.intro
    | exact True.intro
    | with_reducible rfl
    | exact same_of hA rfl
    | refine br_of hA (fun _ => ?_) (fun _ => ?_)
    | (refine ind_of hA ?_; decide +kernel)
    | exact made_n hA hn (by decide)
  refine loop_of hA (α := { p : Nat × (Nat → Nat → DV) // p.1 ≤ n ∧ ∀ j, j < p.1 → [p.2 j 0, p.2 j 1, p.2 j 2] = eSnap (rd j) }) (fun x => st_toSnapS n rd x.1.1 x.1.2) (fun x => n - x.1.1) ⟨(0, fun _ => fun c => [eI 0, .v nilS, .v nilS].getD c (.v nilS)), Nat.zero_le _, fun j h => absurd h (Nat.not_lt_zero _)⟩ ?_ ?_
  · refine cov_of ?_ ?_ ?_
    · cbv
      subst hA
      exact ⟨rfl, ⟨rfl, trivial⟩, trivial⟩
    · cbv
      subst hA
      exact ⟨⟨rfl, fun _ _ => rfl⟩, trivial⟩
    · cbv
  rintro ⟨⟨i, rm⟩, hi, hrm⟩
  cbv
  repeat' first
    | apply And.intro
    | exact True.intro
    | with_reducible rfl
    | exact same_of hA rfl
    | refine br_of hA (fun _ => ?_) (fun _ => ?_)
    | (refine ind_of hA ?_; decide +kernel)
    | (refine call_of hA hM _ (to_Snap (rd (A.nat (Int.ofNat i))) (hb _ (by rename_i hlt; subst hA; simp only [real, decide_eq_true_eq, Int.ofNat_eq_natCast, Int.toNat_natCast] at *; omega))) ?_; cbv)
    | (refine inb_of hA fun _ => ?_; subst hA; simp only [real, decide_eq_true_eq, Int.ofNat_eq_natCast] at *; omega)
  · rename_i hlt
    have hlt' : i < n := by subst hA; simp only [real, decide_eq_true_eq, Int.ofNat_eq_natCast] at hlt; omega
    refine ⟨⟨(i + 1, fun j => if j = i then fun c => (eSnap (rd i)).getD c (.v nilS) else rm j), by simp only; omega, fun j hj => ?_⟩, by simp only; omega, cov_of ?_ ?_ ?_⟩
    · simp only at hj ⊢
      by_cases e : j = i
      · subst e; simp only [if_true]; rfl
      · simp only [if_neg e]; exact hrm j (by simp only; omega)
    · cbv
      subst hA
      exact ⟨congrArg (fun x => DV.v (.int .i64 x)) (up64 hlt' hn2), trivial⟩
    · cbv
      refine ⟨fun q _ => ?_, trivial⟩
      subst hA
      by_cases e : q = i
      · subst e; show (if q = 0 + q then eSnap (rd q) else [rm q 0, rm q 1, rm q 2]) = _; simp only [Nat.zero_add, if_pos, if_true] <;> rfl
      · show (if q = 0 + i then eSnap (rd i) else [rm q 0, rm q 1, rm q 2]) = _; simp only [Nat.zero_add, e, if_false] <;> rfl
    · cbv
  · rename_i hge
    have hin : i = n := by
      subst hA
      have : ¬ ((i : Int) < (n : Int)) := of_decide_eq_false hge
      simp only at hi
      omega
    subst hin
    refine stop_of hA ⟨[(3, .c (.own 448 0 i 1))], [(448, 1, .arr 3 i fun j => eSnap (rd j))]⟩ (cov_of ?_ ?_ ?_) ?_
    · cbv
    · cbv
      exact ⟨fun q hq => hrm q hq, trivial⟩
    · cbv
    · cbv
      repeat' first | apply And.intro | refine br_of hA (fun _ => ?_) (fun _ => ?_)
      all_goals first | exact True.intro | with_reducible rfl | exact same_of hA rfl | skip
def st_eqSnapS (n : Nat) (rd : Nat → SnapT) (i : Nat) : St := ⟨[(5, .c (.d (eI i))), (0, .c (.d (.sl 3 n fun i => eSnap (rd i)))), (1, .c (.d (.sl 3 n fun i => eSnap (rd i))))], []⟩
set_option maxRecDepth 100000 in
theorem eq_SnapS (n : Nat) (hn : n ≤ maxLen) (rd : Nat → SnapT) : Meets Tryz.prog 48 [.c (.d (.sl 3 n fun i => eSnap (rd i))), .c (.d (.sl 3 n fun i => eSnap (rd i)))] ⟨.one (.c (.d (eB true))), [none, none]⟩ := by
  refine meets_of (H := []) (EX := EXA) ttok mixed Tryz.func48 rfl (by kernel_rfl) (by decide) ?_
  generalize hA : real = A
  generalize hM : Meets Tryz.prog = M
  cbv
  repeat' first
    | apply And.intro
    | exact True.intro
    | with_reducible rfl
    | exact same_of hA rfl
    | refine br_of hA (fun _ => ?_) (fun _ => ?_)
    | (refine ind_of hA ?_; decide +kernel)
    | (exfalso; rename_i h; subst hA; simp [real] at h; done)
  refine loop_of hA (α := { i : Nat // i ≤ n }) (fun x => st_eqSnapS n rd x.1) (fun x => n - x.1) ⟨0, Nat.zero_le _⟩ ?_ ?_
  · refine cov_of ?_ ?_ ?_
    · cbv; exact ⟨rfl, trivial⟩
    · cbv
    · cbv
  rintro ⟨i, hi⟩
  cbv
  repeat' first
    | apply And.intro
    | exact True.intro
    | with_reducible rfl
    | exact same_of hA rfl
    | refine br_of hA (fun _ => ?_) (fun _ => ?_)
    | (refine ind_of hA ?_; decide +kernel)
    | (refine call_of hA hM _ (eq_Snap (rd (A.nat (Int.ofNat i)))) ?_; cbv)
    | (exfalso; rename_i h; subst hA; simp [real] at h; done)
    | (refine inb_of hA fun _ => ?_; subst hA; simp only [real, decide_eq_true_eq, Int.ofNat_eq_natCast] at *; omega)
  have hlt' : i < n := by
    subst hA
    simp only [real, decide_eq_true_eq, Int.ofNat_eq_natCast] at *
    omega
  refine ⟨⟨i + 1, by omega⟩, by simp only; omega, cov_of ?_ ?_ ?_⟩
  · cbv
    subst hA
    exact ⟨congrArg (fun x => DV.v (.int .i64 x)) (up64 hlt' hn), trivial⟩
  · cbv
  · cbv
def st_szSnapS (n : Nat) (rd : Nat → SnapT) (i : Nat) (v : Int) : St := ⟨[(5, .c (.d (eI i))), (0, .c (.d (.sl 3 n fun i => eSnap (rd i)))), (1, .c (.d (eI v)))], []⟩
set_option maxRecDepth 100000 in
theorem sz_SnapS (n : Nat) (hn : n ≤ maxLen) (rd : Nat → SnapT) (l : Int) (h0 : 0 ≤ l) (h1 : l ≤ 1048576) (y : Int) (hy : y = szS (fun i l => szSnap (rd i) l) n l) : Meets Tryz.prog 37 [.c (.d (.sl 3 n fun i => eSnap (rd i))), .c (.d (eI l))] ⟨.one (.c (.d (eI y))), [none, none]⟩ := by
  have hm : maxLen = 9223372036854775807 := by decide
  have hw : IntKind.i64.wrap (l - (n : Int)) = l - n := IntWalk.i64_in _ (by omega)
  refine meets_of (H := []) (EX := EXA) ttok mixed Tryz.func37 rfl (by kernel_rfl) (by decide) ?_
  generalize hA : real = A
  generalize hM : Meets Tryz.prog = M
  cbv
  repeat' first
    | apply And.intro
    | exact True.intro
    | with_reducible rfl
    | exact same_of hA rfl
    | refine br_of hA (fun _ => ?_) (fun _ => ?_)
    | (refine ind_of hA ?_; decide +kernel)
  · rename_i hlt
    refine congrArg (fun x => XA.one (.c (.d (eI x)))) ?_
    subst hA
    have hlt : IntKind.i64.wrap (l - (n : Int)) < 0 := of_decide_eq_true hlt
    rw [hw] at hlt
    rw [hy]; unfold szS szN; simp [hlt]
  rename_i hge
  have hge' : ¬ l - (n : Int) < 0 := by
    subst hA
    have h : ¬ IntKind.i64.wrap (l - (n : Int)) < 0 := of_decide_eq_false hge
    rw [hw] at h; exact h
  have hN : szN n l = l - n := if_neg hge'
  have hy' : y = szLoop (fun i l => szSnap (rd i) l) (l - n) n := by rw [hy]; unfold szS; rw [hN, if_neg hge']
  have hs := szLoop_spec (f := (fun i l => szSnap (rd i) l)) (B := fun i => bdSnap (rd i)) (n := n) (fun i _ l h0 h1 => by simpa using szSnap_spec (rd i) h0 h1) (l := l - n) (by omega) (by omega)
  have hs1 : ∀ k, k ≤ n → -1 ≤ szLoop (fun i l => szSnap (rd i) l) (l - n) k := fun k hk => (hs k hk).1
  refine loop_of hA (α := { p : Nat × Int // p.1 ≤ n ∧ p.2 = szLoop (fun i l => szSnap (rd i) l) (l - n) p.1 ∧ 0 ≤ p.2 }) (fun x => st_szSnapS n rd x.1.1 x.1.2) (fun x => n - x.1.1) ⟨(0, l - n), Nat.zero_le _, rfl, by simp only; omega⟩ ?_ ?_
  · refine cov_of ?_ ?_ ?_
    · cbv; subst hA; exact ⟨rfl, congrArg (fun x => DV.v (.int .i64 x)) hw, trivial⟩
    · cbv
    · cbv
  rintro ⟨⟨i, v⟩, hi, hv, hv0⟩
  have hv1 : v ≤ 1048576 := by have := (hs i hi).2.1; simp only at hv; omega
  obtain ⟨z, hz⟩ : ∃ z : Int, z = szSnap (rd (A.nat (Int.ofNat i))) v := ⟨_, rfl⟩
  have hc := sz_Snap (rd (A.nat (Int.ofNat i))) v hv0 hv1 z hz
  cbv
  repeat' first
    | apply And.intro
    | exact True.intro
    | with_reducible rfl
    | exact same_of hA rfl
    | refine br_of hA (fun _ => ?_) (fun _ => ?_)
    | (refine ind_of hA ?_; decide +kernel)
    | (refine call_of hA hM _ hc ?_; cbv)
    | (refine inb_of hA fun _ => ?_; subst hA; simp only [real, decide_eq_true_eq, Int.ofNat_eq_natCast] at *; omega)
  · rename_i hlt hz0
    refine congrArg (fun x => XA.one (.c (.d (eI x)))) ?_
    subst hA
    simp only [real, decide_eq_true_eq, Int.ofNat_eq_natCast, Int.toNat_natCast] at *
    have e1 : szLoop (fun i l => szSnap (rd i) l) (l - n) (i + 1) = z := by unfold szLoop; rw [← hv, if_neg (by omega)]; exact hz.symm
    have e2 := szLoop_neg hs1 (k := i + 1) (by rw [e1]; exact hz0) (n - (i + 1)) (by omega)
    rw [Nat.add_sub_cancel' (by omega)] at e2
    rw [hy', e2]
  · rename_i hlt hz0
    have hz0 : ¬ z < 0 := by subst hA; exact of_decide_eq_false hz0
    have hlt' : i < n := by subst hA; simp only [real, decide_eq_true_eq, Int.ofNat_eq_natCast] at hlt; omega
    have e1 : szLoop (fun i l => szSnap (rd i) l) (l - n) (i + 1) = z := by
      subst hA
      simp only at hv
      unfold szLoop; rw [← hv, if_neg (by omega)]; exact hz.symm
    refine ⟨⟨(i + 1, z), by simp only; omega, e1.symm, by simp only; omega⟩, by simp only; omega, cov_of ?_ ?_ ?_⟩
    · cbv
      subst hA
      exact ⟨congrArg (fun x => DV.v (.int .i64 x)) (up64 hlt' hn), trivial⟩
    · cbv
    · cbv
  · rename_i hge2
    refine congrArg (fun x => XA.one (.c (.d (eI x)))) ?_
    have : i = n := by
      subst hA
      have : ¬ ((i : Int) < (n : Int)) := of_decide_eq_false hge2
      simp only at hi
      omega
    subst this
    simp only at hv
    omega
set_option maxRecDepth 100000 in
theorem to_Safe (x : SafeT) (hb : bdSafe x) : Meets Tryz.prog 43 [xd (eSafe x)] ⟨.one (xd (eSafe x)), [none]⟩ := by
  refine meets_of (H := []) (EX := EXA) ttok mixed Tryz.func43 rfl (by kernel_rfl) (by decide) ?_
  generalize hA : real = A
  generalize hM : Meets Tryz.prog = M
  cbv
  repeat' first
    | apply And.intro
    | exact True.intro
    | with_reducible rfl
    | exact same_of hA rfl
    | refine br_of hA (fun _ => ?_) (fun _ => ?_)
    | (refine ind_of hA ?_; decide +kernel)
    | (refine call_of hA hM _ (meets_frz (to_IntS x.at_.n hb.1 x.at_.g) rfl) ?_; cbv)
    | (refine call_of hA hM _ (meets_frz (to_SnapS x.snaps.n hb.2.1 x.snaps.g hb.2.2) rfl) ?_; cbv)
set_option maxRecDepth 100000 in
theorem eq_Safe (x : SafeT) : Meets Tryz.prog 49 [xd (eSafe x), xd (eSafe x)] ⟨.one (.c (.d (eB true))), [none, none]⟩ := by
  refine meets_of (H := []) (EX := EXA) ttok mixed Tryz.func49 rfl (by kernel_rfl) (by decide) ?_
  generalize hA : real = A
  generalize hM : Meets Tryz.prog = M
  cbv
  repeat' first
    | apply And.intro
    | exact True.intro
    | with_reducible rfl
    | exact same_of hA rfl
    | refine br_of hA (fun _ => ?_) (fun _ => ?_)
    | (refine ind_of hA ?_; decide +kernel)
    | (refine call_of hA hM _ (eq_IntS x.at_.n x.at_.hn x.at_.g) ?_; cbv)
    | (refine call_of hA hM _ (eq_SnapS x.snaps.n x.snaps.hn x.snaps.g) ?_; cbv)
    | (exfalso; rename_i h; subst hA; simp [real] at h; done)
set_option maxRecDepth 100000 in
theorem sz_Safe (x : SafeT) (l0 : Int) (h0 : 0 ≤ l0) (h1 : l0 ≤ 1048576) (y : Int) (hy : y = szSafe x l0) : Meets Tryz.prog 38 [xd (eSafe x), .c (.d (eI l0))] ⟨.one (.c (.d (eI y))), [none, none]⟩ := by
  refine meets_of (H := []) (EX := EXA) ttok mixed Tryz.func38 rfl (by kernel_rfl) (by decide) ?_
  generalize hA : real = A
  generalize hM : Meets Tryz.prog = M
  cbv
  repeat' first
    | apply And.intro
    | exact True.intro
    | with_reducible rfl
    | exact same_of hA rfl
    | refine br_of hA (fun _ => ?_) (fun _ => ?_)
    | (refine ind_of hA ?_; decide +kernel)
  unfold szSafe at hy
  obtain ⟨l1, e1⟩ : ∃ z : Int, z = szN x.at_.n l0 := ⟨_, rfl⟩
  have s1 := szN_spec (n := x.at_.n) h0 h1
  rw [← e1] at s1 hy
  refine call_of hA hM _ (sz_IntS x.at_.n x.at_.hn x.at_.g l0 h0 h1 l1 e1) ?_
  cbv
  repeat' first
    | apply And.intro
    | exact True.intro
    | with_reducible rfl
    | exact same_of hA rfl
    | refine br_of hA (fun _ => ?_) (fun _ => ?_)
    | (refine ind_of hA ?_; decide +kernel)
  · rename_i hlt
    refine congrArg (fun x => XA.one (.c (.d (eI x)))) ?_
    subst hA
    have hlt : l1 < 0 := of_decide_eq_true hlt
    simp only [hlt, if_true] at hy; omega
  rename_i hge1
  have hge1 : ¬ l1 < 0 := by subst hA; exact of_decide_eq_false hge1
  simp only [hge1, if_false] at hy
  obtain ⟨l2, e2⟩ : ∃ z : Int, z = szS (fun i l => szSnap (x.snaps.g i) l) x.snaps.n l1 := ⟨_, rfl⟩
  have s2 := (szS_spec (n := x.snaps.n) (B := fun i => bdSnap (x.snaps.g i)) (fun i _ l h0 h1 => by simpa using szSnap_spec (x.snaps.g i) h0 h1) (by omega) s1.2.1)
  rw [← e2] at s2 hy
  refine call_of hA hM _ (sz_SnapS x.snaps.n x.snaps.hn x.snaps.g l1 (by omega) s1.2.1 l2 e2) ?_
  cbv
  repeat' first
    | apply And.intro
    | exact True.intro
    | with_reducible rfl
    | exact same_of hA rfl
    | refine br_of hA (fun _ => ?_) (fun _ => ?_)
    | (refine ind_of hA ?_; decide +kernel)
  · rename_i hlt
    refine congrArg (fun x => XA.one (.c (.d (eI x)))) ?_
    subst hA
    have hlt : l2 < 0 := of_decide_eq_true hlt
    omega
  rename_i hge2
  have hge2 : ¬ l2 < 0 := by subst hA; exact of_decide_eq_false hge2
  exact congrArg (fun x => XA.one (.c (.d (eI x)))) hy.symm
set_option maxRecDepth 100000 in
theorem to_Ckp (x : CkpT) (hb : bdCkp x) : Meets Tryz.prog 12 [xd (eCkp x)] ⟨.one (xd (eCkp x)), [none]⟩ := by
  refine meets_of (H := []) (EX := EXA) ttok mixed Tryz.func12 rfl (by kernel_rfl) (by decide) ?_
  generalize hA : real = A
  generalize hM : Meets Tryz.prog = M
  cbv
  repeat' first
    | apply And.intro
    | exact True.intro
    | with_reducible rfl
    | exact same_of hA rfl
    | refine br_of hA (fun _ => ?_) (fun _ => ?_)
    | (refine ind_of hA ?_; decide +kernel)
    | (refine call_of hA hM _ (meets_frz (to_IntS x.src.n hb.1 x.src.g) rfl) ?_; cbv)
    | (refine call_of hA hM _ (meets_frz (to_BoolS x.tsk.n hb.2.1 x.tsk.g) rfl) ?_; cbv)
    | (refine call_of hA hM _ (meets_frz (to_SnapS x.snaps.n hb.2.2.1 x.snaps.g hb.2.2.2.1) rfl) ?_; cbv)
    | (refine call_of hA hM _ (to_Safe x.safe hb.2.2.2.2) ?_; cbv)
set_option maxRecDepth 100000 in
theorem eq_Ckp (x : CkpT) : Meets Tryz.prog 14 [xd (eCkp x), xd (eCkp x)] ⟨.one (.c (.d (eB true))), [none, none]⟩ := by
  refine meets_of (H := []) (EX := EXA) ttok mixed Tryz.func14 rfl (by kernel_rfl) (by decide) ?_
  generalize hA : real = A
  generalize hM : Meets Tryz.prog = M
  cbv
  repeat' first
    | apply And.intro
    | exact True.intro
    | with_reducible rfl
    | exact same_of hA rfl
    | refine br_of hA (fun _ => ?_) (fun _ => ?_)
    | (refine ind_of hA ?_; decide +kernel)
    | (refine call_of hA hM _ (eq_IntS x.src.n x.src.hn x.src.g) ?_; cbv)
    | (refine call_of hA hM _ (eq_BoolS x.tsk.n x.tsk.hn x.tsk.g) ?_; cbv)
    | (refine call_of hA hM _ (eq_SnapS x.snaps.n x.snaps.hn x.snaps.g) ?_; cbv)
    | (refine call_of hA hM _ (eq_Safe x.safe) ?_; cbv)
    | (exfalso; rename_i h; subst hA; simp [real] at h; done)
set_option maxRecDepth 100000 in
theorem sz_Ckp (x : CkpT) (l0 : Int) (h0 : 0 ≤ l0) (h1 : l0 ≤ 1048576) (y : Int) (hy : y = szCkp x l0) : Meets Tryz.prog 9 [xd (eCkp x), .c (.d (eI l0))] ⟨.one (.c (.d (eI y))), [none, none]⟩ := by
  refine meets_of (H := []) (EX := EXA) ttok mixed Tryz.func9 rfl (by kernel_rfl) (by decide) ?_
  generalize hA : real = A
  generalize hM : Meets Tryz.prog = M
  cbv
  repeat' first
    | apply And.intro
    | exact True.intro
    | with_reducible rfl
    | exact same_of hA rfl
    | refine br_of hA (fun _ => ?_) (fun _ => ?_)
    | (refine ind_of hA ?_; decide +kernel)
  unfold szCkp at hy
  obtain ⟨l1, e1⟩ : ∃ z : Int, z = szN x.src.n l0 := ⟨_, rfl⟩
  have s1 := szN_spec (n := x.src.n) h0 h1
  rw [← e1] at s1 hy
  refine call_of hA hM _ (sz_IntS x.src.n x.src.hn x.src.g l0 h0 h1 l1 e1) ?_
  cbv
  repeat' first
    | apply And.intro
    | exact True.intro
    | with_reducible rfl
    | exact same_of hA rfl
    | refine br_of hA (fun _ => ?_) (fun _ => ?_)
    | (refine ind_of hA ?_; decide +kernel)
  · rename_i hlt
    refine congrArg (fun x => XA.one (.c (.d (eI x)))) ?_
    subst hA
    have hlt : l1 < 0 := of_decide_eq_true hlt
    simp only [hlt, if_true] at hy; omega
  rename_i hge1
  have hge1 : ¬ l1 < 0 := by subst hA; exact of_decide_eq_false hge1
  simp only [hge1, if_false] at hy
  obtain ⟨l2, e2⟩ : ∃ z : Int, z = szN x.tsk.n l1 := ⟨_, rfl⟩
  have s2 := szN_spec (n := x.tsk.n) (by omega) s1.2.1
  rw [← e2] at s2 hy
  refine call_of hA hM _ (sz_BoolS x.tsk.n x.tsk.hn x.tsk.g l1 (by omega) s1.2.1 l2 e2) ?_
  cbv
  repeat' first
    | apply And.intro
    | exact True.intro
    | with_reducible rfl
    | exact same_of hA rfl
    | refine br_of hA (fun _ => ?_) (fun _ => ?_)
    | (refine ind_of hA ?_; decide +kernel)
  · rename_i hlt
    refine congrArg (fun x => XA.one (.c (.d (eI x)))) ?_
    subst hA
    have hlt : l2 < 0 := of_decide_eq_true hlt
    simp only [hlt, if_true] at hy; omega
  rename_i hge2
  have hge2 : ¬ l2 < 0 := by subst hA; exact of_decide_eq_false hge2
  simp only [hge2, if_false] at hy
  obtain ⟨l3, e3⟩ : ∃ z : Int, z = szS (fun i l => szSnap (x.snaps.g i) l) x.snaps.n l2 := ⟨_, rfl⟩
  have s3 := (szS_spec (n := x.snaps.n) (B := fun i => bdSnap (x.snaps.g i)) (fun i _ l h0 h1 => by simpa using szSnap_spec (x.snaps.g i) h0 h1) (by omega) s2.2.1)
  rw [← e3] at s3 hy
  refine call_of hA hM _ (sz_SnapS x.snaps.n x.snaps.hn x.snaps.g l2 (by omega) s2.2.1 l3 e3) ?_
  cbv
  repeat' first
    | apply And.intro
    | exact True.intro
    | with_reducible rfl
    | exact same_of hA rfl
    | refine br_of hA (fun _ => ?_) (fun _ => ?_)
    | (refine ind_of hA ?_; decide +kernel)
  · rename_i hlt
    refine congrArg (fun x => XA.one (.c (.d (eI x)))) ?_
    subst hA
    have hlt : l3 < 0 := of_decide_eq_true hlt
    simp only [hlt, if_true] at hy; omega
  rename_i hge3
  have hge3 : ¬ l3 < 0 := by subst hA; exact of_decide_eq_false hge3
  simp only [hge3, if_false] at hy
  obtain ⟨l4, e4⟩ : ∃ z : Int, z = szSafe x.safe l3 := ⟨_, rfl⟩
  have s4 := szSafe_spec x.safe (by omega) s3.2.1
  rw [← e4] at s4 hy
  refine call_of hA hM _ (sz_Safe x.safe l3 (by omega) s3.2.1 l4 e4) ?_
  cbv
  repeat' first
    | apply And.intro
    | exact True.intro
    | with_reducible rfl
    | exact same_of hA rfl
    | refine br_of hA (fun _ => ?_) (fun _ => ?_)
    | (refine ind_of hA ?_; decide +kernel)
  · rename_i hlt
    refine congrArg (fun x => XA.one (.c (.d (eI x)))) ?_
    subst hA
    have hlt : l4 < 0 := of_decide_eq_true hlt
    omega
  rename_i hge4
  have hge4 : ¬ l4 < 0 := by subst hA; exact of_decide_eq_false hge4
  exact congrArg (fun x => XA.one (.c (.d (eI x)))) hy.symm
set_option maxRecDepth 100000 in
theorem to_Src (x : SrcT) : Meets Tryz.prog 121 [xd (eSrc x)] ⟨.one (xd (eSrc x)), [none]⟩ := by
  refine meets_of (H := []) (EX := EXA) ttok mixed Tryz.func121 rfl (by kernel_rfl) (by decide) ?_
  generalize hA : real = A
  generalize hM : Meets Tryz.prog = M
  cbv
  repeat' first
    | apply And.intro
    | exact True.intro
    | with_reducible rfl
    | exact same_of hA rfl
    | refine br_of hA (fun _ => ?_) (fun _ => ?_)
    | (refine ind_of hA ?_; decide +kernel)
set_option maxRecDepth 100000 in
theorem eq_Src (x : SrcT) : Meets Tryz.prog 135 [xd (eSrc x), xd (eSrc x)] ⟨.one (.c (.d (eB true))), [none, none]⟩ := by
  refine meets_of (H := []) (EX := EXA) ttok mixed Tryz.func135 rfl (by kernel_rfl) (by decide) ?_
  generalize hA : real = A
  generalize hM : Meets Tryz.prog = M
  cbv
  repeat' first
    | apply And.intro
    | exact True.intro
    | with_reducible rfl
    | exact same_of hA rfl
    | refine br_of hA (fun _ => ?_) (fun _ => ?_)
    | (refine ind_of hA ?_; decide +kernel)
    | (exfalso; rename_i h; subst hA; simp [real] at h; done)
def st_toSrcS (n : Nat) (rd : Nat → SrcT) (i : Nat) (rm : Nat → SrcT) : St :=
  ⟨[(4, .c (.d (eI i))), (0, .c (.d (.sl 2 n fun i => eSrc (rd i)))), (3, .c (.own 448 0 n 1))], [(448, 1, .arr 2 n fun i => eSrc (rm i))]⟩
set_option maxRecDepth 100000 in
theorem to_SrcS (n : Nat) (hn : n ≤ 1048576) (rd : Nat → SrcT) : Meets Tryz.prog 72 [.c (.d (.sl 2 n fun i => eSrc (rd i)))] ⟨.one (.c (.own 2 n fun i => eSrc (rd i))), [none]⟩ := by
  have hn2 : n ≤ maxLen := Nat.le_trans hn (by decide)
  refine meets_of (H := [6]) (EX := EXA) ttok mixed Tryz.func72 rfl (by kernel_rfl) (by decide) ?_
  generalize hA : real = A
  generalize hM : Meets Tryz.prog = M
  cbv
  repeat' first
    | apply And.intro
    | exact True.intro
    | with_reducible rfl
    | exact same_of hA rfl
    | refine br_of hA (fun _ => ?_) (fun _ => ?_)
    | (refine ind_of hA ?_; decide +kernel)
    | exact made_n hA hn (by decide)
  refine loop_of hA (α := { p : Nat × (Nat → SrcT) // p.1 ≤ n ∧ ∀ j, j < p.1 → p.2 j = rd j }) (fun x => st_toSrcS n rd x.1.1 x.1.2) (fun x => n - x.1.1) ⟨(0, fun _ => ⟨0, 0⟩), Nat.zero_le _, fun j h => absurd h (Nat.not_lt_zero _)⟩ ?_ ?_
  · refine cov_of ?_ ?_ ?_
    · cbv
      subst hA
      exact ⟨rfl, ⟨rfl, trivial⟩, trivial⟩
    · cbv
      subst hA
      exact ⟨⟨rfl, fun _ _ => rfl⟩, trivial⟩
    · cbv
  rintro ⟨⟨i, rm⟩, hi, hrm⟩
  cbv
  repeat' first
    | apply And.intro
    | exact True.intro
    | with_reducible rfl
    | exact same_of hA rfl
    | refine br_of hA (fun _ => ?_) (fun _ => ?_)
    | (refine ind_of hA ?_; decide +kernel)
    | (refine call_of hA hM _ (to_Src (rd (A.nat (Int.ofNat i)))) ?_; cbv)
    | (refine inb_of hA fun _ => ?_; subst hA; simp only [real, decide_eq_true_eq, Int.ofNat_eq_natCast] at *; omega)
  · rename_i hlt
    have hlt' : i < n := by subst hA; simp only [real, decide_eq_true_eq, Int.ofNat_eq_natCast] at hlt; omega
    refine ⟨⟨(i + 1, fun j => if j = i then rd i else rm j), by simp only; omega, fun j hj => ?_⟩, by simp only; omega, cov_of ?_ ?_ ?_⟩
    · simp only at hj ⊢
      by_cases e : j = i
      · simp [e]
      · rw [if_neg e]; exact hrm j (by simp only; omega)
    · cbv
      subst hA
      exact ⟨congrArg (fun x => DV.v (.int .i64 x)) (up64 hlt' hn2), trivial⟩
    · cbv
      refine ⟨fun q _ => ?_, trivial⟩
      subst hA
      by_cases e : q = i
      · subst e; show (if q = 0 + q then eSrc (rd q) else eSrc (rm q)) = _; simp only [Nat.zero_add, if_pos, if_true] <;> rfl
      · show (if q = 0 + i then eSrc (rd i) else eSrc (rm q)) = _; simp only [Nat.zero_add, e, if_false] <;> rfl
    · cbv
  · rename_i hge
    have hin : i = n := by
      subst hA
      have : ¬ ((i : Int) < (n : Int)) := of_decide_eq_false hge
      simp only at hi
      omega
    subst hin
    refine stop_of hA ⟨[(3, .c (.own 448 0 i 1))], [(448, 1, .arr 2 i fun j => eSrc (rd j))]⟩ (cov_of ?_ ?_ ?_) ?_
    · cbv
    · cbv
      exact ⟨fun q hq => congrArg (fun x => eSrc x) (hrm q hq), trivial⟩
    · cbv
    · cbv
      repeat' first | apply And.intro | refine br_of hA (fun _ => ?_) (fun _ => ?_)
      all_goals first | exact True.intro | with_reducible rfl | exact same_of hA rfl | skip
def st_eqSrcS (n : Nat) (rd : Nat → SrcT) (i : Nat) : St := ⟨[(5, .c (.d (eI i))), (0, .c (.d (.sl 2 n fun i => eSrc (rd i)))), (1, .c (.d (.sl 2 n fun i => eSrc (rd i))))], []⟩
set_option maxRecDepth 100000 in
theorem eq_SrcS (n : Nat) (hn : n ≤ maxLen) (rd : Nat → SrcT) : Meets Tryz.prog 83 [.c (.d (.sl 2 n fun i => eSrc (rd i))), .c (.d (.sl 2 n fun i => eSrc (rd i)))] ⟨.one (.c (.d (eB true))), [none, none]⟩ := by
  refine meets_of (H := []) (EX := EXA) ttok mixed Tryz.func83 rfl (by kernel_rfl) (by decide) ?_
  generalize hA : real = A
  generalize hM : Meets Tryz.prog = M
  cbv
  repeat' first
    | apply And.intro
    | exact True.intro
    | with_reducible rfl
    | exact same_of hA rfl
    | refine br_of hA (fun _ => ?_) (fun _ => ?_)
    | (refine ind_of hA ?_; decide +kernel)
    | (exfalso; rename_i h; subst hA; simp [real] at h; done)
  refine loop_of hA (α := { i : Nat // i ≤ n }) (fun x => st_eqSrcS n rd x.1) (fun x => n - x.1) ⟨0, Nat.zero_le _⟩ ?_ ?_
  · refine cov_of ?_ ?_ ?_
    · cbv; exact ⟨rfl, trivial⟩
    · cbv
    · cbv
  rintro ⟨i, hi⟩
  cbv
  repeat' first
    | apply And.intro
    | exact True.intro
    | with_reducible rfl
    | exact same_of hA rfl
    | refine br_of hA (fun _ => ?_) (fun _ => ?_)
    | (refine ind_of hA ?_; decide +kernel)
    | (refine call_of hA hM _ (eq_Src (rd (A.nat (Int.ofNat i)))) ?_; cbv)
    | (exfalso; rename_i h; subst hA; simp [real] at h; done)
    | (refine inb_of hA fun _ => ?_; subst hA; simp only [real, decide_eq_true_eq, Int.ofNat_eq_natCast] at *; omega)
  have hlt' : i < n := by
    subst hA
    simp only [real, decide_eq_true_eq, Int.ofNat_eq_natCast] at *
    omega
  refine ⟨⟨i + 1, by omega⟩, by simp only; omega, cov_of ?_ ?_ ?_⟩
  · cbv
    subst hA
    exact ⟨congrArg (fun x => DV.v (.int .i64 x)) (up64 hlt' hn), trivial⟩
  · cbv
  · cbv
set_option maxRecDepth 100000 in
theorem sz_SrcS (n : Nat) (hn : n ≤ maxLen) (rd : Nat → SrcT) (l : Int) (h0 : 0 ≤ l) (h1 : l ≤ 1048576) (y : Int) (hy : y = szN n l) : Meets Tryz.prog 64 [.c (.d (.sl 2 n fun i => eSrc (rd i))), .c (.d (eI l))] ⟨.one (.c (.d (eI y))), [none, none]⟩ := by
  have hm : maxLen = 9223372036854775807 := by decide
  have hw : IntKind.i64.wrap (l - (n : Int)) = l - n := IntWalk.i64_in _ (by omega)
  refine meets_of (H := []) (EX := EXA) ttok mixed Tryz.func64 rfl (by kernel_rfl) (by decide) ?_
  generalize hA : real = A
  generalize hM : Meets Tryz.prog = M
  cbv
  repeat' first
    | apply And.intro
    | exact True.intro
    | with_reducible rfl
    | exact same_of hA rfl
    | refine br_of hA (fun _ => ?_) (fun _ => ?_)
    | (refine ind_of hA ?_; decide +kernel)
  all_goals rename_i hlt
  all_goals subst hA
  · refine congrArg (fun x => XA.one (.c (.d (eI x)))) ?_
    have hlt : IntKind.i64.wrap (l - (n : Int)) < 0 := of_decide_eq_true hlt
    rw [hw] at hlt
    rw [hy]; unfold szN; rw [if_pos hlt]
  · refine congrArg (fun x => XA.one (.c (.d (eI x)))) ?_
    have hlt : ¬ IntKind.i64.wrap (l - (n : Int)) < 0 := of_decide_eq_false hlt
    rw [hw] at hlt
    rw [hy]; unfold szN; rw [if_neg hlt]
    exact hw
set_option maxRecDepth 100000 in
theorem to_Sink (x : SinkT) (hb : bdSink x) : Meets Tryz.prog 123 [xd (eSink x)] ⟨.one (xd (eSink x)), [none]⟩ := by
  refine meets_of (H := []) (EX := EXA) ttok mixed Tryz.func123 rfl (by kernel_rfl) (by decide) ?_
  generalize hA : real = A
  generalize hM : Meets Tryz.prog = M
  cbv
  repeat' first
    | apply And.intro
    | exact True.intro
    | with_reducible rfl
    | exact same_of hA rfl
    | refine br_of hA (fun _ => ?_) (fun _ => ?_)
    | (refine ind_of hA ?_; decide +kernel)
    | (refine call_of hA hM _ (meets_frz (to_TxnS x.ready.n hb.1 x.ready.g hb.2.1) rfl) ?_; cbv)
    | (refine call_of hA hM _ (meets_frz (to_PaneS x.panes.n hb.2.2.1 x.panes.g) rfl) ?_; cbv)
    | (refine call_of hA hM _ (meets_frz (to_LatS x.lates.n hb.2.2.2 x.lates.g) rfl) ?_; cbv)
set_option maxRecDepth 100000 in
theorem eq_Sink (x : SinkT) : Meets Tryz.prog 137 [xd (eSink x), xd (eSink x)] ⟨.one (.c (.d (eB true))), [none, none]⟩ := by
  refine meets_of (H := []) (EX := EXA) ttok mixed Tryz.func137 rfl (by kernel_rfl) (by decide) ?_
  generalize hA : real = A
  generalize hM : Meets Tryz.prog = M
  cbv
  repeat' first
    | apply And.intro
    | exact True.intro
    | with_reducible rfl
    | exact same_of hA rfl
    | refine br_of hA (fun _ => ?_) (fun _ => ?_)
    | (refine ind_of hA ?_; decide +kernel)
    | (refine call_of hA hM _ (eq_TxnS x.ready.n x.ready.hn x.ready.g) ?_; cbv)
    | (refine call_of hA hM _ (eq_PaneS x.panes.n x.panes.hn x.panes.g) ?_; cbv)
    | (refine call_of hA hM _ (eq_LatS x.lates.n x.lates.hn x.lates.g) ?_; cbv)
    | (exfalso; rename_i h; subst hA; simp [real] at h; done)
set_option maxRecDepth 100000 in
theorem sz_Sink (x : SinkT) (l0 : Int) (h0 : 0 ≤ l0) (h1 : l0 ≤ 1048576) (y : Int) (hy : y = szSink x l0) : Meets Tryz.prog 111 [xd (eSink x), .c (.d (eI l0))] ⟨.one (.c (.d (eI y))), [none, none]⟩ := by
  refine meets_of (H := []) (EX := EXA) ttok mixed Tryz.func111 rfl (by kernel_rfl) (by decide) ?_
  generalize hA : real = A
  generalize hM : Meets Tryz.prog = M
  cbv
  repeat' first
    | apply And.intro
    | exact True.intro
    | with_reducible rfl
    | exact same_of hA rfl
    | refine br_of hA (fun _ => ?_) (fun _ => ?_)
    | (refine ind_of hA ?_; decide +kernel)
  unfold szSink at hy
  obtain ⟨l1, e1⟩ : ∃ z : Int, z = szS (fun i l => szTxn (x.ready.g i) l) x.ready.n l0 := ⟨_, rfl⟩
  have s1 := (szS_spec (n := x.ready.n) (B := fun i => bdTxn (x.ready.g i)) (fun i _ l h0 h1 => by simpa using szTxn_spec (x.ready.g i) h0 h1) h0 h1)
  rw [← e1] at s1 hy
  refine call_of hA hM _ (sz_TxnS x.ready.n x.ready.hn x.ready.g l0 h0 h1 l1 e1) ?_
  cbv
  repeat' first
    | apply And.intro
    | exact True.intro
    | with_reducible rfl
    | exact same_of hA rfl
    | refine br_of hA (fun _ => ?_) (fun _ => ?_)
    | (refine ind_of hA ?_; decide +kernel)
  · rename_i hlt
    refine congrArg (fun x => XA.one (.c (.d (eI x)))) ?_
    subst hA
    have hlt : l1 < 0 := of_decide_eq_true hlt
    simp only [hlt, if_true] at hy; omega
  rename_i hge1
  have hge1 : ¬ l1 < 0 := by subst hA; exact of_decide_eq_false hge1
  simp only [hge1, if_false] at hy
  obtain ⟨l2, e2⟩ : ∃ z : Int, z = szN x.panes.n l1 := ⟨_, rfl⟩
  have s2 := szN_spec (n := x.panes.n) (by omega) s1.2.1
  rw [← e2] at s2 hy
  refine call_of hA hM _ (sz_PaneS x.panes.n x.panes.hn x.panes.g l1 (by omega) s1.2.1 l2 e2) ?_
  cbv
  repeat' first
    | apply And.intro
    | exact True.intro
    | with_reducible rfl
    | exact same_of hA rfl
    | refine br_of hA (fun _ => ?_) (fun _ => ?_)
    | (refine ind_of hA ?_; decide +kernel)
  · rename_i hlt
    refine congrArg (fun x => XA.one (.c (.d (eI x)))) ?_
    subst hA
    have hlt : l2 < 0 := of_decide_eq_true hlt
    simp only [hlt, if_true] at hy; omega
  rename_i hge2
  have hge2 : ¬ l2 < 0 := by subst hA; exact of_decide_eq_false hge2
  simp only [hge2, if_false] at hy
  obtain ⟨l3, e3⟩ : ∃ z : Int, z = szN x.lates.n l2 := ⟨_, rfl⟩
  have s3 := szN_spec (n := x.lates.n) (by omega) s2.2.1
  rw [← e3] at s3 hy
  refine call_of hA hM _ (sz_LatS x.lates.n x.lates.hn x.lates.g l2 (by omega) s2.2.1 l3 e3) ?_
  cbv
  repeat' first
    | apply And.intro
    | exact True.intro
    | with_reducible rfl
    | exact same_of hA rfl
    | refine br_of hA (fun _ => ?_) (fun _ => ?_)
    | (refine ind_of hA ?_; decide +kernel)
  · rename_i hlt
    refine congrArg (fun x => XA.one (.c (.d (eI x)))) ?_
    subst hA
    have hlt : l3 < 0 := of_decide_eq_true hlt
    omega
  rename_i hge3
  have hge3 : ¬ l3 < 0 := by subst hA; exact of_decide_eq_false hge3
  exact congrArg (fun x => XA.one (.c (.d (eI x)))) hy.symm
def st_toSinkS (n : Nat) (rd : Nat → SinkT) (i : Nat) (rm : Nat → Nat → DV) : St :=
  ⟨[(4, .c (.d (eI i))), (0, .c (.d (.sl 4 n fun i => eSink (rd i)))), (3, .c (.own 448 0 n 1))], [(448, 1, .arr 4 n fun i => [rm i 0, rm i 1, rm i 2, rm i 3])]⟩
set_option maxRecDepth 100000 in
theorem to_SinkS (n : Nat) (hn : n ≤ 1048576) (rd : Nat → SinkT) (hb : ∀ i, i < n → bdSink (rd i)) : Meets Tryz.prog 74 [.c (.d (.sl 4 n fun i => eSink (rd i)))] ⟨.one (.c (.own 4 n fun i => eSink (rd i))), [none]⟩ := by
  have hn2 : n ≤ maxLen := Nat.le_trans hn (by decide)
  refine meets_of (H := [6]) (EX := EXA) ttok mixed Tryz.func74 rfl (by kernel_rfl) (by decide) ?_
  generalize hA : real = A
  generalize hM : Meets Tryz.prog = M
  cbv
  repeat' first
    | apply And.intro
    | exact True.intro
    | with_reducible rfl
    | exact same_of hA rfl
    | refine br_of hA (fun _ => ?_) (fun _ => ?_)
    | (refine ind_of hA ?_; decide +kernel)
    | exact made_n hA hn (by decide)
  refine loop_of hA (α := { p : Nat × (Nat → Nat → DV) // p.1 ≤ n ∧ ∀ j, j < p.1 → [p.2 j 0, p.2 j 1, p.2 j 2, p.2 j 3] = eSink (rd j) }) (fun x => st_toSinkS n rd x.1.1 x.1.2) (fun x => n - x.1.1) ⟨(0, fun _ => fun c => [.v nilS, eI 0, .v nilS, .v nilS].getD c (.v nilS)), Nat.zero_le _, fun j h => absurd h (Nat.not_lt_zero _)⟩ ?_ ?_
  · refine cov_of ?_ ?_ ?_
    · cbv
      subst hA
      exact ⟨rfl, ⟨rfl, trivial⟩, trivial⟩
    · cbv
      subst hA
      exact ⟨⟨rfl, fun _ _ => rfl⟩, trivial⟩
    · cbv
  rintro ⟨⟨i, rm⟩, hi, hrm⟩
  cbv
  repeat' first
    | apply And.intro
    | exact True.intro
    | with_reducible rfl
    | exact same_of hA rfl
    | refine br_of hA (fun _ => ?_) (fun _ => ?_)
    | (refine ind_of hA ?_; decide +kernel)
    | (refine call_of hA hM _ (to_Sink (rd (A.nat (Int.ofNat i))) (hb _ (by rename_i hlt; subst hA; simp only [real, decide_eq_true_eq, Int.ofNat_eq_natCast, Int.toNat_natCast] at *; omega))) ?_; cbv)
    | (refine inb_of hA fun _ => ?_; subst hA; simp only [real, decide_eq_true_eq, Int.ofNat_eq_natCast] at *; omega)
  · rename_i hlt
    have hlt' : i < n := by subst hA; simp only [real, decide_eq_true_eq, Int.ofNat_eq_natCast] at hlt; omega
    refine ⟨⟨(i + 1, fun j => if j = i then fun c => (eSink (rd i)).getD c (.v nilS) else rm j), by simp only; omega, fun j hj => ?_⟩, by simp only; omega, cov_of ?_ ?_ ?_⟩
    · simp only at hj ⊢
      by_cases e : j = i
      · subst e; simp only [if_true]; rfl
      · simp only [if_neg e]; exact hrm j (by simp only; omega)
    · cbv
      subst hA
      exact ⟨congrArg (fun x => DV.v (.int .i64 x)) (up64 hlt' hn2), trivial⟩
    · cbv
      refine ⟨fun q _ => ?_, trivial⟩
      subst hA
      by_cases e : q = i
      · subst e; show (if q = 0 + q then eSink (rd q) else [rm q 0, rm q 1, rm q 2, rm q 3]) = _; simp only [Nat.zero_add, if_pos, if_true] <;> rfl
      · show (if q = 0 + i then eSink (rd i) else [rm q 0, rm q 1, rm q 2, rm q 3]) = _; simp only [Nat.zero_add, e, if_false] <;> rfl
    · cbv
  · rename_i hge
    have hin : i = n := by
      subst hA
      have : ¬ ((i : Int) < (n : Int)) := of_decide_eq_false hge
      simp only at hi
      omega
    subst hin
    refine stop_of hA ⟨[(3, .c (.own 448 0 i 1))], [(448, 1, .arr 4 i fun j => eSink (rd j))]⟩ (cov_of ?_ ?_ ?_) ?_
    · cbv
    · cbv
      exact ⟨fun q hq => hrm q hq, trivial⟩
    · cbv
    · cbv
      repeat' first | apply And.intro | refine br_of hA (fun _ => ?_) (fun _ => ?_)
      all_goals first | exact True.intro | with_reducible rfl | exact same_of hA rfl | skip
def st_eqSinkS (n : Nat) (rd : Nat → SinkT) (i : Nat) : St := ⟨[(5, .c (.d (eI i))), (0, .c (.d (.sl 4 n fun i => eSink (rd i)))), (1, .c (.d (.sl 4 n fun i => eSink (rd i))))], []⟩
set_option maxRecDepth 100000 in
theorem eq_SinkS (n : Nat) (hn : n ≤ maxLen) (rd : Nat → SinkT) : Meets Tryz.prog 85 [.c (.d (.sl 4 n fun i => eSink (rd i))), .c (.d (.sl 4 n fun i => eSink (rd i)))] ⟨.one (.c (.d (eB true))), [none, none]⟩ := by
  refine meets_of (H := []) (EX := EXA) ttok mixed Tryz.func85 rfl (by kernel_rfl) (by decide) ?_
  generalize hA : real = A
  generalize hM : Meets Tryz.prog = M
  cbv
  repeat' first
    | apply And.intro
    | exact True.intro
    | with_reducible rfl
    | exact same_of hA rfl
    | refine br_of hA (fun _ => ?_) (fun _ => ?_)
    | (refine ind_of hA ?_; decide +kernel)
    | (exfalso; rename_i h; subst hA; simp [real] at h; done)
  refine loop_of hA (α := { i : Nat // i ≤ n }) (fun x => st_eqSinkS n rd x.1) (fun x => n - x.1) ⟨0, Nat.zero_le _⟩ ?_ ?_
  · refine cov_of ?_ ?_ ?_
    · cbv; exact ⟨rfl, trivial⟩
    · cbv
    · cbv
  rintro ⟨i, hi⟩
  cbv
  repeat' first
    | apply And.intro
    | exact True.intro
    | with_reducible rfl
    | exact same_of hA rfl
    | refine br_of hA (fun _ => ?_) (fun _ => ?_)
    | (refine ind_of hA ?_; decide +kernel)
    | (refine call_of hA hM _ (eq_Sink (rd (A.nat (Int.ofNat i)))) ?_; cbv)
    | (exfalso; rename_i h; subst hA; simp [real] at h; done)
    | (refine inb_of hA fun _ => ?_; subst hA; simp only [real, decide_eq_true_eq, Int.ofNat_eq_natCast] at *; omega)
  have hlt' : i < n := by
    subst hA
    simp only [real, decide_eq_true_eq, Int.ofNat_eq_natCast] at *
    omega
  refine ⟨⟨i + 1, by omega⟩, by simp only; omega, cov_of ?_ ?_ ?_⟩
  · cbv
    subst hA
    exact ⟨congrArg (fun x => DV.v (.int .i64 x)) (up64 hlt' hn), trivial⟩
  · cbv
  · cbv
def st_szSinkS (n : Nat) (rd : Nat → SinkT) (i : Nat) (v : Int) : St := ⟨[(5, .c (.d (eI i))), (0, .c (.d (.sl 4 n fun i => eSink (rd i)))), (1, .c (.d (eI v)))], []⟩
set_option maxRecDepth 100000 in
theorem sz_SinkS (n : Nat) (hn : n ≤ maxLen) (rd : Nat → SinkT) (l : Int) (h0 : 0 ≤ l) (h1 : l ≤ 1048576) (y : Int) (hy : y = szS (fun i l => szSink (rd i) l) n l) : Meets Tryz.prog 66 [.c (.d (.sl 4 n fun i => eSink (rd i))), .c (.d (eI l))] ⟨.one (.c (.d (eI y))), [none, none]⟩ := by
  have hm : maxLen = 9223372036854775807 := by decide
  have hw : IntKind.i64.wrap (l - (n : Int)) = l - n := IntWalk.i64_in _ (by omega)
  refine meets_of (H := []) (EX := EXA) ttok mixed Tryz.func66 rfl (by kernel_rfl) (by decide) ?_
  generalize hA : real = A
  generalize hM : Meets Tryz.prog = M
  cbv
  repeat' first
    | apply And.intro
    | exact True.intro
    | with_reducible rfl
    | exact same_of hA rfl
    | refine br_of hA (fun _ => ?_) (fun _ => ?_)
    | (refine ind_of hA ?_; decide +kernel)
  · rename_i hlt
    refine congrArg (fun x => XA.one (.c (.d (eI x)))) ?_
    subst hA
    have hlt : IntKind.i64.wrap (l - (n : Int)) < 0 := of_decide_eq_true hlt
    rw [hw] at hlt
    rw [hy]; unfold szS szN; simp [hlt]
  rename_i hge
  have hge' : ¬ l - (n : Int) < 0 := by
    subst hA
    have h : ¬ IntKind.i64.wrap (l - (n : Int)) < 0 := of_decide_eq_false hge
    rw [hw] at h; exact h
  have hN : szN n l = l - n := if_neg hge'
  have hy' : y = szLoop (fun i l => szSink (rd i) l) (l - n) n := by rw [hy]; unfold szS; rw [hN, if_neg hge']
  have hs := szLoop_spec (f := (fun i l => szSink (rd i) l)) (B := fun i => bdSink (rd i)) (n := n) (fun i _ l h0 h1 => by simpa using szSink_spec (rd i) h0 h1) (l := l - n) (by omega) (by omega)
  have hs1 : ∀ k, k ≤ n → -1 ≤ szLoop (fun i l => szSink (rd i) l) (l - n) k := fun k hk => (hs k hk).1
  refine loop_of hA (α := { p : Nat × Int // p.1 ≤ n ∧ p.2 = szLoop (fun i l => szSink (rd i) l) (l - n) p.1 ∧ 0 ≤ p.2 }) (fun x => st_szSinkS n rd x.1.1 x.1.2) (fun x => n - x.1.1) ⟨(0, l - n), Nat.zero_le _, rfl, by simp only; omega⟩ ?_ ?_
  · refine cov_of ?_ ?_ ?_
    · cbv; subst hA; exact ⟨rfl, congrArg (fun x => DV.v (.int .i64 x)) hw, trivial⟩
    · cbv
    · cbv
  rintro ⟨⟨i, v⟩, hi, hv, hv0⟩
  have hv1 : v ≤ 1048576 := by have := (hs i hi).2.1; simp only at hv; omega
  obtain ⟨z, hz⟩ : ∃ z : Int, z = szSink (rd (A.nat (Int.ofNat i))) v := ⟨_, rfl⟩
  have hc := sz_Sink (rd (A.nat (Int.ofNat i))) v hv0 hv1 z hz
  cbv
  repeat' first
    | apply And.intro
    | exact True.intro
    | with_reducible rfl
    | exact same_of hA rfl
    | refine br_of hA (fun _ => ?_) (fun _ => ?_)
    | (refine ind_of hA ?_; decide +kernel)
    | (refine call_of hA hM _ hc ?_; cbv)
    | (refine inb_of hA fun _ => ?_; subst hA; simp only [real, decide_eq_true_eq, Int.ofNat_eq_natCast] at *; omega)
  · rename_i hlt hz0
    refine congrArg (fun x => XA.one (.c (.d (eI x)))) ?_
    subst hA
    simp only [real, decide_eq_true_eq, Int.ofNat_eq_natCast, Int.toNat_natCast] at *
    have e1 : szLoop (fun i l => szSink (rd i) l) (l - n) (i + 1) = z := by unfold szLoop; rw [← hv, if_neg (by omega)]; exact hz.symm
    have e2 := szLoop_neg hs1 (k := i + 1) (by rw [e1]; exact hz0) (n - (i + 1)) (by omega)
    rw [Nat.add_sub_cancel' (by omega)] at e2
    rw [hy', e2]
  · rename_i hlt hz0
    have hz0 : ¬ z < 0 := by subst hA; exact of_decide_eq_false hz0
    have hlt' : i < n := by subst hA; simp only [real, decide_eq_true_eq, Int.ofNat_eq_natCast] at hlt; omega
    have e1 : szLoop (fun i l => szSink (rd i) l) (l - n) (i + 1) = z := by
      subst hA
      simp only at hv
      unfold szLoop; rw [← hv, if_neg (by omega)]; exact hz.symm
    refine ⟨⟨(i + 1, z), by simp only; omega, e1.symm, by simp only; omega⟩, by simp only; omega, cov_of ?_ ?_ ?_⟩
    · cbv
      subst hA
      exact ⟨congrArg (fun x => DV.v (.int .i64 x)) (up64 hlt' hn), trivial⟩
    · cbv
    · cbv
  · rename_i hge2
    refine congrArg (fun x => XA.one (.c (.d (eI x)))) ?_
    have : i = n := by
      subst hA
      have : ¬ ((i : Int) < (n : Int)) := of_decide_eq_false hge2
      simp only at hi
      omega
    subst this
    simp only at hv
    omega
def st_toItmSS (n : Nat) (rd : Nat → Sl ItmT) (i : Nat) (rm : Nat → Nat → DV) : St :=
  ⟨[(4, .c (.d (eI i))), (0, .c (.d (.sl 1 n fun i => [.sl 5 (rd i).n fun k => eItm ((rd i).g k)]))), (3, .c (.own 448 0 n 1))], [(448, 1, .arr 1 n fun i => [rm i 0])]⟩
set_option maxRecDepth 100000 in
theorem to_ItmSS (n : Nat) (hn : n ≤ 1048576) (rd : Nat → Sl ItmT) (hb : ∀ i, i < n → (rd i).n ≤ 1048576) : Meets Tryz.prog 71 [.c (.d (.sl 1 n fun i => [.sl 5 (rd i).n fun k => eItm ((rd i).g k)]))] ⟨.one (.c (.own 1 n fun i => [.sl 5 (rd i).n fun k => eItm ((rd i).g k)])), [none]⟩ := by
  have hn2 : n ≤ maxLen := Nat.le_trans hn (by decide)
  refine meets_of (H := [6]) (EX := EXA) ttok mixed Tryz.func71 rfl (by kernel_rfl) (by decide) ?_
  generalize hA : real = A
  generalize hM : Meets Tryz.prog = M
  cbv
  repeat' first
    | apply And.intro
    | exact True.intro
    | with_reducible rfl
    | exact same_of hA rfl
    | refine br_of hA (fun _ => ?_) (fun _ => ?_)
    | (refine ind_of hA ?_; decide +kernel)
    | exact made_n hA hn (by decide)
  refine loop_of hA (α := { p : Nat × (Nat → Nat → DV) // p.1 ≤ n ∧ ∀ j, j < p.1 → [p.2 j 0] = [.sl 5 (rd j).n fun i => eItm ((rd j).g i)] }) (fun x => st_toItmSS n rd x.1.1 x.1.2) (fun x => n - x.1.1) ⟨(0, fun _ => fun c => [.v nilS].getD c (.v nilS)), Nat.zero_le _, fun j h => absurd h (Nat.not_lt_zero _)⟩ ?_ ?_
  · refine cov_of ?_ ?_ ?_
    · cbv
      subst hA
      exact ⟨rfl, ⟨rfl, trivial⟩, trivial⟩
    · cbv
      subst hA
      exact ⟨⟨rfl, fun _ _ => rfl⟩, trivial⟩
    · cbv
  rintro ⟨⟨i, rm⟩, hi, hrm⟩
  cbv
  repeat' first
    | apply And.intro
    | exact True.intro
    | with_reducible rfl
    | exact same_of hA rfl
    | refine br_of hA (fun _ => ?_) (fun _ => ?_)
    | (refine ind_of hA ?_; decide +kernel)
    | (refine call_of hA hM _ (meets_frz (to_ItmS (rd (A.nat (Int.ofNat i))).n (hb _ (by rename_i hlt; subst hA; simp only [real, decide_eq_true_eq, Int.ofNat_eq_natCast, Int.toNat_natCast] at *; omega)) (rd (A.nat (Int.ofNat i))).g) rfl) ?_; cbv)
    | (refine inb_of hA fun _ => ?_; subst hA; simp only [real, decide_eq_true_eq, Int.ofNat_eq_natCast] at *; omega)
  · rename_i hlt
    have hlt' : i < n := by subst hA; simp only [real, decide_eq_true_eq, Int.ofNat_eq_natCast] at hlt; omega
    refine ⟨⟨(i + 1, fun j => if j = i then fun c => ([.sl 5 (rd i).n fun k => eItm ((rd i).g k)]).getD c (.v nilS) else rm j), by simp only; omega, fun j hj => ?_⟩, by simp only; omega, cov_of ?_ ?_ ?_⟩
    · simp only at hj ⊢
      by_cases e : j = i
      · subst e; simp only [if_true]; rfl
      · simp only [if_neg e]; exact hrm j (by simp only; omega)
    · cbv
      subst hA
      exact ⟨congrArg (fun x => DV.v (.int .i64 x)) (up64 hlt' hn2), trivial⟩
    · cbv
      refine ⟨fun q _ => ?_, trivial⟩
      subst hA
      by_cases e : q = i
      · subst e; show (if q = 0 + q then [.sl 5 (rd q).n fun i => eItm ((rd q).g i)] else [rm q 0]) = _; simp only [Nat.zero_add, if_pos, if_true] <;> rfl
      · show (if q = 0 + i then [.sl 5 (rd i).n fun k => eItm ((rd i).g k)] else [rm q 0]) = _; simp only [Nat.zero_add, e, if_false] <;> rfl
    · cbv
  · rename_i hge
    have hin : i = n := by
      subst hA
      have : ¬ ((i : Int) < (n : Int)) := of_decide_eq_false hge
      simp only at hi
      omega
    subst hin
    refine stop_of hA ⟨[(3, .c (.own 448 0 i 1))], [(448, 1, .arr 1 i fun j => [.sl 5 (rd j).n fun i => eItm ((rd j).g i)])]⟩ (cov_of ?_ ?_ ?_) ?_
    · cbv
    · cbv
      exact ⟨fun q hq => hrm q hq, trivial⟩
    · cbv
    · cbv
      repeat' first | apply And.intro | refine br_of hA (fun _ => ?_) (fun _ => ?_)
      all_goals first | exact True.intro | with_reducible rfl | exact same_of hA rfl | skip
def st_eqItmSS (n : Nat) (rd : Nat → Sl ItmT) (i : Nat) : St := ⟨[(5, .c (.d (eI i))), (0, .c (.d (.sl 1 n fun i => [.sl 5 (rd i).n fun k => eItm ((rd i).g k)]))), (1, .c (.d (.sl 1 n fun i => [.sl 5 (rd i).n fun k => eItm ((rd i).g k)])))], []⟩
set_option maxRecDepth 100000 in
theorem eq_ItmSS (n : Nat) (hn : n ≤ maxLen) (rd : Nat → Sl ItmT) : Meets Tryz.prog 82 [.c (.d (.sl 1 n fun i => [.sl 5 (rd i).n fun k => eItm ((rd i).g k)])), .c (.d (.sl 1 n fun i => [.sl 5 (rd i).n fun k => eItm ((rd i).g k)]))] ⟨.one (.c (.d (eB true))), [none, none]⟩ := by
  refine meets_of (H := []) (EX := EXA) ttok mixed Tryz.func82 rfl (by kernel_rfl) (by decide) ?_
  generalize hA : real = A
  generalize hM : Meets Tryz.prog = M
  cbv
  repeat' first
    | apply And.intro
    | exact True.intro
    | with_reducible rfl
    | exact same_of hA rfl
    | refine br_of hA (fun _ => ?_) (fun _ => ?_)
    | (refine ind_of hA ?_; decide +kernel)
    | (exfalso; rename_i h; subst hA; simp [real] at h; done)
  refine loop_of hA (α := { i : Nat // i ≤ n }) (fun x => st_eqItmSS n rd x.1) (fun x => n - x.1) ⟨0, Nat.zero_le _⟩ ?_ ?_
  · refine cov_of ?_ ?_ ?_
    · cbv; exact ⟨rfl, trivial⟩
    · cbv
    · cbv
  rintro ⟨i, hi⟩
  cbv
  repeat' first
    | apply And.intro
    | exact True.intro
    | with_reducible rfl
    | exact same_of hA rfl
    | refine br_of hA (fun _ => ?_) (fun _ => ?_)
    | (refine ind_of hA ?_; decide +kernel)
    | (refine call_of hA hM _ (eq_ItmS (rd (A.nat (Int.ofNat i))).n (rd (A.nat (Int.ofNat i))).hn (rd (A.nat (Int.ofNat i))).g) ?_; cbv)
    | (exfalso; rename_i h; subst hA; simp [real] at h; done)
    | (refine inb_of hA fun _ => ?_; subst hA; simp only [real, decide_eq_true_eq, Int.ofNat_eq_natCast] at *; omega)
  have hlt' : i < n := by
    subst hA
    simp only [real, decide_eq_true_eq, Int.ofNat_eq_natCast] at *
    omega
  refine ⟨⟨i + 1, by omega⟩, by simp only; omega, cov_of ?_ ?_ ?_⟩
  · cbv
    subst hA
    exact ⟨congrArg (fun x => DV.v (.int .i64 x)) (up64 hlt' hn), trivial⟩
  · cbv
  · cbv
def st_szItmSS (n : Nat) (rd : Nat → Sl ItmT) (i : Nat) (v : Int) : St := ⟨[(5, .c (.d (eI i))), (0, .c (.d (.sl 1 n fun i => [.sl 5 (rd i).n fun k => eItm ((rd i).g k)]))), (1, .c (.d (eI v)))], []⟩
set_option maxRecDepth 100000 in
theorem sz_ItmSS (n : Nat) (hn : n ≤ maxLen) (rd : Nat → Sl ItmT) (l : Int) (h0 : 0 ≤ l) (h1 : l ≤ 1048576) (y : Int) (hy : y = szS (fun i l => szN (rd i).n l) n l) : Meets Tryz.prog 63 [.c (.d (.sl 1 n fun i => [.sl 5 (rd i).n fun k => eItm ((rd i).g k)])), .c (.d (eI l))] ⟨.one (.c (.d (eI y))), [none, none]⟩ := by
  have hm : maxLen = 9223372036854775807 := by decide
  have hw : IntKind.i64.wrap (l - (n : Int)) = l - n := IntWalk.i64_in _ (by omega)
  refine meets_of (H := []) (EX := EXA) ttok mixed Tryz.func63 rfl (by kernel_rfl) (by decide) ?_
  generalize hA : real = A
  generalize hM : Meets Tryz.prog = M
  cbv
  repeat' first
    | apply And.intro
    | exact True.intro
    | with_reducible rfl
    | exact same_of hA rfl
    | refine br_of hA (fun _ => ?_) (fun _ => ?_)
    | (refine ind_of hA ?_; decide +kernel)
  · rename_i hlt
    refine congrArg (fun x => XA.one (.c (.d (eI x)))) ?_
    subst hA
    have hlt : IntKind.i64.wrap (l - (n : Int)) < 0 := of_decide_eq_true hlt
    rw [hw] at hlt
    rw [hy]; unfold szS szN; simp [hlt]
  rename_i hge
  have hge' : ¬ l - (n : Int) < 0 := by
    subst hA
    have h : ¬ IntKind.i64.wrap (l - (n : Int)) < 0 := of_decide_eq_false hge
    rw [hw] at h; exact h
  have hN : szN n l = l - n := if_neg hge'
  have hy' : y = szLoop (fun i l => szN (rd i).n l) (l - n) n := by rw [hy]; unfold szS; rw [hN, if_neg hge']
  have hs := szLoop_spec (f := (fun i l => szN (rd i).n l)) (B := fun i => (rd i).n ≤ 1048576) (n := n) (fun i _ l h0 h1 => by simpa using szN_spec (n := (rd i).n) h0 h1) (l := l - n) (by omega) (by omega)
  have hs1 : ∀ k, k ≤ n → -1 ≤ szLoop (fun i l => szN (rd i).n l) (l - n) k := fun k hk => (hs k hk).1
  refine loop_of hA (α := { p : Nat × Int // p.1 ≤ n ∧ p.2 = szLoop (fun i l => szN (rd i).n l) (l - n) p.1 ∧ 0 ≤ p.2 }) (fun x => st_szItmSS n rd x.1.1 x.1.2) (fun x => n - x.1.1) ⟨(0, l - n), Nat.zero_le _, rfl, by simp only; omega⟩ ?_ ?_
  · refine cov_of ?_ ?_ ?_
    · cbv; subst hA; exact ⟨rfl, congrArg (fun x => DV.v (.int .i64 x)) hw, trivial⟩
    · cbv
    · cbv
  rintro ⟨⟨i, v⟩, hi, hv, hv0⟩
  have hv1 : v ≤ 1048576 := by have := (hs i hi).2.1; simp only at hv; omega
  obtain ⟨z, hz⟩ : ∃ z : Int, z = szN (rd (A.nat (Int.ofNat i))).n v := ⟨_, rfl⟩
  have hc := sz_ItmS (rd (A.nat (Int.ofNat i))).n (rd (A.nat (Int.ofNat i))).hn (rd (A.nat (Int.ofNat i))).g v hv0 hv1 z hz
  cbv
  repeat' first
    | apply And.intro
    | exact True.intro
    | with_reducible rfl
    | exact same_of hA rfl
    | refine br_of hA (fun _ => ?_) (fun _ => ?_)
    | (refine ind_of hA ?_; decide +kernel)
    | (refine call_of hA hM _ hc ?_; cbv)
    | (refine inb_of hA fun _ => ?_; subst hA; simp only [real, decide_eq_true_eq, Int.ofNat_eq_natCast] at *; omega)
  · rename_i hlt hz0
    refine congrArg (fun x => XA.one (.c (.d (eI x)))) ?_
    subst hA
    simp only [real, decide_eq_true_eq, Int.ofNat_eq_natCast, Int.toNat_natCast] at *
    have e1 : szLoop (fun i l => szN (rd i).n l) (l - n) (i + 1) = z := by unfold szLoop; rw [← hv, if_neg (by omega)]; exact hz.symm
    have e2 := szLoop_neg hs1 (k := i + 1) (by rw [e1]; exact hz0) (n - (i + 1)) (by omega)
    rw [Nat.add_sub_cancel' (by omega)] at e2
    rw [hy', e2]
  · rename_i hlt hz0
    have hz0 : ¬ z < 0 := by subst hA; exact of_decide_eq_false hz0
    have hlt' : i < n := by subst hA; simp only [real, decide_eq_true_eq, Int.ofNat_eq_natCast] at hlt; omega
    have e1 : szLoop (fun i l => szN (rd i).n l) (l - n) (i + 1) = z := by
      subst hA
      simp only at hv
      unfold szLoop; rw [← hv, if_neg (by omega)]; exact hz.symm
    refine ⟨⟨(i + 1, z), by simp only; omega, e1.symm, by simp only; omega⟩, by simp only; omega, cov_of ?_ ?_ ?_⟩
    · cbv
      subst hA
      exact ⟨congrArg (fun x => DV.v (.int .i64 x)) (up64 hlt' hn), trivial⟩
    · cbv
    · cbv
  · rename_i hge2
    refine congrArg (fun x => XA.one (.c (.d (eI x)))) ?_
    have : i = n := by
      subst hA
      have : ¬ ((i : Int) < (n : Int)) := of_decide_eq_false hge2
      simp only at hi
      omega
    subst this
    simp only at hv
    omega
set_option maxRecDepth 100000 in
theorem to_Flo (x : FloT) (hb : bdFlo x) : Meets Tryz.prog 23 [xd (eFlo x)] ⟨.one (xd (eFlo x)), [none]⟩ := by
  refine meets_of (H := []) (EX := EXA) ttok mixed Tryz.func23 rfl (by kernel_rfl) (by decide) ?_
  generalize hA : real = A
  generalize hM : Meets Tryz.prog = M
  cbv
  repeat' first
    | apply And.intro
    | exact True.intro
    | with_reducible rfl
    | exact same_of hA rfl
    | refine br_of hA (fun _ => ?_) (fun _ => ?_)
    | (refine ind_of hA ?_; decide +kernel)
    | (refine call_of hA hM _ (to_Job x.job) ?_; cbv)
    | (refine call_of hA hM _ (meets_frz (to_ItmSS x.logs.n hb.1 x.logs.g hb.2.1) rfl) ?_; cbv)
    | (refine call_of hA hM _ (meets_frz (to_SrcS x.srcs.n hb.2.2.1 x.srcs.g) rfl) ?_; cbv)
    | (refine call_of hA hM _ (meets_frz (to_TskS x.tasks.n hb.2.2.2.1 x.tasks.g hb.2.2.2.2.1) rfl) ?_; cbv)
    | (refine call_of hA hM _ (meets_frz (to_SinkS x.sinks.n hb.2.2.2.2.2.1 x.sinks.g hb.2.2.2.2.2.2.1) rfl) ?_; cbv)
    | (refine call_of hA hM _ (to_Ckp x.ckp hb.2.2.2.2.2.2.2) ?_; cbv)
set_option maxRecDepth 100000 in
theorem eq_Flo (x : FloT) : Meets Tryz.prog 25 [xd (eFlo x), xd (eFlo x)] ⟨.one (.c (.d (eB true))), [none, none]⟩ := by
  refine meets_of (H := []) (EX := EXA) ttok mixed Tryz.func25 rfl (by kernel_rfl) (by decide) ?_
  generalize hA : real = A
  generalize hM : Meets Tryz.prog = M
  cbv
  repeat' first
    | apply And.intro
    | exact True.intro
    | with_reducible rfl
    | exact same_of hA rfl
    | refine br_of hA (fun _ => ?_) (fun _ => ?_)
    | (refine ind_of hA ?_; decide +kernel)
    | (refine call_of hA hM _ (eq_Job x.job) ?_; cbv)
    | (refine call_of hA hM _ (eq_ItmSS x.logs.n x.logs.hn x.logs.g) ?_; cbv)
    | (refine call_of hA hM _ (eq_SrcS x.srcs.n x.srcs.hn x.srcs.g) ?_; cbv)
    | (refine call_of hA hM _ (eq_TskS x.tasks.n x.tasks.hn x.tasks.g) ?_; cbv)
    | (refine call_of hA hM _ (eq_SinkS x.sinks.n x.sinks.hn x.sinks.g) ?_; cbv)
    | (refine call_of hA hM _ (eq_Ckp x.ckp) ?_; cbv)
    | (exfalso; rename_i h; subst hA; simp [real] at h; done)
set_option maxRecDepth 100000 in
theorem sz_Flo (x : FloT) (l0 : Int) (h0 : 0 ≤ l0) (h1 : l0 ≤ 1048576) (y : Int) (hy : y = szFlo x l0) : Meets Tryz.prog 21 [xd (eFlo x), .c (.d (eI l0))] ⟨.one (.c (.d (eI y))), [none, none]⟩ := by
  refine meets_of (H := []) (EX := EXA) ttok mixed Tryz.func21 rfl (by kernel_rfl) (by decide) ?_
  generalize hA : real = A
  generalize hM : Meets Tryz.prog = M
  cbv
  repeat' first
    | apply And.intro
    | exact True.intro
    | with_reducible rfl
    | exact same_of hA rfl
    | refine br_of hA (fun _ => ?_) (fun _ => ?_)
    | (refine ind_of hA ?_; decide +kernel)
  unfold szFlo at hy
  obtain ⟨l1, e1⟩ : ∃ z : Int, z = szS (fun i l => szN (x.logs.g i).n l) x.logs.n l0 := ⟨_, rfl⟩
  have s1 := (szS_spec (n := x.logs.n) (B := fun i => (x.logs.g i).n ≤ 1048576) (fun i _ l h0 h1 => by simpa using szN_spec (n := (x.logs.g i).n) h0 h1) h0 h1)
  rw [← e1] at s1 hy
  refine call_of hA hM _ (sz_ItmSS x.logs.n x.logs.hn x.logs.g l0 h0 h1 l1 e1) ?_
  cbv
  repeat' first
    | apply And.intro
    | exact True.intro
    | with_reducible rfl
    | exact same_of hA rfl
    | refine br_of hA (fun _ => ?_) (fun _ => ?_)
    | (refine ind_of hA ?_; decide +kernel)
  · rename_i hlt
    refine congrArg (fun x => XA.one (.c (.d (eI x)))) ?_
    subst hA
    have hlt : l1 < 0 := of_decide_eq_true hlt
    simp only [hlt, if_true] at hy; omega
  rename_i hge1
  have hge1 : ¬ l1 < 0 := by subst hA; exact of_decide_eq_false hge1
  simp only [hge1, if_false] at hy
  obtain ⟨l2, e2⟩ : ∃ z : Int, z = szN x.srcs.n l1 := ⟨_, rfl⟩
  have s2 := szN_spec (n := x.srcs.n) (by omega) s1.2.1
  rw [← e2] at s2 hy
  refine call_of hA hM _ (sz_SrcS x.srcs.n x.srcs.hn x.srcs.g l1 (by omega) s1.2.1 l2 e2) ?_
  cbv
  repeat' first
    | apply And.intro
    | exact True.intro
    | with_reducible rfl
    | exact same_of hA rfl
    | refine br_of hA (fun _ => ?_) (fun _ => ?_)
    | (refine ind_of hA ?_; decide +kernel)
  · rename_i hlt
    refine congrArg (fun x => XA.one (.c (.d (eI x)))) ?_
    subst hA
    have hlt : l2 < 0 := of_decide_eq_true hlt
    simp only [hlt, if_true] at hy; omega
  rename_i hge2
  have hge2 : ¬ l2 < 0 := by subst hA; exact of_decide_eq_false hge2
  simp only [hge2, if_false] at hy
  obtain ⟨l3, e3⟩ : ∃ z : Int, z = szS (fun i l => szTsk (x.tasks.g i) l) x.tasks.n l2 := ⟨_, rfl⟩
  have s3 := (szS_spec (n := x.tasks.n) (B := fun i => bdTsk (x.tasks.g i)) (fun i _ l h0 h1 => by simpa using szTsk_spec (x.tasks.g i) h0 h1) (by omega) s2.2.1)
  rw [← e3] at s3 hy
  refine call_of hA hM _ (sz_TskS x.tasks.n x.tasks.hn x.tasks.g l2 (by omega) s2.2.1 l3 e3) ?_
  cbv
  repeat' first
    | apply And.intro
    | exact True.intro
    | with_reducible rfl
    | exact same_of hA rfl
    | refine br_of hA (fun _ => ?_) (fun _ => ?_)
    | (refine ind_of hA ?_; decide +kernel)
  · rename_i hlt
    refine congrArg (fun x => XA.one (.c (.d (eI x)))) ?_
    subst hA
    have hlt : l3 < 0 := of_decide_eq_true hlt
    simp only [hlt, if_true] at hy; omega
  rename_i hge3
  have hge3 : ¬ l3 < 0 := by subst hA; exact of_decide_eq_false hge3
  simp only [hge3, if_false] at hy
  obtain ⟨l4, e4⟩ : ∃ z : Int, z = szS (fun i l => szSink (x.sinks.g i) l) x.sinks.n l3 := ⟨_, rfl⟩
  have s4 := (szS_spec (n := x.sinks.n) (B := fun i => bdSink (x.sinks.g i)) (fun i _ l h0 h1 => by simpa using szSink_spec (x.sinks.g i) h0 h1) (by omega) s3.2.1)
  rw [← e4] at s4 hy
  refine call_of hA hM _ (sz_SinkS x.sinks.n x.sinks.hn x.sinks.g l3 (by omega) s3.2.1 l4 e4) ?_
  cbv
  repeat' first
    | apply And.intro
    | exact True.intro
    | with_reducible rfl
    | exact same_of hA rfl
    | refine br_of hA (fun _ => ?_) (fun _ => ?_)
    | (refine ind_of hA ?_; decide +kernel)
  · rename_i hlt
    refine congrArg (fun x => XA.one (.c (.d (eI x)))) ?_
    subst hA
    have hlt : l4 < 0 := of_decide_eq_true hlt
    simp only [hlt, if_true] at hy; omega
  rename_i hge4
  have hge4 : ¬ l4 < 0 := by subst hA; exact of_decide_eq_false hge4
  simp only [hge4, if_false] at hy
  obtain ⟨l5, e5⟩ : ∃ z : Int, z = szCkp x.ckp l4 := ⟨_, rfl⟩
  have s5 := szCkp_spec x.ckp (by omega) s4.2.1
  rw [← e5] at s5 hy
  refine call_of hA hM _ (sz_Ckp x.ckp l4 (by omega) s4.2.1 l5 e5) ?_
  cbv
  repeat' first
    | apply And.intro
    | exact True.intro
    | with_reducible rfl
    | exact same_of hA rfl
    | refine br_of hA (fun _ => ?_) (fun _ => ?_)
    | (refine ind_of hA ?_; decide +kernel)
  · rename_i hlt
    refine congrArg (fun x => XA.one (.c (.d (eI x)))) ?_
    subst hA
    have hlt : l5 < 0 := of_decide_eq_true hlt
    omega
  rename_i hge5
  have hge5 : ¬ l5 < 0 := by subst hA; exact of_decide_eq_false hge5
  exact congrArg (fun x => XA.one (.c (.d (eI x)))) hy.symm
end Go.Rk
