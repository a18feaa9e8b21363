/- A part of the walk over this seat's functions: what each answers, at all data. -/
import Derived.Test.YtbkpfnddpnccmaaRA3
namespace Go.Rk
open Go.Proofs
theorem made_of {A : Ar} (hA : real = A) {n c : Int} {b : Nat} (h : 0 ≤ n ∧ n = c ∧ n * b ≤ 140737488355328 ∧ n ≤ 140737488355328) : A.made n c b := by subst hA; exact h
def st66 (n : Nat) (rd : Nat → RowT) (i : Nat) (rm : Nat → RowT) : St :=
  ⟨[(4, .c (.d (eI i))), (0, .c (.d (.sl 13 n fun i => eRow (rd i)))), (3, .c (.own 448 0 n 1))], [(448, 1, .arr 13 n fun i => eRow (rm i))]⟩
set_option maxRecDepth 100000 in
theorem m66 (n : Nat) (hn : n ≤ 1048576) (rd : Nat → RowT) : Meets Try.prog 66 [.c (.d (.sl 13 n fun i => eRow (rd i)))] ⟨.one (.c (.own 13 n fun i => eRow (rd i))), [none]⟩ := by
  have hn' : n ≤ maxLen := Nat.le_trans hn (by decide)
  refine meets_of (H := [6]) (EX := EXA) ttok mixed Try.func66 rfl (by kernel_rfl) (by decide) ?_
  generalize hA : real = A
  generalize hM : Meets Try.prog = M
  cbv
  repeat' first | apply And.intro | refine br_of hA (fun _ => ?_) (fun _ => ?_)
  all_goals first | exact True.intro | with_reducible rfl | exact same_of hA rfl | skip
  · refine made_of hA ?_
    subst hA
    have h1 : (n : Int) * ((104 : Nat) : Int) ≤ 140737488355328 := by omega
    have h2 : (n : Int) ≤ 140737488355328 := by omega
    exact ⟨Int.natCast_nonneg n, rfl, h1, h2⟩
  refine loop_of hA (α := { p : Nat × (Nat → RowT) // p.1 ≤ n ∧ ∀ j, j < p.1 → p.2 j = rd j }) (fun x => st66 n rd x.1.1 x.1.2) (fun x => n - x.1.1) ⟨(0, fun _ => zRow), Nat.zero_le _, fun j h => absurd h (Nat.not_lt_zero _)⟩ ?_ ?_
  · refine cov_of ?_ ?_ ?_
    · cbv
      subst hA
      exact ⟨rfl, ⟨rfl, trivial⟩, trivial⟩
    · cbv
      subst hA
      exact ⟨⟨rfl, fun _ _ => rfl⟩, trivial⟩
    · cbv
  rintro ⟨⟨i, rm⟩, hi, hrm⟩
  cbv
  repeat' first | apply And.intro | refine br_of hA (fun _ => ?_) (fun _ => ?_)
  all_goals first | exact True.intro | with_reducible rfl | exact same_of hA rfl | (refine inb_of hA fun _ => ?_; subst hA; simp only [real, decide_eq_true_eq, Int.ofNat_eq_natCast] at *; omega) | skip
  · refine call_of hA hM _ (m106 (rd (A.nat (Int.ofNat i)))) ?_
    cbv
    repeat' first | apply And.intro | refine br_of hA (fun _ => ?_) (fun _ => ?_)
    all_goals first | exact True.intro | with_reducible rfl | exact same_of hA rfl | (refine inb_of hA fun _ => ?_; subst hA; simp only [real, decide_eq_true_eq, Int.ofNat_eq_natCast] at *; omega) | skip
    rename_i hlt
    have hlt' : i < n := by subst hA; simp only [real, decide_eq_true_eq, Int.ofNat_eq_natCast] at hlt; omega
    refine ⟨⟨(i + 1, fun j => if j = i then rd i else rm j), by simp only; omega, fun j hj => ?_⟩, by simp only; omega, cov_of ?_ ?_ ?_⟩
    · simp only at hj ⊢
      by_cases e : j = i
      · simp [e]
      · rw [if_neg e]; exact hrm j (by simp only; omega)
    · cbv
      subst hA
      exact ⟨congrArg (fun x => DV.v (.int .i64 x)) (up64 hlt' hn'), trivial⟩
    · cbv
      refine ⟨fun q _ => ?_, trivial⟩
      subst hA
      show (if q = 0 + i then eRow (rd i) else eRow (rm q)) = eRow (if q = i then rd i else rm q)
      rw [Nat.zero_add]
      split <;> rfl
    · cbv
  · rename_i hge
    have hin : i = n := by
      subst hA
      have : ¬ ((i : Int) < (n : Int)) := of_decide_eq_false hge
      simp only at hi
      omega
    subst hin
    refine stop_of hA ⟨[(3, .c (.own 448 0 i 1))], [(448, 1, .arr 13 i fun j => eRow (rd j))]⟩ (cov_of ?_ ?_ ?_) ?_
    · cbv
    · cbv
      exact ⟨fun q hq => congrArg eRow (hrm q hq), trivial⟩
    · cbv
    · cbv
      repeat' first | apply And.intro | refine br_of hA (fun _ => ?_) (fun _ => ?_)
      all_goals first | exact True.intro | with_reducible rfl | exact same_of hA rfl | skip
set_option maxRecDepth 100000 in
theorem m17 (mark : Int) (n : Nat) (hn : n ≤ 1048576) (rd : Nat → RowT) : Meets Try.prog 17 [xd (eSt mark n rd)] ⟨.one (.agg [.d (eI mark), .own 13 n fun i => eRow (rd i)]), [none]⟩ := by
  refine meets_of (H := []) (EX := EXA) ttok mixed Try.func17 rfl (by kernel_rfl) (by decide) ?_
  generalize hA : real = A
  generalize hM : Meets Try.prog = M
  cbv
  repeat' first | apply And.intro | refine br_of hA (fun _ => ?_) (fun _ => ?_)
  all_goals first | exact True.intro | with_reducible rfl | exact same_of hA rfl | skip
  refine call_of hA hM _ (m66 n hn rd) ?_
  cbv
  repeat' first | apply And.intro | refine br_of hA (fun _ => ?_) (fun _ => ?_)
  all_goals first | exact True.intro | with_reducible rfl | exact same_of hA rfl | skip
end Go.Rk
