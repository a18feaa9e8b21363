/- A part of the walk over this seat's functions: what each answers, at all data. -/
import Derived.Test.YtbkpfnddpnccmaaRA2
namespace Go.Rk
open Go.Proofs
theorem m65 (n : Nat) (hn : n ≤ maxLen) (rd : Nat → RowT) (left : Int) (hl : left = 1048576) (x : Int) (hx : (Int.ofNat n ≤ left ∧ x = left - Int.ofNat n) ∨ (left < Int.ofNat n ∧ x = -1)) :
    Meets Try.prog 65 [.c (.d (.sl 13 n fun i => eRow (rd i))), .c (.d (eI left))] ⟨.one (.c (.d (eI x))), [none, none]⟩ := by
  refine meets_of (H := []) (EX := EXA) ttok mixed Try.func65 rfl (by kernel_rfl) (by decide) ?_
  generalize hA : real = A
  generalize hM : Meets Try.prog = M
  cbv
  repeat' first | apply And.intro | refine br_of hA (fun _ => ?_) (fun _ => ?_)
  all_goals first | exact True.intro | with_reducible rfl | (refine ind_of hA ?_; decide +kernel) | exact same_of hA rfl | skip
  all_goals rename_i hlt
  all_goals subst hA
  all_goals have hm : maxLen = 9223372036854775807 := by decide
  all_goals rw [hm] at hn
  · have h0 : IntKind.i64.wrap (left - (n : Int)) < 0 := of_decide_eq_true hlt
    rw [IntWalk.i64_in _ (by omega)] at h0
    simp only [Int.ofNat_eq_natCast] at hx
    have e : -1 = x := by omega
    exact congrArg (fun x => XA.one (.c (.d (.v (.int .i64 x))))) e
  · have h0 : ¬ IntKind.i64.wrap (left - (n : Int)) < 0 := of_decide_eq_false hlt
    have e : IntKind.i64.wrap (left - (n : Int)) = x := by
      rw [IntWalk.i64_in _ (by omega)] at h0 ⊢
      simp only [Int.ofNat_eq_natCast] at hx
      omega
    exact congrArg (fun x => XA.one (.c (.d (.v (.int .i64 x))))) e
theorem m15 (mark : Int) (n : Nat) (hn : n ≤ maxLen) (rd : Nat → RowT) (left : Int) (hl : left = 1048576) (x : Int) (hx : (Int.ofNat n ≤ left ∧ x = left - Int.ofNat n) ∨ (left < Int.ofNat n ∧ x = -1)) :
    Meets Try.prog 15 [xd (eSt mark n rd), .c (.d (eI left))] ⟨.one (.c (.d (eI x))), [none, none]⟩ := by
  refine meets_of (H := []) (EX := EXA) ttok mixed Try.func15 rfl (by kernel_rfl) (by decide) ?_
  generalize hA : real = A
  generalize hM : Meets Try.prog = M
  cbv
  repeat' first | apply And.intro | refine br_of hA (fun _ => ?_) (fun _ => ?_)
  all_goals first | exact True.intro | with_reducible rfl | (refine ind_of hA ?_; decide +kernel) | exact same_of hA rfl | skip
  refine call_of hA hM _ (m65 n hn rd left hl x hx) ?_
  cbv
  repeat' first | apply And.intro | refine br_of hA (fun _ => ?_) (fun _ => ?_)
  all_goals first | exact True.intro | with_reducible rfl | (refine ind_of hA ?_; decide +kernel) | exact same_of hA rfl | skip
  rename_i hlt
  subst hA
  have hlt : x < 0 := of_decide_eq_true hlt
  have e : -1 = x := by simp only [Int.ofNat_eq_natCast] at hx; omega
  exact congrArg (fun x => XA.one (.c (.d (.v (.int .i64 x))))) e
theorem m68 (v w : WinT) (b : Bool) (hb : b = (v.s == w.s && v.e == w.e)) : Meets Try.prog 68 [xd (eWin v), xd (eWin w)] ⟨.one (.c (.d (eB b))), [none, none]⟩ := by
  refine meets_of (H := []) (EX := EXA) ttok mixed Try.func68 rfl (by kernel_rfl) (by decide) ?_
  generalize hA : real = A
  generalize hM : Meets Try.prog = M
  cbv
  repeat' first | apply And.intro | refine br_of hA (fun _ => ?_) (fun _ => ?_)
  all_goals first | exact True.intro | with_reducible rfl | (refine ind_of hA ?_; decide +kernel) | exact same_of hA rfl | skip
  all_goals subst hA
  all_goals simp_all [real]
theorem m69 (v w : AggT) (b : Bool) (hb : b = (v.n == w.n && (v.sum == w.sum && (v.least == w.least && v.most == w.most)))) : Meets Try.prog 69 [xd (eAgg v), xd (eAgg w)] ⟨.one (.c (.d (eB b))), [none, none]⟩ := by
  refine meets_of (H := []) (EX := EXA) ttok mixed Try.func69 rfl (by kernel_rfl) (by decide) ?_
  generalize hA : real = A
  generalize hM : Meets Try.prog = M
  cbv
  repeat' first | apply And.intro | refine br_of hA (fun _ => ?_) (fun _ => ?_)
  all_goals first | exact True.intro | with_reducible rfl | (refine ind_of hA ?_; decide +kernel) | exact same_of hA rfl | skip
  all_goals subst hA
  all_goals simp_all [real]
/-- For us rows are compared where they are the same alone. -/
theorem m20 (r : RowT) : Meets Try.prog 20 [xd (eRow r), xd (eRow r)] ⟨.one (.c (.d (eB true))), [none, none]⟩ := by
  refine meets_of (H := []) (EX := EXA) ttok mixed Try.func20 rfl (by kernel_rfl) (by decide) ?_
  generalize hA : real = A
  generalize hM : Meets Try.prog = M
  cbv
  repeat' first | apply And.intro | refine br_of hA (fun _ => ?_) (fun _ => ?_)
  all_goals first | exact True.intro | with_reducible rfl | (refine ind_of hA ?_; decide +kernel) | exact same_of hA rfl | (exfalso; rename_i h; subst hA; simp [real] at h; done) | skip
  refine call_of hA hM _ (m68 r.win r.win true (by simp)) ?_
  cbv
  repeat' first | apply And.intro | refine br_of hA (fun _ => ?_) (fun _ => ?_)
  all_goals first | exact True.intro | with_reducible rfl | (refine ind_of hA ?_; decide +kernel) | exact same_of hA rfl | (exfalso; rename_i h; subst hA; simp [real] at h; done) | skip
  refine call_of hA hM _ (m69 r.all r.all true (by simp)) ?_
  cbv
  repeat' first | apply And.intro | refine br_of hA (fun _ => ?_) (fun _ => ?_)
  all_goals first | exact True.intro | with_reducible rfl | (refine ind_of hA ?_; decide +kernel) | exact same_of hA rfl | (exfalso; rename_i h; subst hA; simp [real] at h; done) | skip
  refine call_of hA hM _ (m69 r.fresh r.fresh true (by simp)) ?_
  cbv
  repeat' first | apply And.intro | refine br_of hA (fun _ => ?_) (fun _ => ?_)
  all_goals first | exact True.intro | with_reducible rfl | (refine ind_of hA ?_; decide +kernel) | exact same_of hA rfl | (exfalso; rename_i h; subst hA; simp [real] at h; done) | skip
def st70 (n : Nat) (rd : Nat → RowT) (i : Nat) : St :=
  ⟨[(5, .c (.d (eI i))), (0, .c (.d (.sl 13 n fun i => eRow (rd i)))), (1, .c (.d (.sl 13 n fun i => eRow (rd i))))], []⟩
set_option maxRecDepth 100000 in
theorem m70 (n : Nat) (hn : n ≤ maxLen) (rd : Nat → RowT) : Meets Try.prog 70 [.c (.d (.sl 13 n fun i => eRow (rd i))), .c (.d (.sl 13 n fun i => eRow (rd i)))] ⟨.one (.c (.d (eB true))), [none, none]⟩ := by
  refine meets_of (H := []) (EX := EXA) ttok mixed Try.func70 rfl (by kernel_rfl) (by decide) ?_
  generalize hA : real = A
  generalize hM : Meets Try.prog = M
  cbv
  repeat' first | apply And.intro | refine br_of hA (fun _ => ?_) (fun _ => ?_)
  all_goals first | exact True.intro | with_reducible rfl | (refine ind_of hA ?_; decide +kernel) | exact same_of hA rfl | (exfalso; rename_i h; subst hA; simp [real] at h; done) | skip
  refine loop_of hA (α := { i : Nat // i ≤ n }) (fun x => st70 n rd x.1) (fun x => n - x.1) ⟨0, Nat.zero_le _⟩ ?_ ?_
  · refine cov_of ?_ ?_ ?_
    · cbv; exact ⟨rfl, trivial⟩
    · cbv
    · cbv
  rintro ⟨i, hi⟩
  cbv
  repeat' first | apply And.intro | refine br_of hA (fun _ => ?_) (fun _ => ?_)
  all_goals first | exact True.intro | with_reducible rfl | (refine ind_of hA ?_; decide +kernel) | exact same_of hA rfl | (refine inb_of hA fun _ => ?_; subst hA; simp only [real, decide_eq_true_eq, Int.ofNat_eq_natCast] at *; omega) | skip
  refine call_of hA hM _ (m20 (rd (A.nat (Int.ofNat i)))) ?_
  cbv
  repeat' first | apply And.intro | refine br_of hA (fun _ => ?_) (fun _ => ?_)
  all_goals first | exact True.intro | with_reducible rfl | (refine ind_of hA ?_; decide +kernel) | exact same_of hA rfl | (exfalso; rename_i h; subst hA; simp [real] at h; done) | skip
  rename_i hlt _
  have hlt' : i < n := by subst hA; simp only [real, decide_eq_true_eq, Int.ofNat_eq_natCast] at hlt; omega
  refine ⟨⟨i + 1, by omega⟩, by simp only; omega, cov_of ?_ ?_ ?_⟩
  · cbv
    subst hA
    exact ⟨congrArg (fun x => DV.v (.int .i64 x)) (up64 hlt' hn), trivial⟩
  · cbv
  · cbv
theorem m21 (mark : Int) (n : Nat) (hn : n ≤ maxLen) (rd : Nat → RowT) : Meets Try.prog 21 [xd (eSt mark n rd), xd (eSt mark n rd)] ⟨.one (.c (.d (eB true))), [none, none]⟩ := by
  refine meets_of (H := []) (EX := EXA) ttok mixed Try.func21 rfl (by kernel_rfl) (by decide) ?_
  generalize hA : real = A
  generalize hM : Meets Try.prog = M
  cbv
  repeat' first | apply And.intro | refine br_of hA (fun _ => ?_) (fun _ => ?_)
  all_goals first | exact True.intro | with_reducible rfl | (refine ind_of hA ?_; decide +kernel) | exact same_of hA rfl | (exfalso; rename_i h; subst hA; simp [real] at h; done) | skip
  refine call_of hA hM _ (m70 n hn rd) ?_
  cbv
  repeat' first | apply And.intro | refine br_of hA (fun _ => ?_) (fun _ => ?_)
  all_goals first | exact True.intro | with_reducible rfl | (refine ind_of hA ?_; decide +kernel) | exact same_of hA rfl | (exfalso; rename_i h; subst hA; simp [real] at h; done) | skip
end Go.Rk
