/- slices.Insert of one element at the end. -/
import Derived.Test.YtbkpfnddpnccmaaTA6
import Derived.Test.YtbkpfnddpnccmaaDDr
import Derived.Test.YtbkpfnddpnccmaaDTb
namespace Go.Rk
set_option linter.unusedSimpArgs false
set_option linter.unusedVariables false
open Go.Proofs
set_option maxRecDepth 100000
set_option maxHeartbeats 1000000
theorem ins_end (n : Nat) (hn : n ≤ 1100000) (row : Nat → List DV) (r : List DV) (row1 : Nat → List DV) (hr : row1 0 = r) (R : Nat → List DV) (hR : ∀ k, k < n + 1 → R k = if k < n then row k else r) :
    Meets Try.prog 91 [.c (.own 7 n row), .c (.d (eI n)), .c (.own 7 1 row1)] ⟨.one (.c (.own 7 (n + 1) R)), [none, none, none]⟩ := by
  obtain ⟨R', hR'⟩ : ∃ R' : Nat → List DV, R' = real.app n row (real.sub 0 row1) := ⟨_, rfl⟩
  refine meets_rows (row := R') (fun k hk => ?_) ?_
  · rw [hR k hk, hR']
    show (if k < n then row k else row1 (0 + (k - n))) = _
    by_cases h : k < n
    · rw [if_pos h, if_pos h]
    · rw [if_neg h, if_neg h, show 0 + (k - n) = 0 by omega, hr]
  refine meets_of (H := []) (EX := EXA) ttok mixed Try.func91 rfl (by kernel_rfl) (by decide) ?_
  generalize hA : real = A
  generalize hM : Meets Try.prog = M
  cbv
  repeat' first
    | (refine br_f hA ?_ ?_; focus (subst hA; simp [real]; done))
    | (refine br_t hA ?_ ?_; focus (subst hA; simp [real]; done))
    | apply And.intro
    | exact True.intro
    | with_reducible rfl
    | exact same_of hA rfl
    | refine br_of hA (fun _ => ?_) (fun _ => ?_)
    | exact imp_of hA id
    | (refine imp_of hA ?_; subst hA; simp only [real, Bool.true_and]; exact id)
    | (refine ind_of hA ?_; decide +kernel)
    | (refine cut_of hA ?_; subst hA; exact ⟨Int.natCast_nonneg n, Int.le_refl _, Int.le_refl _⟩)
    | exact room_add2 hA (by omega) (by decide)
  subst hA
  rw [hR']
  rfl
end Go.Rk
