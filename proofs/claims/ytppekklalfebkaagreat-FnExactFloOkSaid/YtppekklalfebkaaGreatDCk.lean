/- What it means that checkpoints are ok. -/
import Derived.Test.YtppekklalfebkaaGreatDFm
namespace Go.Rk
set_option linter.unusedSimpArgs false
set_option linter.unusedVariables false
def MarksP (j : JobT) (ms : Sl Int) : Prop := (ms.n : Int) = j.srcs ∧ ∀ i, i < ms.n → (0 ≤ ms.g i ∧ ms.g i ≤ 1000)
def SnapOkP (j : JobT) (s : SnapT) : Prop := OpOkP j s.op ∧ MarksP j s.marks ∧ LowP 1000 s.marks.n s.marks.g s.op.mark
def EmptyP (s : SnapT) : Prop := s.op.mark = 0 ∧ s.op.rows.n = 0 ∧ s.marks.n = 0
def SafeOkP (j : JobT) (s : SafeT) : Prop := (0 ≤ s.n ∧ s.n ≤ 900) ∧ (s.at_.n : Int) = j.srcs ∧ (∀ i, i < s.at_.n → (0 ≤ s.at_.g i ∧ s.at_.g i ≤ 40)) ∧ (s.snaps.n : Int) = j.tsks ∧ ∀ i, i < s.snaps.n → SnapOkP j (s.snaps.g i)
def SrcP (opn : Bool) (x : Int) : Prop := (-1 ≤ x ∧ x ≤ 40) ∧ (opn = true ∨ x = -1)
def TkP (j : JobT) (opn : Bool) (t : Bool) (s : SnapT) : Prop := (t = true → opn = true ∧ SnapOkP j s) ∧ (t = false → EmptyP s)
def CkpOkP (j : JobT) (c : CkpT) : Prop := JobOkP j ∧ SafeOkP j c.safe ∧ (c.safe.n ≤ c.n ∧ c.n ≤ 900) ∧ ¬ (c.opn = true ∧ c.n = c.safe.n) ∧ (c.src.n : Int) = j.srcs ∧ (c.tsk.n : Int) = j.tsks ∧ (c.snaps.n : Int) = j.tsks ∧
  (∀ i, i < c.src.n → SrcP c.opn (c.src.g i)) ∧ ∀ i, i < c.tsk.n → TkP j c.opn (c.tsk.g i) (c.snaps.g i)
def ReadyP (c : CkpT) : Prop := c.opn = true ∧ (∀ i, i < c.src.n → c.src.g i ≠ -1) ∧ ∀ i, i < c.tsk.n → c.tsk.g i = true
theorem min_low {n : Nat} {g : Nat → Int} {x : Int} (h0 : 0 < n) (hg : ∀ i, i < n → g i ≤ 1000) : MinP n g x ↔ LowP 1000 n g x := by
  constructor
  · rintro ⟨h1, i, hi, e⟩
    exact ⟨by have := hg i hi; omega, h1, .inr ⟨i, hi, e⟩⟩
  · rintro ⟨h1, h2, h3⟩
    refine ⟨h2, ?_⟩
    rcases h3 with e | h
    · have := h2 0 h0
      have := hg 0 h0
      exact ⟨0, h0, by omega⟩
    · exact h
/-- The least of all, if there is one. -/
theorem minq_ex (n : Nat) (g : Nat → Int) : ∃ x, 0 < n → MinP n g x := by
  by_cases h : 0 < n
  · obtain ⟨x, hx⟩ := lowP_ex (g 0) n g
    exact ⟨x, fun h0 => minP_of h0 hx⟩
  · exact ⟨0, fun h0 => absurd h0 h⟩
theorem tk_of {j : JobT} {opn t b1 b2 : Bool} {s : SnapT} (h1 : b1 = true ↔ SnapOkP j s) (h2 : b2 = true ↔ EmptyP s) : TkP j opn t s ↔ ((t && (!opn || !b1)) || (!t && !b2)) = false := by
  unfold TkP
  rw [← h1, ← h2]
  cases t <;> cases opn <;> cases b1 <;> cases b2 <;> simp
end Go.Rk
