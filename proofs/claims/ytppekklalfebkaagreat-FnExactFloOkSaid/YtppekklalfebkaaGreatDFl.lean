/- What it means that logs, sinks and flows are ok. -/
import Derived.Test.YtppekklalfebkaaGreatDCk
namespace Go.Rk
set_option linter.unusedSimpArgs false
set_option linter.unusedVariables false
/-- The last mark ahead of a place. -/
def mkB (g : Nat → ItmT) : Nat → Int
  | 0 => 0
  | i + 1 => if (g i).kind = 2 then (g i).t else mkB g i
def LogAt (g : Nat → ItmT) (i : Nat) : Prop := ItmOkP (g i) ∧ (g i).kind ≠ 3 ∧ ((g i).kind = 2 → mkB g i < (g i).t)
def EndP (x : ItmT) : Prop := x.kind = 2 ∧ x.t = 1000 ∧ x.key = 0 ∧ x.v = 0 ∧ x.n = 0
def LogOkP (s : Sl ItmT) : Prop := (1 ≤ s.n ∧ s.n ≤ 40) ∧ (∀ i, i < s.n → LogAt s.g i) ∧ EndP (s.g (s.n - 1))
def lastR (m : Int) (g : Nat → TxnT) (i : Nat) : Int := if i = 0 then m else (g (i - 1)).n
def RdI (m : Int) (g : Nat → TxnT) (i : Nat) : Prop := TxnOkP (g i) ∧ lastR m g i < (g i).n
def SinkOkP (s : SinkT) : Prop := s.ready.n ≤ 12 ∧ (0 ≤ s.n ∧ s.n ≤ 900) ∧ ToldP 1500 s.panes s.lates ∧ ∀ i, i < s.ready.n → RdI s.n s.ready.g i
theorem rd_low {m : Int} {g : Nat → TxnT} {n : Nat} (h : ∀ k, k < n → RdI m g k) : ∀ i, i < n → m < (g i).n
  | 0, hi => by have := (h 0 hi).2; simpa [lastR] using this
  | i + 1, hi => by
    have h1 := (h (i + 1) hi).2
    have h2 := rd_low h i (by omega)
    have e : lastR m g (i + 1) = (g i).n := by simp [lastR]
    rw [e] at h1
    omega
/-- The other way to say it, where all ahead are as they must be. -/
theorem rd_iff {m : Int} {g : Nat → TxnT} {i : Nat} (h : ∀ k, k < i → RdI m g k) : RdI m g i ↔ TxnOkP (g i) ∧ m < (g i).n ∧ (0 < i → (g (i - 1)).n < (g i).n) := by
  unfold RdI lastR
  by_cases hi : i = 0
  · subst hi; simp
  · rw [if_neg hi]
    have := rd_low h (i - 1) (by omega)
    constructor
    · rintro ⟨h1, h2⟩; exact ⟨h1, by omega, fun _ => h2⟩
    · rintro ⟨h1, _, h3⟩; exact ⟨h1, h3 (by omega)⟩
def SrcAt (f : FloT) (i : Nat) : Prop := LogOkP (f.logs.g i) ∧ (0 ≤ (f.srcs.g i).at_ ∧ (f.srcs.g i).at_ ≤ ((f.logs.g i).n : Int)) ∧ f.ckp.safe.at_.g i ≤ ((f.logs.g i).n : Int) ∧ (0 ≤ (f.srcs.g i).wall ∧ (f.srcs.g i).wall ≤ f.ckp.n)
def TskAt (f : FloT) (i : Nat) : Prop := TskOkP f.job (f.tasks.g i) ∧ (f.tasks.g i).wall ≤ f.ckp.n
def FloOkP (f : FloT) : Prop := CkpOkP f.job f.ckp ∧ (f.logs.n : Int) = f.job.srcs ∧ (f.srcs.n : Int) = f.job.srcs ∧ (f.tasks.n : Int) = f.job.tsks ∧ (f.sinks.n : Int) = f.job.tsks ∧
  (∀ i, i < f.logs.n → SrcAt f i) ∧ (∀ i, i < f.tasks.n → TskAt f i) ∧ ∀ i, i < f.sinks.n → SinkOkP (f.sinks.g i)
end Go.Rk
