/- What the walk leaves is taken up here. -/
import Derived.Test.YtbkpfnddpnccmaaRk25
namespace Go.Rk
section
variable {A : Ar}
theorem call_of {P : Program} {M : FuncId → List XT → Out → Prop} (hA : real = A) (hM : Meets P = M) {g : Bool} {f : FuncId} {args : List XT} {K : Out → Prop} (out : Out)
    (h : Meets P f args out) (k : K out) : A.hold fun _ => ∃ out, (g = true → M f args out) ∧ K out := by
  subst hA hM
  exact ⟨out, fun _ => h, k⟩
theorem call_of2 {P : Program} {M : FuncId → List XT → Out → Prop} (hA : real = A) (hM : Meets P = M) {g : Bool} {f : FuncId} {args args' : List XT} {K : Out → Prop} (out : Out)
    (h : Meets P f args' out) (ha : args = args') (k : K out) : A.hold fun _ => ∃ out, (g = true → M f args out) ∧ K out := by
  subst ha
  exact call_of hA hM out h k
theorem sub0 (hA : real = A) (f : Nat → List DV) : A.sub 0 f = f := by subst hA; funext i; simp [real]
theorem same_of (hA : real = A) {a b : Nat} (h : a = b) : A.same a b := by subst hA; exact h
theorem ind_of (hA : real = A) {rs : List Rec} (h : indep rs = true) : A.ind rs := by subst hA; exact h
theorem br_of (hA : real = A) {t : Bool} {p q : Prop} (h1 : t = true → p) (h2 : t = false → q) : A.br t p q := by subst hA; exact ⟨h1, h2⟩
theorem imp_of (hA : real = A) {g t : Bool} (h : g = true → t = true) : A.imp g t := by subst hA; exact h
theorem inb_of (hA : real = A) {g : Bool} {i : Int} {n : Nat} (h : g = true → 0 ≤ i ∧ i < n) : A.inb g i n := by subst hA; exact h
theorem loop_of (hA : real = A) {nt : Nat} {body : (AE → St → Prop) → St → Prop} {Q : AE → St → Prop} {σ : St} {α : Type} (st : α → St) (m : α → Nat) (x0 : α) (h0 : Cov nt σ (st x0))
    (h : ∀ x, body (fun e τ => match e with
      | .normal => ∃ y, m y < m x ∧ Cov nt τ (st y)
      | e => Q e τ) (st x)) : A.hold fun _ => LoopA nt body Q σ := by
  subst hA
  exact ⟨α, st, m, ⟨x0, h0⟩, h⟩
theorem stop_of (hA : real = A) {nt : Nat} {σ : St} {p : St → Prop} (τ : St) (h0 : Cov nt σ τ) (h : p τ) : A.hold fun _ => ∃ τ, Cov nt σ τ ∧ p τ := by
  subst hA
  exact ⟨τ, h0, h⟩
end
end Go.Rk
