/- A slice with no room, taken as an own row from here on; and what is covered step by step. -/
import Derived.Test.YtbkpfnddpnccmaaRk27
namespace Go.Rk
theorem cov_trans {nt : Nat} {σ τ ρ : St} (h1 : Cov nt σ τ) (h2 : Cov nt τ ρ) : Cov nt σ ρ := fun w0 S a w h => h2 w0 S a w (h1 w0 S a w h)
def bareB : AV → Bool
  | .c .zc => true
  | .c (.d (.v (.slice none 0 0))) => true
  | _ => false
theorem cov_prom {nt : Nat} {σ τ : St} (k L ver sz : Nat) (row : Nat → List DV) (hx : bareB (lookS σ.slots k) = true) (hv : Nat.blt (σ.o L).1 ver = true)
    (h : Cov nt ⟨(k, .c (.own L 0 0 ver)) :: σ.slots, (L, ver, .arr sz 0 row) :: σ.objs⟩ τ) : Cov nt σ τ := by
  refine cov_trans ?_ h
  rintro w0 S a w ⟨μ, R⟩
  obtain ⟨st, R'⟩ := R.bare L ver (by simpa [Nat.blt_eq] using hv) (.arr sz 0 row) (.inr ⟨_, _, rfl⟩)
  have eo : St.o ⟨(k, .c (.own L 0 0 ver)) :: σ.slots, (L, ver, .arr sz 0 row) :: σ.objs⟩ = updO σ.o L (ver, .arr sz 0 row) := by
    funext l
    show lookO ((L, ver, .arr sz 0 row) :: σ.objs) l = _
    unfold lookO updO
    cases hb : Nat.beq L l with
    | true => have := Nat.eq_of_beq_eq_true hb; subst this; simp
    | false =>
      have : l ≠ L := fun e => by subst e; simp at hb
      simp [this]; rfl
  refine ⟨updP μ L none, ?_⟩
  rw [eo]
  refine { R' with slots := fun k' => ?_ }
  show ARep _ _ _ _ (lookS ((k, .c (.own L 0 0 ver)) :: σ.slots) k') _
  unfold lookS
  cases hb : Nat.beq k k' with
  | false => exact R'.slots k'
  | true =>
    have := Nat.eq_of_beq_eq_true hb; subst this
    have hs : ∃ ad, a.tmps.getD k undef = .slice ad 0 0 := by
      have r := R.slots k
      revert hx r
      generalize lookS σ.slots k = x
      generalize a.tmps.getD k undef = u
      intro hx r
      unfold bareB at hx
      split at hx
      · exact r
      · cases r with
        | v _ _ => exact ⟨none, rfl⟩
      · cases hx
    obtain ⟨ad, hs⟩ := hs
    refine ⟨by rw [hs]; rfl, by simp, fun sz' n row' e => ?_⟩
    simp at e
    obtain ⟨rfl, rfl, rfl⟩ := e
    exact ⟨Nat.le_refl _, .inl ⟨by simp, rfl, ad, hs⟩⟩
end Go.Rk
