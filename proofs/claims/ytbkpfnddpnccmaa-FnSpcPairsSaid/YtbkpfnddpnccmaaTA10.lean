/- Draws, of records and jobs. -/
import Derived.Test.YtbkpfnddpnccmaaTA9
import Derived.Test.YtbkpfnddpnccmaaDDr
namespace Go.Rk
set_option linter.unusedSimpArgs false
set_option linter.unusedVariables false
open Go.Proofs
set_option maxRecDepth 100000 in
theorem m_open (M0 : Nat) (b : Nat → Int) (m : Nat) (hm : m = if 2000 < M0 then 2000 else M0) : Meets Try.prog 71 [.c (.d (.sl 1 M0 fun i => [eU (b i)]))] ⟨.one (.c (.box [.d (.sl 1 m fun i => [eU (b i)]), .d (eI 0)])), [none]⟩ := by
  refine meets_of (H := []) (EX := EXA) ttok mixed Try.func71 rfl (by kernel_rfl) (by decide) ?_
  generalize hA : real = A
  generalize hM : Meets Try.prog = M
  cbv
  repeat' first
    | apply And.intro
    | exact True.intro
    | with_reducible rfl
    | exact same_of hA rfl
    | refine br_of hA (fun _ => ?_) (fun _ => ?_)
    | exact imp_of hA id
    | (refine imp_of hA ?_; subst hA; simp only [real, Bool.true_and]; exact id)
    | (refine ind_of hA ?_; decide +kernel)
    | (refine cut_of hA ?_; rename_i h; subst hA; have h9 : decide ((M0 : Int) > 2000) = true := h; have := of_decide_eq_true h9; exact ⟨Int.le_refl _, (by decide), (show (2000 : Int) ≤ (M0 : Int) by omega)⟩)
  · rename_i h
    subst hA
    have h9 : decide ((M0 : Int) > 2000) = true := h
    have h8 := of_decide_eq_true h9
    have e : m = 2000 := by rw [hm]; exact if_pos (by omega)
    subst e
    have e2 : (fun i => (fun i => [eU (b i)]) (0 + i)) = fun i => [eU (b i)] := by funext i; rw [Nat.zero_add]
    exact congrArg (fun f => XA.one (XT.c (.box [.d (.sl 1 2000 f), .d (eI 0)]))) e2
  · rename_i h
    subst hA
    have h9 : decide ((M0 : Int) > 2000) = false := h
    have h8 := of_decide_eq_false h9
    have e : m = M0 := by rw [hm]; exact if_neg (by omega)
    subst e
    rfl
set_option maxRecDepth 100000 in
theorem c_rec (m : Nat) (hm : m ≤ 2000) (b : Nat → Int) (hb : ∀ i, 0 ≤ b i ∧ b i ≤ 255) (p : Int) (hp : 0 ≤ p ∧ p ≤ 100000) (q : Int) (hq : q = p + 4) : ∃ it : ItmT, Meets Try.prog 110 [.c (.box [.d (.sl 1 m fun i => [eU (b i)]), .d (eI p)])] ⟨.one (xd (eItm it)), [some (.box [.d (.sl 1 m fun i => [eU (b i)]), .d (eI q)])]⟩ := by
  obtain ⟨x0, hx0⟩ : ∃ x : Int, x = pickV m b p 61 := ⟨_, rfl⟩
  obtain ⟨p1, hp1⟩ : ∃ z : Int, z = p + 1 := ⟨_, rfl⟩
  have c0 := m_pick m hm b hb p (by omega) 61 (by omega) x0 hx0 p1 hp1
  have i0 := pickV_in (m := m) (b := b) (p := p) (n := 61) hb (by omega) (by omega)
  rw [← hx0] at i0
  obtain ⟨x1, hx1⟩ : ∃ x : Int, x = pickV m b p1 6 := ⟨_, rfl⟩
  obtain ⟨p2, hp2⟩ : ∃ z : Int, z = p1 + 1 := ⟨_, rfl⟩
  have c1 := m_pick m hm b hb p1 (by omega) 6 (by omega) x1 hx1 p2 hp2
  have i1 := pickV_in (m := m) (b := b) (p := p1) (n := 6) hb (by omega) (by omega)
  rw [← hx1] at i1
  obtain ⟨x2, hx2⟩ : ∃ x : Int, x = pickV m b p2 4 := ⟨_, rfl⟩
  obtain ⟨p3, hp3⟩ : ∃ z : Int, z = p2 + 1 := ⟨_, rfl⟩
  have c2 := m_pick m hm b hb p2 (by omega) 4 (by omega) x2 hx2 p3 hp3
  have i2 := pickV_in (m := m) (b := b) (p := p2) (n := 4) hb (by omega) (by omega)
  rw [← hx2] at i2
  obtain ⟨x3, hx3⟩ : ∃ x : Int, x = pickV m b p3 19 := ⟨_, rfl⟩
  obtain ⟨p4, hp4⟩ : ∃ z : Int, z = p3 + 1 := ⟨_, rfl⟩
  have c3 := m_pick m hm b hb p3 (by omega) 19 (by omega) x3 hx3 p4 hp4
  have i3 := pickV_in (m := m) (b := b) (p := p3) (n := 19) hb (by omega) (by omega)
  rw [← hx3] at i3
  obtain ⟨it, hit⟩ : ∃ it : ItmT, it = ⟨1, real.sel [0, 1, 5, 20, 60, x0] (real.add 0 (real.nat x1)), x2, real.ar .sub .i64 x3 9, 0⟩ := ⟨_, rfl⟩
  refine ⟨it, ?_⟩
  have hqq : p4 = q := by omega
  refine meets_of (H := []) (EX := EXA) ttok mixed Try.func110 rfl (by kernel_rfl) (by decide) ?_
  generalize hA : real = A
  generalize hM : Meets Try.prog = M
  cbv
  repeat' first
    | apply And.intro
    | exact True.intro
    | with_reducible rfl
    | exact same_of hA rfl
    | refine br_of hA (fun _ => ?_) (fun _ => ?_)
    | exact imp_of hA id
    | (refine imp_of hA ?_; subst hA; simp only [real, Bool.true_and]; exact id)
    | (refine ind_of hA ?_; decide +kernel)
    | (refine call_of hA hM _ c0 ?_; cbv)
    | (refine call_of hA hM _ c1 ?_; cbv)
    | (refine call_of hA hM _ c2 ?_; cbv)
    | (refine call_of hA hM _ c3 ?_; cbv)
    | (refine inb_of hA fun _ => ?_; exact ⟨i1.1, i1.2⟩)
    | (subst hA; subst hit; rfl)
    | (rw [hqq])
end Go.Rk
