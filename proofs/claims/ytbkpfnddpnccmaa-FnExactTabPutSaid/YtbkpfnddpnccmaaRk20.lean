/- Code: what the abstract walk says is what the machine does. -/
import Derived.Test.YtbkpfnddpnccmaaRk19
namespace Go.Rk
def AE.ex : AE → Exit
  | .normal => .normal
  | .exit id => .exit id
  | .ret => .ret
section
variable {P : Program} {T : TypeId → Option TI} {EX : FuncId → List Nat × Bool} {nt : Nat} {H : List Nat} {w0 : World} {S : Sets}

theorem awp_sound (hT : TTok P T) (hm : P.follows .mixedOrders = true) : ∀ (c : Code) (Q : AE → St → Prop) (Qc : Exit → Act → World → Prop) (σ : St) (a : Act) (w : World),
    awp real T EX (Meets P) nt H c Q σ → Rel w0 S nt (lookS σ.slots) σ.o a w → (∀ e σ' a' w', Q e σ' → Rel w0 S nt (lookS σ'.slots) σ'.o a' w' → Qc e.ex a' w') → c.wp P Qc a w := by
  intro c
  induction c with
  | skip => intro Q Qc σ a w h R hq; exact wp_skip (hq _ _ _ _ h R)
  | region id ops draw =>
    intro Q Qc σ a w h R hq
    unfold awp at h
    cases hh : memN H id with
    | false =>
      rw [hh] at h
      exact region_sound hT hm h R fun σ' a' w' h' R' => hq .normal _ _ _ h' R'
    | true =>
      rw [hh] at h
      obtain ⟨τ, hc, h⟩ : ∃ τ, Cov nt σ τ ∧ awpOps real T EX (Meets P) nt draw ops (Q .normal) ops.toList [] τ := h
      exact region_sound hT hm h (hc w0 S a w R) fun σ' a' w' h' R' => hq .normal _ _ _ h' R'
  | seq x y ihx ihy =>
    intro Q Qc σ a w h R hq
    refine wp_seq (ihx _ _ σ a w h R ?_)
    intro e σ' a' w' h' R'
    cases e with
    | normal => exact ihy _ _ _ _ _ h' R' hq
    | exit id => exact hq (.exit id) _ _ _ h' R'
    | ret => exact hq .ret _ _ _ h' R'
  | cond t x y ihx ihy =>
    intro Q Qc σ a w h R hq
    obtain ⟨b, r, hb, hrun⟩ := G.wp_det h
    have h1 : (boolv real true (rho σ.slots t)).run σ.o fun b' => b' = b := hrun σ.o (fun _ _ => rfl) _ rfl
    obtain ⟨μ, R'⟩ := R
    obtain ⟨b', hv, rfl⟩ := boolv_run h1 fun _ => rho_rep R' t
    have hb : (b' = true → awp real T EX (Meets P) nt H x Q σ) ∧ (b' = false → awp real T EX (Meets P) nt H y Q σ) := hb
    exact wp_cond_split (hv rfl) (fun ht => ihx _ _ _ _ _ (hb.1 ht) ⟨μ, R'⟩ hq) (fun hf => ihy _ _ _ _ _ (hb.2 hf) ⟨μ, R'⟩ hq)
  | block id x ih =>
    intro Q Qc σ a w h R hq
    refine wp_block (ih _ _ σ a w h R ?_)
    intro e σ' a' w' h' R'
    cases e with
    | normal => exact hq .normal _ _ _ h' R'
    | ret => exact hq .ret _ _ _ h' R'
    | exit j =>
      show (if j = id then Qc .normal a' w' else Qc (.exit j) a' w')
      have h' : bif Nat.beq j id then Q .normal σ' else Q (.exit j) σ' := h'
      by_cases e : j = id
      · subst e
        simp only [if_true]
        refine hq .normal _ _ _ ?_ R'
        have : Nat.beq j j = true := Nat.beq_refl j
        rwa [this] at h'
      · simp only [e, if_false]
        have : Nat.beq j id = false := by cases hb : Nat.beq j id with | false => rfl | true => exact absurd (Nat.eq_of_beq_eq_true hb) e
        rw [this] at h'
        exact hq (.exit j) _ _ _ h' R'
  | loop x ih =>
    intro Q Qc σ a w h R hq
    have h : LoopA nt (fun Q' τ => awp real T EX (Meets P) nt H x Q' τ) Q σ := h
    obtain ⟨α, st, m, ⟨x0, h0⟩, hb⟩ := h
    intro b k cs
    have key : ∀ (n : Nat) (y : α) (a : Act) (w : World), m y = n → Rel w0 S nt (lookS (st y).slots) (st y).o a w →
        ∃ e a' w', Qc e a' w' ∧ Arrives P (lone (b.at a (.code x :: .inLoop x :: k)) cs w) b k cs e a' w' := by
      intro n
      induction n using Nat.strongRecOn with
      | _ n ihn =>
        intro y a w hn hI
        have round : x.wp P (Exit.then (fun a' w' => ∃ z, m z < m y ∧ Rel w0 S nt (lookS (st z).slots) (st z).o a' w') Qc) a w := by
          refine ih _ _ (st y) a w (hb y) hI ?_
          intro e σ' a' w' h' R'
          cases e with
          | exit id => exact hq (.exit id) _ _ _ h' R'
          | ret => exact hq .ret _ _ _ h' R'
          | normal =>
            obtain ⟨z, hz, hc⟩ := h'
            exact ⟨z, hz, hc w0 S a' w' R'⟩
        obtain ⟨e, a₁, w₁, hq', harr⟩ := round b (.inLoop x :: k) cs
        cases e with
        | normal =>
          obtain ⟨z, hlt, hI₁⟩ := hq'
          obtain ⟨e₂, a₂, w₂, hq₂, harr₂⟩ := ihn (m z) (hn ▸ hlt) z a₁ w₁ rfl hI₁
          exact ⟨e₂, a₂, w₂, hq₂, .of_steps (Steps.trans harr (.one step_inLoop)) harr₂⟩
        | exit id => exact ⟨_, a₁, w₁, hq', .pass (x := .inLoop x) rfl (fun _ _ => .inl (by simp)) harr⟩
        | goto l => exact ⟨_, a₁, w₁, hq', .pass (x := .inLoop x) rfl (fun _ _ => .inl (by simp)) harr⟩
        | ret => exact ⟨_, a₁, w₁, hq', .pass (x := .inLoop x) rfl (fun _ _ => .inl (by simp)) harr⟩
        | panic ch => exact ⟨_, a₁, w₁, hq', .pass (x := .inLoop x) rfl (fun _ _ => .inl (by simp)) harr⟩
        | outgrown => exact ⟨_, a₁, w₁, hq', .pass (x := .inLoop x) rfl (fun _ _ => .inl (by simp)) harr⟩
    obtain ⟨e, a', w', hq', harr⟩ := key _ x0 a w rfl (h0 w0 S a w R)
    exact ⟨e, a', w', hq', .of_steps (.one step_loop) harr⟩
  | exit id => intro Q Qc σ a w h R hq; exact wp_exit (hq (.exit id) _ _ _ h R)
  | ret => intro Q Qc σ a w h R hq; exact wp_ret (hq .ret _ _ _ h R)
  | _ => intro Q Qc σ a w h R hq; exact h.elim
end
end Go.Rk
