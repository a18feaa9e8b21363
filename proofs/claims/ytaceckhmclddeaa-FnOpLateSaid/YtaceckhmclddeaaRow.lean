/- The walk over this seat's functions, part 10: what each of them answers, at all data. -/
import Derived.Test.YtaceckhmclddeaaM1
import Derived.Test.YtaceckhmclddeaaM2
import Derived.Test.YtaceckhmclddeaaM3
import Derived.Test.YtaceckhmclddeaaM4
import Derived.Test.YtaceckhmclddeaaM5
import Derived.Test.YtaceckhmclddeaaM6
import Derived.Test.YtaceckhmclddeaaM7
import Derived.Test.YtaceckhmclddeaaM8
import Derived.Test.YtaceckhmclddeaaM9
import Derived.Test.YtaceckhmclddeaaRows
import Derived.WalkKit
import Derived.ProofKit
import Derived.OpenShut
import Derived.ShutString
import Derived.ChangeOld
import Derived.SizedLaws
import Derived.DataShut
/- FnOpLate answers true at every input, and its input reads as before: no condition. -/
namespace Go.Rk
set_option linter.unusedSimpArgs false
set_option linter.unusedVariables false
open Go.Proofs Go.ChangeShapes Go.WideShapes Go.ChangeAt Go.RowKit
set_option maxRecDepth 100000
set_option maxHeartbeats 2000000
theorem m_law (M0 : Nat) (b : Nat → Int) (hb : ∀ i, 0 ≤ b i ∧ b i ≤ 255) : Meets Try.prog 9 [.c (.d (.sl 1 M0 fun i => [eU (b i)]))] ⟨.one (.c (.d (eB true))), [none]⟩ := by
  refine meets_of (H := []) (EX := EXA) ttok mixed Try.func9 rfl (by kernel_rfl) (by decide) ?_
  generalize hA : real = A
  generalize hM : MeetsB Try.prog = M
  cbv
  repeat' first
    | apply And.intro
    | exact True.intro
    | with_reducible rfl
    | exact same_of hA rfl
    | refine br_of hA (fun _ => ?_) (fun _ => ?_)
    | exact imp_of hA id
    | (refine imp_of hA ?_; subst hA; simp only [real, Bool.true_and]; exact id)
    | (refine ind_of hA ?_; decide +kernel)
    | (refine call_ex hA hM (x_drawTake M0 b hb) ?_; rintro ⟨j, s, m⟩ hs; dsimp only at hs; cbv)
  obtain ⟨x, hx⟩ : ∃ x, x = opTakeL j s m := ⟨_, rfl⟩
  have hlen := opTakeL_len j s m
  rw [← hx] at hlen
  obtain ⟨k, G, hG⟩ := lst_ex zRow x.2.1
  obtain ⟨c, P, hP⟩ := lst_ex zPan x.2.2.1
  obtain ⟨d, Q, hQ⟩ := lst_ex zLat x.2.2.2
  have hks : k ≤ 400 := by rw [hG.1]; exact hlen.1
  have hds : d ≤ 100 := by rw [hQ.1]; exact hlen.2.2
  have hI : Meets Try.prog 48 [xd (eJob j), .agg [.d (eI s.mark), .d (.sl 13 s.rows.n fun i => eRow (s.rows.g i))], xd (eItm m)] ⟨.tup [.agg [.d (eI x.1), .d (.sl 13 k fun i => eRow (G i))], .c (.d (.sl 9 c fun i => ePane (P i))), .c (.d (.sl 7 d fun i => eLat (Q i)))], [none, none, none]⟩ := meets_frz (c_OpTake j s (by omega) m x hx k G hG c P hP d Q hQ) rfl
  have hS := c_sOpTake j s (by omega) m x hx k G hG c P hP d Q hQ
  have hF := c_frOp x.1 k (Nat.le_trans hks (by decide)) G
  have hL := c_frLates d (Nat.le_trans hds (by decide)) Q
  obtain ⟨bo, hbo, hO⟩ := c_sOpOk j s
  have hfact : bo = true → ¬ m.t < w64 (s.mark - j.late) → d = 0 := fun h1 h2 => by
    rw [hQ.1, hx, late_none (hbo.1 h1) h2]; rfl
  repeat' first
    | apply And.intro
    | exact True.intro
    | with_reducible rfl
    | exact same_of hA rfl
    | refine br_of hA (fun _ => ?_) (fun _ => ?_)
    | exact imp_of hA id
    | (refine imp_of hA ?_; subst hA; simp only [real, Bool.true_and]; exact id)
    | (refine ind_of hA ?_; decide +kernel)
    | (refine call_of hA hM _ hI ?_; cbv)
    | (refine call_of hA hM _ hS ?_; cbv)
    | (refine call_of hA hM _ hF ?_; cbv)
    | (refine call_of hA hM _ hL ?_; cbv)
    | (refine call_of hA hM _ hO ?_; cbv)
    | (refine call_of hA hM _ c_frOk ?_; cbv)
    | (exfalso; rename_i h; subst hA; simp [real] at h; done)
  all_goals
    subst hA
    refine congrArg (fun b => XA.one (.c (.d (eB b)))) ?_
    show (bif (bif (bif !bo then true else decide (m.t < w64 (s.mark - j.late))) then true else ((d : Int) == 0)) then true else false) = true
    cases bo with
    | false => rfl
    | true =>
      by_cases h : m.t < w64 (s.mark - j.late)
      · rw [decide_eq_true h]; rfl
      · rw [hfact rfl h, decide_eq_false h]; rfl
theorem sh_u8 {m : Nat} {l : List DV} (h : Shows TT (m + 1) 5 l) : ∃ x : Int, (0 ≤ x ∧ x ≤ 255) ∧ l = [eU x] := by
  obtain ⟨x, h, hw⟩ := h
  have h2 : IntKind.u8.min ≤ x ∧ x ≤ IntKind.u8.max := (Go.Lit.wf_int_iff _ _).1 hw
  have e1 : IntKind.u8.min = 0 := by decide
  have e2 : IntKind.u8.max = 255 := by decide
  rw [e1, e2] at h2
  exact ⟨x, h2, h⟩
theorem sh_bytes {m : Nat} {l : List DV} (h : Shows TT (m + 2) 22 l) : ∃ (n : Nat) (b : Nat → Int), (∀ i, 0 ≤ b i ∧ b i ≤ 255) ∧ l = [.sl 1 n fun i => [eU (b i)]] := by
  obtain ⟨sz, n, row, rfl, hsz, hn, hr⟩ := h
  cases hsz
  have hrow : ∀ i, ∃ x : Int, (0 ≤ x ∧ x ≤ 255) ∧ row i = [eU x] := fun i => sh_u8 (hr i)
  obtain ⟨rd, hrd⟩ : ∃ rd : Nat → Int, ∀ i, (0 ≤ rd i ∧ rd i ≤ 255) ∧ row i = [eU (rd i)] := ⟨fun i => Classical.choose (hrow i), fun i => Classical.choose_spec (hrow i)⟩
  have e : row = fun i => [eU (rd i)] := funext fun i => (hrd i).2
  subst e
  exact ⟨n, rd, fun i => (hrd i).1, rfl⟩
theorem lawRow (ls : List (List DV)) (h : ShowsL TT 2 [22] ls) : Meets Try.prog 9 (xtsIn TT [22] ls) ⟨.one (.c (.d (.v (.bool true)))), [none]⟩ := by
  rcases ls with _ | ⟨l0, _ | ⟨l1, ls⟩⟩
  · exact h.elim
  · obtain ⟨n0, b0, hb0, rfl⟩ := sh_bytes h.1
    exact m_law n0 b0 hb0
  · exact h.2.elim
theorem own : ownKnob Try.prog.godebug = none := by kernel_rfl
theorem laidOut : laidOutB Try.prog = true := by kernel_rfl
set_option maxRecDepth 100000 in
theorem lifted (os : Os) (started : os.Started) (H : Type) (enc : TypeId × Value → H) :
    ReturnsInHanded {} Try.checked os 9 .any (Ytaceckhmclddeaa.Rows.fnOpLateSpec.pre6 enc Try.prog Try.f9 Ytaceckhmclddeaa.Rows.fnOpLateRow.domain false)
      (Ytaceckhmclddeaa.Rows.fnOpLateSpec.post enc Try.prog Try.f9 false true false false) := by
  refine returnsInHanded_of_change_sized (C := Try.checked) own started (by kernel_rfl) Try.func9
    (ChangeSpec.witness6 (enc := enc) (C := Try.checked) false ⟨#[], #[.slice none 0 0], []⟩ 8 (by kernel_rfl) (by kernel_rfl) (by kernel_rfl) (by kernel_rfl)) ?_
  intro W base args ds gs before hval0 hW hcnd hsz0 _
  refine law_contract (P := Try.prog) (T := TT) ttok (n := 2) (tb := 4) laidOut (by decide +kernel) (by kernel_rfl) rfl Try.underlying4 rfl ?_ ?_ W base args ds gs before hval0 hW
  · intro H ds hl
    match ds, hl with
    | [d0], _ => exact ⟨rfl, rfl, rfl⟩
  · rw [Try.params9]
    intro ls hls
    exact lawRow ls hls
theorem over : Ytaceckhmclddeaa.Rows.fnOpLateRow.holds Ytaceckhmclddeaa.Try.pinned (OpenSpec.ofChange Ytaceckhmclddeaa.Rows.fnOpLateSpec) :=
  OpenClaim.holds_of_wide 9 Try.f9 rfl rfl rfl rfl rfl rfl rfl ⟨rfl, rfl, rfl, rfl, rfl⟩ rfl rfl rfl rfl rfl (by kernel_rfl) Try.func9 (by kernel_rfl)
    (of_decide_eq_true (by kernel_rfl)) (by unfold Func.isWrapper; first | (rw [if_pos (by decide +kernel)]; kernel_rfl) | (rw [if_neg (by decide +kernel)]; exact ⟨rfl, rfl⟩))
    (fun os started H enc _ => lifted os started H enc)
end Go.Rk
namespace Go.Proofs.Ytaceckhmclddeaa
theorem fnOpLate_holds : Rows.FnOpLateSaid := Go.Rk.over
#print axioms fnOpLate_holds
end Go.Proofs.Ytaceckhmclddeaa
