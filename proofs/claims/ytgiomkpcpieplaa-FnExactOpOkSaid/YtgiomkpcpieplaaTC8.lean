/- FnExactOpOk answers true at every input, and its input reads as before: no condition. -/
import Derived.Test.YtgiomkpcpieplaaTC7
import Derived.Test.YtgiomkpcpieplaaRows
import Derived.WalkKit
import Derived.ProofKit
import Derived.OpenShut
import Derived.ShutString
import Derived.ChangeOld
import Derived.SizedLaws
namespace Go.Rk
set_option linter.unusedSimpArgs false
set_option linter.unusedVariables false
open Go.Proofs Go.ChangeShapes Go.WideShapes Go.ChangeAt Go.RowKit
set_option maxRecDepth 100000 in
theorem m_law (j : JobT) (s : OpStT) : Meets Try.prog 3 [xd (eJob j), xd (eOpSt s)] ⟨.one (.c (.d (eB true))), [none, none]⟩ := by
  obtain ⟨y, hy⟩ : ∃ y : Int, y = szOpSt s 1048576 := ⟨_, rfl⟩
  have hc := sz_OpSt s 1048576 (by omega) (by omega) y hy
  have hs := szOpSt_spec s (l0 := 1048576) (by omega) (by omega)
  rw [← hy] at hs
  obtain ⟨b, hb, hm⟩ := c_OpOk j s
  obtain ⟨b', hb', hm'⟩ := c_sOpOk j s
  have e : b' = b := Bool.eq_iff_iff.2 (hb'.trans hb.symm)
  subst e
  refine meets_of (H := []) (EX := EXA) ttok mixed Try.func3 rfl (by kernel_rfl) (by decide) ?_
  generalize hA : real = A
  generalize hM : Meets Try.prog = M
  cbv
  repeat' first
    | apply And.intro
    | exact True.intro
    | with_reducible rfl
    | exact same_of hA rfl
    | refine br_of hA (fun _ => ?_) (fun _ => ?_)
    | exact imp_of hA id
    | (refine imp_of hA ?_; subst hA; simp only [real, Bool.true_and]; exact id)
    | (refine ind_of hA ?_; decide +kernel)
    | (refine call_of hA hM _ hc ?_; cbv)
  rename_i hge
  have hbd : bdOpSt s := hs.2.2 (by subst hA; have h : ¬ y < 0 := of_decide_eq_false hge; omega)
  repeat' first
    | apply And.intro
    | exact True.intro
    | with_reducible rfl
    | exact same_of hA rfl
    | refine br_of hA (fun _ => ?_) (fun _ => ?_)
    | exact imp_of hA id
    | (refine imp_of hA ?_; subst hA; simp only [real, Bool.true_and]; exact id)
    | (refine ind_of hA ?_; decide +kernel)
    | (refine call_of hA hM _ (to_Job j) ?_; cbv)
    | (refine call_of hA hM _ (to_OpSt s hbd) ?_; cbv)
    | (refine call_of hA hM _ hm ?_; cbv)
    | (refine call_of hA hM _ hm' ?_; cbv)
    | (refine call_of hA hM _ (eq_OpSt s) ?_; cbv)
    | (exfalso; rename_i h; subst hA; simp [real] at h; done)
theorem sh_int {m : Nat} {l : List DV} (h : Shows TT (m + 1) 3 l) : ∃ x, l = [eI x] := by
  obtain ⟨x, h, _⟩ := h
  exact ⟨x, h⟩
theorem sh_bool {m : Nat} {l : List DV} (h : Shows TT (m + 1) 4 l) : ∃ x, l = [eB x] := h
theorem sh_Job {m : Nat} {l : List DV} (h : Shows TT (m + 2) 23 l) : ∃ x, l = eJob x := by
  obtain ⟨_, _, rfl, h0, _, _, rfl, h1, _, _, rfl, h2, _, _, rfl, h3, _, _, rfl, h4, _, _, rfl, h5, _, _, rfl, h6, _, _, rfl, h7, _, _, rfl, h8, _, _, rfl, h9, rfl⟩ := h
  obtain ⟨a0, rfl⟩ := sh_int h0
  obtain ⟨a1, rfl⟩ := sh_int h1
  obtain ⟨a2, rfl⟩ := sh_int h2
  obtain ⟨a3, rfl⟩ := sh_int h3
  obtain ⟨a4, rfl⟩ := sh_int h4
  obtain ⟨a5, rfl⟩ := sh_int h5
  obtain ⟨a6, rfl⟩ := sh_int h6
  obtain ⟨a7, rfl⟩ := sh_bool h7
  obtain ⟨a8, rfl⟩ := sh_int h8
  obtain ⟨a9, rfl⟩ := sh_int h9
  exact ⟨⟨a0, a1, a2, a3, a4, a5, a6, a7, a8, a9⟩, rfl⟩
theorem sh_Win {m : Nat} {l : List DV} (h : Shows TT (m + 2) 134 l) : ∃ x, l = eWin x := by
  obtain ⟨_, _, rfl, h0, _, _, rfl, h1, rfl⟩ := h
  obtain ⟨a0, rfl⟩ := sh_int h0
  obtain ⟨a1, rfl⟩ := sh_int h1
  exact ⟨⟨a0, a1⟩, rfl⟩
theorem sh_Agg {m : Nat} {l : List DV} (h : Shows TT (m + 2) 135 l) : ∃ x, l = eAgg x := by
  obtain ⟨_, _, rfl, h0, _, _, rfl, h1, _, _, rfl, h2, _, _, rfl, h3, rfl⟩ := h
  obtain ⟨a0, rfl⟩ := sh_int h0
  obtain ⟨a1, rfl⟩ := sh_int h1
  obtain ⟨a2, rfl⟩ := sh_int h2
  obtain ⟨a3, rfl⟩ := sh_int h3
  exact ⟨⟨a0, a1, a2, a3⟩, rfl⟩
theorem sh_Row {m : Nat} {l : List DV} (h : Shows TT (m + 3) 137 l) : ∃ x, l = eRow x := by
  obtain ⟨_, _, rfl, h0, _, _, rfl, h1, _, _, rfl, h2, _, _, rfl, h3, _, _, rfl, h4, _, _, rfl, h5, rfl⟩ := h
  obtain ⟨a0, rfl⟩ := sh_int h0
  obtain ⟨a1, rfl⟩ := sh_Win h1
  obtain ⟨a2, rfl⟩ := sh_Agg h2
  obtain ⟨a3, rfl⟩ := sh_Agg h3
  obtain ⟨a4, rfl⟩ := sh_int h4
  obtain ⟨a5, rfl⟩ := sh_bool h5
  exact ⟨⟨a0, a1, a2, a3, a4, a5⟩, rfl⟩
theorem sh_SRow {m : Nat} {l : List DV} (h : Shows TT (m + 4) 24 l) : ∃ s : Sl RowT, l = [.sl 13 s.n fun i => eRow (s.g i)] := by
  obtain ⟨sz, n, row, rfl, hsz, hn, hr⟩ := h
  cases hsz
  have hrow : ∀ i, ∃ r, row i = eRow r := fun i => sh_Row (hr i)
  obtain ⟨rd, hrd⟩ : ∃ rd : Nat → RowT, row = fun i => eRow (rd i) := ⟨fun i => Classical.choose (hrow i), funext fun i => Classical.choose_spec (hrow i)⟩
  subst hrd
  exact ⟨⟨n, rd, hn⟩, rfl⟩
theorem sh_OpSt {m : Nat} {l : List DV} (h : Shows TT (m + 5) 26 l) : ∃ x, l = eOpSt x := by
  obtain ⟨_, _, rfl, h0, _, _, rfl, h1, rfl⟩ := h
  obtain ⟨a0, rfl⟩ := sh_int h0
  obtain ⟨a1, rfl⟩ := sh_SRow h1
  exact ⟨⟨a0, a1⟩, rfl⟩
theorem lawRow (ls : List (List DV)) (h : ShowsL TT 5 [23, 26] ls) : Meets Try.prog 3 (xtsIn TT [23, 26] ls) ⟨.one (.c (.d (.v (.bool true)))), [none, none]⟩ := by
  rcases ls with _ | ⟨l0, _ | ⟨l1, _ | ⟨l2, ls⟩⟩⟩
  · exact h.elim
  · exact h.2.elim
  · obtain ⟨x0, rfl⟩ := sh_Job h.1
    obtain ⟨x1, rfl⟩ := sh_OpSt h.2.1
    exact m_law x0 x1
  · exact h.2.2.elim
theorem own : ownKnob Try.prog.godebug = none := by kernel_rfl
theorem laidOut : laidOutB Try.prog = true := by kernel_rfl
set_option maxRecDepth 100000 in
theorem lifted (os : Os) (started : os.Started) (H : Type) (enc : TypeId × Value → H) :
    ReturnsInHanded {} Try.checked os 3 .any (Ytgiomkpcpieplaa.Rows.fnExactOpOkSpec.pre6 enc Try.prog Try.f3 Ytgiomkpcpieplaa.Rows.fnExactOpOkRow.domain false)
      (Ytgiomkpcpieplaa.Rows.fnExactOpOkSpec.post enc Try.prog Try.f3 false true false false) := by
  refine returnsInHanded_of_change_sized (C := Try.checked) own started (by kernel_rfl) Try.func3
    (ChangeSpec.witness6 (enc := enc) (C := Try.checked) false ⟨#[], #[.agg #[.int .i64 0, .int .i64 0, .int .i64 0, .int .i64 0, .int .i64 0, .int .i64 0, .int .i64 0, .bool false, .int .i64 0, .int .i64 0], .agg #[.int .i64 0, .slice none 0 0]], []⟩ 8 (by kernel_rfl) (by kernel_rfl) (by kernel_rfl) (by kernel_rfl)) ?_
  intro W base args ds gs before hval0 hW hcnd hsz0 _
  refine law_contract (P := Try.prog) (T := TT) ttok (n := 5) (tb := 4) laidOut (by decide +kernel) (by kernel_rfl) rfl Try.underlying4 rfl ?_ ?_ W base args ds gs before hval0 hW
  · intro H ds hl
    match ds, hl with
    | [d0, d1], _ => exact ⟨rfl, rfl, rfl⟩
  · rw [Try.params3]
    intro ls hls
    exact lawRow ls hls
theorem over : Ytgiomkpcpieplaa.Rows.fnExactOpOkRow.holds Ytgiomkpcpieplaa.Try.pinned (OpenSpec.ofChange Ytgiomkpcpieplaa.Rows.fnExactOpOkSpec) :=
  OpenClaim.holds_of_wide 3 Try.f3 rfl rfl rfl rfl rfl rfl rfl ⟨rfl, rfl, rfl, rfl, rfl⟩ rfl rfl rfl rfl rfl (by kernel_rfl) Try.func3 (by kernel_rfl)
    (of_decide_eq_true (by kernel_rfl)) (by unfold Func.isWrapper; first | (rw [if_pos (by decide +kernel)]; kernel_rfl) | (rw [if_neg (by decide +kernel)]; exact ⟨rfl, rfl⟩))
    (fun os started H enc _ => lifted os started H enc)
end Go.Rk
namespace Go.Proofs.Ytgiomkpcpieplaa
theorem fnExactOpOk_holds : Rows.FnExactOpOkSaid := Go.Rk.over
#print axioms fnExactOpOk_holds
end Go.Proofs.Ytgiomkpcpieplaa
