/- FnExactOpFind answers true at every input, and its input reads as before: no condition. -/
import Derived.Test.YtbkpfnddpnccmaaRA5
import Derived.Test.YtbkpfnddpnccmaaRows
import Derived.WalkKit
import Derived.ProofKit
import Derived.OpenShut
import Derived.ShutString
import Derived.ChangeOld
import Derived.SizedLaws
namespace Go.Rk
open Go.Proofs Go.ChangeShapes Go.WideShapes Go.ChangeAt Go.RowKit
theorem sh_int {m : Nat} {l : List DV} (h : Shows TT (m + 1) 3 l) : ∃ x, l = [eI x] := by
  obtain ⟨x, h, _⟩ := h
  exact ⟨x, h⟩
theorem sh_bool {m : Nat} {l : List DV} (h : Shows TT (m + 1) 4 l) : ∃ x, l = [eB x] := h
theorem sh_win {m : Nat} {l : List DV} (h : Shows TT (m + 2) 26 l) : ∃ w, l = eWin w := by
  obtain ⟨_, _, rfl, h1, _, _, rfl, h2, rfl⟩ := h
  obtain ⟨a, rfl⟩ := sh_int h1
  obtain ⟨b, rfl⟩ := sh_int h2
  exact ⟨⟨a, b⟩, rfl⟩
theorem sh_agg {m : Nat} {l : List DV} (h : Shows TT (m + 2) 71 l) : ∃ w, l = eAgg w := by
  obtain ⟨_, _, rfl, h1, _, _, rfl, h2, _, _, rfl, h3, _, _, rfl, h4, rfl⟩ := h
  obtain ⟨a, rfl⟩ := sh_int h1
  obtain ⟨b, rfl⟩ := sh_int h2
  obtain ⟨c, rfl⟩ := sh_int h3
  obtain ⟨d, rfl⟩ := sh_int h4
  exact ⟨⟨a, b, c, d⟩, rfl⟩
theorem sh_row {m : Nat} {l : List DV} (h : Shows TT (m + 3) 146 l) : ∃ r, l = eRow r := by
  obtain ⟨_, _, rfl, h1, _, _, rfl, h2, _, _, rfl, h3, _, _, rfl, h4, _, _, rfl, h5, _, _, rfl, h6, rfl⟩ := h
  obtain ⟨a, rfl⟩ := sh_int h1
  obtain ⟨b, rfl⟩ := sh_win h2
  obtain ⟨c, rfl⟩ := sh_agg h3
  obtain ⟨d, rfl⟩ := sh_agg h4
  obtain ⟨e, rfl⟩ := sh_int h5
  obtain ⟨f, rfl⟩ := sh_bool h6
  exact ⟨⟨a, b, c, d, e, f⟩, rfl⟩
theorem sh_st {m : Nat} {l : List DV} (h : Shows TT (m + 5) 24 l) : ∃ mark n rd, n ≤ maxLen ∧ l = eSt mark n rd := by
  obtain ⟨_, _, rfl, h1, _, _, rfl, h2, rfl⟩ := h
  obtain ⟨a, rfl⟩ := sh_int h1
  obtain ⟨sz, n, row, rfl, hsz, hn, hr⟩ := h2
  cases hsz
  have hrow : ∀ i, ∃ r, row i = eRow r := fun i => sh_row (hr i)
  obtain ⟨rd, hrd⟩ : ∃ rd : Nat → RowT, row = fun i => eRow (rd i) := ⟨fun i => Classical.choose (hrow i), funext fun i => Classical.choose_spec (hrow i)⟩
  subst hrd
  exact ⟨a, n, rd, hn, rfl⟩
theorem law3 (ls : List (List DV)) (h : ShowsL TT 5 [24, 3, 26] ls) : Meets Try.prog 3 (xtsIn TT [24, 3, 26] ls) ⟨.one (.c (.d (.v (.bool true)))), [none, none, none]⟩ := by
  rcases ls with _ | ⟨l1, _ | ⟨l2, _ | ⟨l3, _ | ⟨l4, ls⟩⟩⟩⟩
  · exact h.elim
  · exact h.2.elim
  · exact h.2.2.elim
  · obtain ⟨mark, n, rd, hn, rfl⟩ := sh_st h.1
    obtain ⟨k, rfl⟩ := sh_int h.2.1
    obtain ⟨w, rfl⟩ := sh_win h.2.2.1
    exact m3 mark n hn rd k w
  · exact h.2.2.2.elim
theorem own : ownKnob Try.prog.godebug = none := by kernel_rfl
theorem laidOut : laidOutB Try.prog = true := by kernel_rfl
set_option maxRecDepth 100000 in
theorem lifted (os : Os) (started : os.Started) (H : Type) (enc : TypeId × Value → H) :
    ReturnsInHanded {} Try.checked os 3 .any (Ytbkpfnddpnccmaa.Rows.fnExactOpFindSpec.pre6 enc Try.prog Try.f3 Ytbkpfnddpnccmaa.Rows.fnExactOpFindRow.domain false)
      (Ytbkpfnddpnccmaa.Rows.fnExactOpFindSpec.post enc Try.prog Try.f3 false true false false) := by
  refine returnsInHanded_of_change_sized (C := Try.checked) own started (by kernel_rfl) Try.func3
    (ChangeSpec.witness6 (enc := enc) (C := Try.checked) false ⟨#[], #[.agg #[.int .i64 0, .slice none 0 0], .int .i64 0, .agg #[.int .i64 0, .int .i64 0]], []⟩ 8 (by kernel_rfl) (by kernel_rfl) (by kernel_rfl) (by kernel_rfl)) ?_
  intro W base args ds gs before hval0 hW hcnd hsz0 _
  refine law_contract (P := Try.prog) (T := TT) ttok (n := 5) (tb := 4) laidOut (by decide +kernel) (by kernel_rfl) rfl Try.underlying4 rfl ?_ ?_ W base args ds gs before hval0 hW
  · intro H ds hl
    match ds, hl with
    | [d1, d2, d3], _ => exact ⟨rfl, rfl, rfl⟩
  · rw [Try.params3]
    intro ls hls
    exact law3 ls hls
theorem over : Ytbkpfnddpnccmaa.Rows.fnExactOpFindRow.holds Ytbkpfnddpnccmaa.Try.pinned (OpenSpec.ofChange Ytbkpfnddpnccmaa.Rows.fnExactOpFindSpec) :=
  OpenClaim.holds_of_wide 3 Try.f3 rfl rfl rfl rfl rfl rfl rfl ⟨rfl, rfl, rfl, rfl, rfl⟩ rfl rfl rfl rfl rfl (by kernel_rfl) Try.func3 (by kernel_rfl)
    (of_decide_eq_true (by kernel_rfl)) (by unfold Func.isWrapper; first | (rw [if_pos (by decide +kernel)]; kernel_rfl) | (rw [if_neg (by decide +kernel)]; exact ⟨rfl, rfl⟩))
    (fun os started H enc _ => lifted os started H enc)
end Go.Rk
namespace Go.Proofs.Ytbkpfnddpnccmaa
theorem fnExactOpFind_holds : Rows.FnExactOpFindSaid := Go.Rk.over
#print axioms fnExactOpFind_holds
end Go.Proofs.Ytbkpfnddpnccmaa
