/- The walk over this seat's functions, part 8: what each of them answers, at all data. -/
import Derived.Test.YtmgeaomdilinnaaM1
import Derived.Test.YtmgeaomdilinnaaM2
import Derived.Test.YtmgeaomdilinnaaM3
import Derived.Test.YtmgeaomdilinnaaM4
import Derived.Test.YtmgeaomdilinnaaM5
import Derived.Test.YtmgeaomdilinnaaM6
import Derived.Test.YtmgeaomdilinnaaM7
import Derived.Test.YtmgeaomdilinnaaRows
import Derived.WalkKit
import Derived.ProofKit
import Derived.OpenShut
import Derived.ShutString
import Derived.ChangeOld
import Derived.SizedLaws
import Derived.DataShut
/- FnExactTskNew answers true at every input, and its input reads as before: no condition. -/
namespace Go.Rk
set_option linter.unusedSimpArgs false
set_option linter.unusedVariables false
open Go.Proofs Go.ChangeShapes Go.WideShapes Go.ChangeAt Go.RowKit
set_option maxRecDepth 100000
set_option maxHeartbeats 4000000
theorem sh_int {m : Nat} {l : List DV} (h : Shows TT (m + 1) 3 l) : ∃ x, l = [eI x] := by
  obtain ⟨x, h, _⟩ := h
  exact ⟨x, h⟩
theorem sh_bool {m : Nat} {l : List DV} (h : Shows TT (m + 1) 4 l) : ∃ x, l = [eB x] := h
theorem sh_Job {m : Nat} {l : List DV} (h : Shows TT (m + 2) 23 l) : ∃ x, l = eJob x := by
  obtain ⟨_, _, rfl, h0, _, _, rfl, h1, _, _, rfl, h2, _, _, rfl, h3, _, _, rfl, h4, _, _, rfl, h5, _, _, rfl, h6, _, _, rfl, h7, _, _, rfl, h8, _, _, rfl, h9, rfl⟩ := h
  obtain ⟨a0, rfl⟩ := sh_int h0
  obtain ⟨a1, rfl⟩ := sh_int h1
  obtain ⟨a2, rfl⟩ := sh_int h2
  obtain ⟨a3, rfl⟩ := sh_int h3
  obtain ⟨a4, rfl⟩ := sh_int h4
  obtain ⟨a5, rfl⟩ := sh_int h5
  obtain ⟨a6, rfl⟩ := sh_int h6
  obtain ⟨a7, rfl⟩ := sh_bool h7
  obtain ⟨a8, rfl⟩ := sh_int h8
  obtain ⟨a9, rfl⟩ := sh_int h9
  exact ⟨⟨a0, a1, a2, a3, a4, a5, a6, a7, a8, a9⟩, rfl⟩
theorem sh_Win {m : Nat} {l : List DV} (h : Shows TT (m + 2) 111 l) : ∃ x, l = eWin x := by
  obtain ⟨_, _, rfl, h0, _, _, rfl, h1, rfl⟩ := h
  obtain ⟨a0, rfl⟩ := sh_int h0
  obtain ⟨a1, rfl⟩ := sh_int h1
  exact ⟨⟨a0, a1⟩, rfl⟩
theorem sh_Agg {m : Nat} {l : List DV} (h : Shows TT (m + 2) 112 l) : ∃ x, l = eAgg x := by
  obtain ⟨_, _, rfl, h0, _, _, rfl, h1, _, _, rfl, h2, _, _, rfl, h3, rfl⟩ := h
  obtain ⟨a0, rfl⟩ := sh_int h0
  obtain ⟨a1, rfl⟩ := sh_int h1
  obtain ⟨a2, rfl⟩ := sh_int h2
  obtain ⟨a3, rfl⟩ := sh_int h3
  exact ⟨⟨a0, a1, a2, a3⟩, rfl⟩
theorem sh_Row {m : Nat} {l : List DV} (h : Shows TT (m + 3) 114 l) : ∃ x, l = eRow x := by
  obtain ⟨_, _, rfl, h0, _, _, rfl, h1, _, _, rfl, h2, _, _, rfl, h3, _, _, rfl, h4, _, _, rfl, h5, rfl⟩ := h
  obtain ⟨a0, rfl⟩ := sh_int h0
  obtain ⟨a1, rfl⟩ := sh_Win h1
  obtain ⟨a2, rfl⟩ := sh_Agg h2
  obtain ⟨a3, rfl⟩ := sh_Agg h3
  obtain ⟨a4, rfl⟩ := sh_int h4
  obtain ⟨a5, rfl⟩ := sh_bool h5
  exact ⟨⟨a0, a1, a2, a3, a4, a5⟩, rfl⟩
theorem sh_SRow {m : Nat} {l : List DV} (h : Shows TT (m + 4) 24 l) : ∃ s : Sl RowT, l = [.sl 13 s.n fun i => eRow (s.g i)] := by
  obtain ⟨sz, n, row, rfl, hsz, hn, hr⟩ := h
  cases hsz
  have hrow : ∀ i, ∃ r : RowT, row i = eRow r := fun i => sh_Row (hr i)
  obtain ⟨rd, hrd⟩ : ∃ rd : Nat → RowT, row = fun i => eRow (rd i) := ⟨fun i => Classical.choose (hrow i), funext fun i => Classical.choose_spec (hrow i)⟩
  subst hrd
  exact ⟨⟨n, rd, hn⟩, rfl⟩
theorem sh_OpSt {m : Nat} {l : List DV} (h : Shows TT (m + 5) 26 l) : ∃ x, l = eOpSt x := by
  obtain ⟨_, _, rfl, h0, _, _, rfl, h1, rfl⟩ := h
  obtain ⟨a0, rfl⟩ := sh_int h0
  obtain ⟨a1, rfl⟩ := sh_SRow h1
  exact ⟨⟨a0, a1⟩, rfl⟩
theorem sh_Sint {m : Nat} {l : List DV} (h : Shows TT (m + 2) 27 l) : ∃ s : Sl Int, l = [.sl 1 s.n fun i => [eI (s.g i)]] := by
  obtain ⟨sz, n, row, rfl, hsz, hn, hr⟩ := h
  cases hsz
  have hrow : ∀ i, ∃ r : Int, row i = [eI r] := fun i => sh_int (hr i)
  obtain ⟨rd, hrd⟩ : ∃ rd : Nat → Int, row = fun i => [eI (rd i)] := ⟨fun i => Classical.choose (hrow i), funext fun i => Classical.choose_spec (hrow i)⟩
  subst hrd
  exact ⟨⟨n, rd, hn⟩, rfl⟩
theorem lawRow (ls : List (List DV)) (h : ShowsL TT 5 [23, 26, 27] ls) : Meets Try.prog 3 (xtsIn TT [23, 26, 27] ls) ⟨.one (.c (.d (.v (.bool true)))), [none, none, none]⟩ := by
  rcases ls with _ | ⟨l0, _ | ⟨l1, _ | ⟨l2, _ | ⟨l3, ls⟩⟩⟩⟩
  · exact h.elim
  · exact h.2.elim
  · exact h.2.2.elim
  · obtain ⟨x0, rfl⟩ := sh_Job h.1
    obtain ⟨x1, rfl⟩ := sh_OpSt h.2.1
    obtain ⟨x2, rfl⟩ := sh_Sint h.2.2.1
    exact m_law x0 x1 x2
  · exact h.2.2.2.elim
theorem own : ownKnob Try.prog.godebug = none := by kernel_rfl
theorem laidOut : laidOutB Try.prog = true := by kernel_rfl
set_option maxRecDepth 100000 in
theorem lifted (os : Os) (started : os.Started) (H : Type) (enc : TypeId × Value → H) :
    ReturnsInHanded {} Try.checked os 3 .any (Ytmgeaomdilinnaa.Rows.fnExactTskNewSpec.pre6 enc Try.prog Try.f3 Ytmgeaomdilinnaa.Rows.fnExactTskNewRow.domain false)
      (Ytmgeaomdilinnaa.Rows.fnExactTskNewSpec.post enc Try.prog Try.f3 false true false false) := by
  refine returnsInHanded_of_change_sized (C := Try.checked) own started (by kernel_rfl) Try.func3
    (ChangeSpec.witness6 (enc := enc) (C := Try.checked) false ⟨#[], #[.agg #[.int .i64 0, .int .i64 0, .int .i64 0, .int .i64 0, .int .i64 0, .int .i64 0, .int .i64 0, .bool false, .int .i64 0, .int .i64 0], .agg #[.int .i64 0, .slice none 0 0], .slice none 0 0], []⟩ 8 (by kernel_rfl) (by kernel_rfl) (by kernel_rfl) (by kernel_rfl)) ?_
  intro W base args ds gs before hval0 hW hcnd hsz0 _
  refine law_contract (P := Try.prog) (T := TT) ttok (n := 5) (tb := 4) laidOut (by decide +kernel) (by kernel_rfl) rfl Try.underlying4 rfl ?_ ?_ W base args ds gs before hval0 hW
  · intro H ds hl
    match ds, hl with
    | [d0, d1, d2], _ => exact ⟨rfl, rfl, rfl⟩
  · rw [Try.params3]
    intro ls hls
    exact lawRow ls hls
theorem over : Ytmgeaomdilinnaa.Rows.fnExactTskNewRow.holds Ytmgeaomdilinnaa.Try.pinned (OpenSpec.ofChange Ytmgeaomdilinnaa.Rows.fnExactTskNewSpec) :=
  OpenClaim.holds_of_wide 3 Try.f3 rfl rfl rfl rfl rfl rfl rfl ⟨rfl, rfl, rfl, rfl, rfl⟩ rfl rfl rfl rfl rfl (by kernel_rfl) Try.func3 (by kernel_rfl)
    (of_decide_eq_true (by kernel_rfl)) (by unfold Func.isWrapper; first | (rw [if_pos (by decide +kernel)]; kernel_rfl) | (rw [if_neg (by decide +kernel)]; exact ⟨rfl, rfl⟩))
    (fun os started H enc _ => lifted os started H enc)
end Go.Rk
namespace Go.Proofs.Ytmgeaomdilinnaa
theorem fnExactTskNew_holds : Rows.FnExactTskNewSaid := Go.Rk.over
#print axioms fnExactTskNew_holds
end Go.Proofs.Ytmgeaomdilinnaa
