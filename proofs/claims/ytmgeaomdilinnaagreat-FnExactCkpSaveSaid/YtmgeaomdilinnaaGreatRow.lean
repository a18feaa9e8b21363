/- The walk over this seat's functions, part 9: what each of them answers, at all data. -/
import Derived.Test.YtmgeaomdilinnaaGreatM1
import Derived.Test.YtmgeaomdilinnaaGreatM2
import Derived.Test.YtmgeaomdilinnaaGreatM3
import Derived.Test.YtmgeaomdilinnaaGreatM4
import Derived.Test.YtmgeaomdilinnaaGreatM5
import Derived.Test.YtmgeaomdilinnaaGreatM6
import Derived.Test.YtmgeaomdilinnaaGreatM7
import Derived.Test.YtmgeaomdilinnaaGreatM8
import Derived.Test.YtmgeaomdilinnaaGreatRows
import Derived.WalkKit
import Derived.ProofKit
import Derived.OpenShut
import Derived.ShutString
import Derived.ChangeOld
import Derived.SizedLaws
import Derived.DataShut
/- FnExactCkpSave answers true at every input, and its input reads as before: no condition. -/
namespace Go.Rk
set_option linter.unusedSimpArgs false
set_option linter.unusedVariables false
open Go.Proofs Go.ChangeShapes Go.WideShapes Go.ChangeAt Go.RowKit
set_option maxRecDepth 100000
set_option maxHeartbeats 4000000
theorem sh_int {m : Nat} {l : List DV} (h : Shows TT (m + 1) 3 l) : ∃ x, l = [eI x] := by
  obtain ⟨x, h, _⟩ := h
  exact ⟨x, h⟩
theorem sh_bool {m : Nat} {l : List DV} (h : Shows TT (m + 1) 4 l) : ∃ x, l = [eB x] := h
theorem sh_Job {m : Nat} {l : List DV} (h : Shows TT (m + 2) 23 l) : ∃ x, l = eJob x := by
  obtain ⟨_, _, rfl, h0, _, _, rfl, h1, _, _, rfl, h2, _, _, rfl, h3, _, _, rfl, h4, _, _, rfl, h5, _, _, rfl, h6, _, _, rfl, h7, _, _, rfl, h8, _, _, rfl, h9, rfl⟩ := h
  obtain ⟨a0, rfl⟩ := sh_int h0
  obtain ⟨a1, rfl⟩ := sh_int h1
  obtain ⟨a2, rfl⟩ := sh_int h2
  obtain ⟨a3, rfl⟩ := sh_int h3
  obtain ⟨a4, rfl⟩ := sh_int h4
  obtain ⟨a5, rfl⟩ := sh_int h5
  obtain ⟨a6, rfl⟩ := sh_int h6
  obtain ⟨a7, rfl⟩ := sh_bool h7
  obtain ⟨a8, rfl⟩ := sh_int h8
  obtain ⟨a9, rfl⟩ := sh_int h9
  exact ⟨⟨a0, a1, a2, a3, a4, a5, a6, a7, a8, a9⟩, rfl⟩
theorem sh_Sint {m : Nat} {l : List DV} (h : Shows TT (m + 2) 57 l) : ∃ s : Sl Int, l = [.sl 1 s.n fun i => [eI (s.g i)]] := by
  obtain ⟨sz, n, row, rfl, hsz, hn, hr⟩ := h
  cases hsz
  have hrow : ∀ i, ∃ r : Int, row i = [eI r] := fun i => sh_int (hr i)
  obtain ⟨rd, hrd⟩ : ∃ rd : Nat → Int, row = fun i => [eI (rd i)] := ⟨fun i => Classical.choose (hrow i), funext fun i => Classical.choose_spec (hrow i)⟩
  subst hrd
  exact ⟨⟨n, rd, hn⟩, rfl⟩
theorem sh_Sbool {m : Nat} {l : List DV} (h : Shows TT (m + 2) 58 l) : ∃ s : Sl Bool, l = [.sl 1 s.n fun i => [eB (s.g i)]] := by
  obtain ⟨sz, n, row, rfl, hsz, hn, hr⟩ := h
  cases hsz
  have hrow : ∀ i, ∃ r : Bool, row i = [eB r] := fun i => sh_bool (hr i)
  obtain ⟨rd, hrd⟩ : ∃ rd : Nat → Bool, row = fun i => [eB (rd i)] := ⟨fun i => Classical.choose (hrow i), funext fun i => Classical.choose_spec (hrow i)⟩
  subst hrd
  exact ⟨⟨n, rd, hn⟩, rfl⟩
theorem sh_Win {m : Nat} {l : List DV} (h : Shows TT (m + 2) 185 l) : ∃ x, l = eWin x := by
  obtain ⟨_, _, rfl, h0, _, _, rfl, h1, rfl⟩ := h
  obtain ⟨a0, rfl⟩ := sh_int h0
  obtain ⟨a1, rfl⟩ := sh_int h1
  exact ⟨⟨a0, a1⟩, rfl⟩
theorem sh_Agg {m : Nat} {l : List DV} (h : Shows TT (m + 2) 186 l) : ∃ x, l = eAgg x := by
  obtain ⟨_, _, rfl, h0, _, _, rfl, h1, _, _, rfl, h2, _, _, rfl, h3, rfl⟩ := h
  obtain ⟨a0, rfl⟩ := sh_int h0
  obtain ⟨a1, rfl⟩ := sh_int h1
  obtain ⟨a2, rfl⟩ := sh_int h2
  obtain ⟨a3, rfl⟩ := sh_int h3
  exact ⟨⟨a0, a1, a2, a3⟩, rfl⟩
theorem sh_Row {m : Nat} {l : List DV} (h : Shows TT (m + 3) 188 l) : ∃ x, l = eRow x := by
  obtain ⟨_, _, rfl, h0, _, _, rfl, h1, _, _, rfl, h2, _, _, rfl, h3, _, _, rfl, h4, _, _, rfl, h5, rfl⟩ := h
  obtain ⟨a0, rfl⟩ := sh_int h0
  obtain ⟨a1, rfl⟩ := sh_Win h1
  obtain ⟨a2, rfl⟩ := sh_Agg h2
  obtain ⟨a3, rfl⟩ := sh_Agg h3
  obtain ⟨a4, rfl⟩ := sh_int h4
  obtain ⟨a5, rfl⟩ := sh_bool h5
  exact ⟨⟨a0, a1, a2, a3, a4, a5⟩, rfl⟩
theorem sh_SRow {m : Nat} {l : List DV} (h : Shows TT (m + 4) 25 l) : ∃ s : Sl RowT, l = [.sl 13 s.n fun i => eRow (s.g i)] := by
  obtain ⟨sz, n, row, rfl, hsz, hn, hr⟩ := h
  cases hsz
  have hrow : ∀ i, ∃ r : RowT, row i = eRow r := fun i => sh_Row (hr i)
  obtain ⟨rd, hrd⟩ : ∃ rd : Nat → RowT, row = fun i => eRow (rd i) := ⟨fun i => Classical.choose (hrow i), funext fun i => Classical.choose_spec (hrow i)⟩
  subst hrd
  exact ⟨⟨n, rd, hn⟩, rfl⟩
theorem sh_OpSt {m : Nat} {l : List DV} (h : Shows TT (m + 5) 27 l) : ∃ x, l = eOpSt x := by
  obtain ⟨_, _, rfl, h0, _, _, rfl, h1, rfl⟩ := h
  obtain ⟨a0, rfl⟩ := sh_int h0
  obtain ⟨a1, rfl⟩ := sh_SRow h1
  exact ⟨⟨a0, a1⟩, rfl⟩
theorem sh_Snap {m : Nat} {l : List DV} (h : Shows TT (m + 6) 155 l) : ∃ x, l = eSnap x := by
  obtain ⟨_, _, rfl, h0, _, _, rfl, h1, rfl⟩ := h
  obtain ⟨a0, rfl⟩ := sh_OpSt h0
  obtain ⟨a1, rfl⟩ := sh_Sint h1
  exact ⟨⟨a0, a1⟩, rfl⟩
theorem sh_SSnap {m : Nat} {l : List DV} (h : Shows TT (m + 7) 59 l) : ∃ s : Sl SnapT, l = [.sl 3 s.n fun i => eSnap (s.g i)] := by
  obtain ⟨sz, n, row, rfl, hsz, hn, hr⟩ := h
  cases hsz
  have hrow : ∀ i, ∃ r : SnapT, row i = eSnap r := fun i => sh_Snap (hr i)
  obtain ⟨rd, hrd⟩ : ∃ rd : Nat → SnapT, row = fun i => eSnap (rd i) := ⟨fun i => Classical.choose (hrow i), funext fun i => Classical.choose_spec (hrow i)⟩
  subst hrd
  exact ⟨⟨n, rd, hn⟩, rfl⟩
theorem sh_Safe {m : Nat} {l : List DV} (h : Shows TT (m + 8) 61 l) : ∃ x, l = eSafe x := by
  obtain ⟨_, _, rfl, h0, _, _, rfl, h1, _, _, rfl, h2, rfl⟩ := h
  obtain ⟨a0, rfl⟩ := sh_int h0
  obtain ⟨a1, rfl⟩ := sh_Sint h1
  obtain ⟨a2, rfl⟩ := sh_SSnap h2
  exact ⟨⟨a0, a1, a2⟩, rfl⟩
theorem sh_Ckp {m : Nat} {l : List DV} (h : Shows TT (m + 9) 63 l) : ∃ x, l = eCkp x := by
  obtain ⟨_, _, rfl, h0, _, _, rfl, h1, _, _, rfl, h2, _, _, rfl, h3, _, _, rfl, h4, _, _, rfl, h5, rfl⟩ := h
  obtain ⟨a0, rfl⟩ := sh_int h0
  obtain ⟨a1, rfl⟩ := sh_bool h1
  obtain ⟨a2, rfl⟩ := sh_Sint h2
  obtain ⟨a3, rfl⟩ := sh_Sbool h3
  obtain ⟨a4, rfl⟩ := sh_SSnap h4
  obtain ⟨a5, rfl⟩ := sh_Safe h5
  exact ⟨⟨a0, a1, a2, a3, a4, a5⟩, rfl⟩
theorem lawRow (ls : List (List DV)) (h : ShowsL TT 9 [23, 63] ls) : Meets Tryz.prog 6 (xtsIn TT [23, 63] ls) ⟨.one (.c (.d (.v (.bool true)))), [none, none]⟩ := by
  rcases ls with _ | ⟨l0, _ | ⟨l1, _ | ⟨l2, ls⟩⟩⟩
  · exact h.elim
  · exact h.2.elim
  · obtain ⟨x0, rfl⟩ := sh_Job h.1
    obtain ⟨x1, rfl⟩ := sh_Ckp h.2.1
    exact m_law x0 x1
  · exact h.2.2.elim
theorem own : ownKnob Tryz.prog.godebug = none := by kernel_rfl
theorem laidOut : laidOutB Tryz.prog = true := by kernel_rfl
set_option maxRecDepth 100000 in
theorem lifted (os : Os) (started : os.Started) (H : Type) (enc : TypeId × Value → H) :
    ReturnsInHanded {} Tryz.checked os 6 .any (YtmgeaomdilinnaaGreat.Rows.fnExactCkpSaveSpec.pre6 enc Tryz.prog Tryz.f6 YtmgeaomdilinnaaGreat.Rows.fnExactCkpSaveRow.domain false)
      (YtmgeaomdilinnaaGreat.Rows.fnExactCkpSaveSpec.post enc Tryz.prog Tryz.f6 false true false false) := by
  refine returnsInHanded_of_change_sized (C := Tryz.checked) own started (by kernel_rfl) Tryz.func6
    (ChangeSpec.witness6 (enc := enc) (C := Tryz.checked) false ⟨#[], #[.agg #[.int .i64 0, .int .i64 0, .int .i64 0, .int .i64 0, .int .i64 0, .int .i64 0, .int .i64 0, .bool false, .int .i64 0, .int .i64 0], .agg #[.int .i64 0, .bool false, .slice none 0 0, .slice none 0 0, .slice none 0 0, .int .i64 0, .slice none 0 0, .slice none 0 0]], []⟩ 8 (by kernel_rfl) (by kernel_rfl) (by kernel_rfl) (by kernel_rfl)) ?_
  intro W base args ds gs before hval0 hW hcnd hsz0 _
  refine law_contract (P := Tryz.prog) (T := TT) ttok (n := 9) (tb := 4) laidOut (by decide +kernel) (by kernel_rfl) rfl Tryz.underlying4 rfl ?_ ?_ W base args ds gs before hval0 hW
  · intro H ds hl
    match ds, hl with
    | [d0, d1], _ => exact ⟨rfl, rfl, rfl⟩
  · rw [Tryz.params6]
    intro ls hls
    exact lawRow ls hls
theorem over : YtmgeaomdilinnaaGreat.Rows.fnExactCkpSaveRow.holds YtmgeaomdilinnaaGreat.Tryz.pinned (OpenSpec.ofChange YtmgeaomdilinnaaGreat.Rows.fnExactCkpSaveSpec) :=
  OpenClaim.holds_of_wide 6 Tryz.f6 rfl rfl rfl rfl rfl rfl rfl ⟨rfl, rfl, rfl, rfl, rfl⟩ rfl rfl rfl rfl rfl (by kernel_rfl) Tryz.func6 (by kernel_rfl)
    (of_decide_eq_true (by kernel_rfl)) (by unfold Func.isWrapper; first | (rw [if_pos (by decide +kernel)]; kernel_rfl) | (rw [if_neg (by decide +kernel)]; exact ⟨rfl, rfl⟩))
    (fun os started H enc _ => lifted os started H enc)
end Go.Rk
namespace Go.Proofs.YtmgeaomdilinnaaGreat
theorem fnExactCkpSave_holds : Rows.FnExactCkpSaveSaid := Go.Rk.over
#print axioms fnExactCkpSave_holds
end Go.Proofs.YtmgeaomdilinnaaGreat
