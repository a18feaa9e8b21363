/- The walk over this seat's functions, part 9: what each of them answers, at all data. -/
import Derived.Test.YtmgeaomdilinnaaGreatM1
import Derived.Test.YtmgeaomdilinnaaGreatM2
import Derived.Test.YtmgeaomdilinnaaGreatM3
import Derived.Test.YtmgeaomdilinnaaGreatM4
import Derived.Test.YtmgeaomdilinnaaGreatM5
import Derived.Test.YtmgeaomdilinnaaGreatM6
import Derived.Test.YtmgeaomdilinnaaGreatM7
import Derived.Test.YtmgeaomdilinnaaGreatM8
import Derived.Test.YtmgeaomdilinnaaGreatRows
import Derived.WalkKit
import Derived.ProofKit
import Derived.OpenShut
import Derived.ShutString
import Derived.ChangeOld
import Derived.SizedLaws
import Derived.DataShut
/- FnExactTskPut answers true at every input, and its input reads as before: no condition. -/
namespace Go.Rk
set_option linter.unusedSimpArgs false
set_option linter.unusedVariables false
open Go.Proofs Go.ChangeShapes Go.WideShapes Go.ChangeAt Go.RowKit
set_option maxRecDepth 100000
set_option maxHeartbeats 4000000
theorem sh_int {m : Nat} {l : List DV} (h : Shows TT (m + 1) 3 l) : ∃ x, l = [eI x] := by
  obtain ⟨x, h, _⟩ := h
  exact ⟨x, h⟩
theorem sh_bool {m : Nat} {l : List DV} (h : Shows TT (m + 1) 4 l) : ∃ x, l = [eB x] := h
theorem sh_Job {m : Nat} {l : List DV} (h : Shows TT (m + 2) 23 l) : ∃ x, l = eJob x := by
  obtain ⟨_, _, rfl, h0, _, _, rfl, h1, _, _, rfl, h2, _, _, rfl, h3, _, _, rfl, h4, _, _, rfl, h5, _, _, rfl, h6, _, _, rfl, h7, _, _, rfl, h8, _, _, rfl, h9, rfl⟩ := h
  obtain ⟨a0, rfl⟩ := sh_int h0
  obtain ⟨a1, rfl⟩ := sh_int h1
  obtain ⟨a2, rfl⟩ := sh_int h2
  obtain ⟨a3, rfl⟩ := sh_int h3
  obtain ⟨a4, rfl⟩ := sh_int h4
  obtain ⟨a5, rfl⟩ := sh_int h5
  obtain ⟨a6, rfl⟩ := sh_int h6
  obtain ⟨a7, rfl⟩ := sh_bool h7
  obtain ⟨a8, rfl⟩ := sh_int h8
  obtain ⟨a9, rfl⟩ := sh_int h9
  exact ⟨⟨a0, a1, a2, a3, a4, a5, a6, a7, a8, a9⟩, rfl⟩
theorem sh_Itm {m : Nat} {l : List DV} (h : Shows TT (m + 2) 35 l) : ∃ x, l = eItm x := by
  obtain ⟨_, _, rfl, h0, _, _, rfl, h1, _, _, rfl, h2, _, _, rfl, h3, _, _, rfl, h4, rfl⟩ := h
  obtain ⟨a0, rfl⟩ := sh_int h0
  obtain ⟨a1, rfl⟩ := sh_int h1
  obtain ⟨a2, rfl⟩ := sh_int h2
  obtain ⟨a3, rfl⟩ := sh_int h3
  obtain ⟨a4, rfl⟩ := sh_int h4
  exact ⟨⟨a0, a1, a2, a3, a4⟩, rfl⟩
theorem sh_SItm {m : Nat} {l : List DV} (h : Shows TT (m + 3) 122 l) : ∃ s : Sl ItmT, l = [.sl 5 s.n fun i => eItm (s.g i)] := by
  obtain ⟨sz, n, row, rfl, hsz, hn, hr⟩ := h
  cases hsz
  have hrow : ∀ i, ∃ r : ItmT, row i = eItm r := fun i => sh_Itm (hr i)
  obtain ⟨rd, hrd⟩ : ∃ rd : Nat → ItmT, row = fun i => eItm (rd i) := ⟨fun i => Classical.choose (hrow i), funext fun i => Classical.choose_spec (hrow i)⟩
  subst hrd
  exact ⟨⟨n, rd, hn⟩, rfl⟩
theorem sh_TskIn {m : Nat} {l : List DV} (h : Shows TT (m + 4) 124 l) : ∃ x, l = eTskIn x := by
  obtain ⟨_, _, rfl, h0, _, _, rfl, h1, _, _, rfl, h2, rfl⟩ := h
  obtain ⟨a0, rfl⟩ := sh_SItm h0
  obtain ⟨a1, rfl⟩ := sh_int h1
  obtain ⟨a2, rfl⟩ := sh_bool h2
  exact ⟨⟨a0, a1, a2⟩, rfl⟩
theorem sh_STskIn {m : Nat} {l : List DV} (h : Shows TT (m + 5) 24 l) : ∃ s : Sl TskInT, l = [.sl 3 s.n fun i => eTskIn (s.g i)] := by
  obtain ⟨sz, n, row, rfl, hsz, hn, hr⟩ := h
  cases hsz
  have hrow : ∀ i, ∃ r : TskInT, row i = eTskIn r := fun i => sh_TskIn (hr i)
  obtain ⟨rd, hrd⟩ : ∃ rd : Nat → TskInT, row = fun i => eTskIn (rd i) := ⟨fun i => Classical.choose (hrow i), funext fun i => Classical.choose_spec (hrow i)⟩
  subst hrd
  exact ⟨⟨n, rd, hn⟩, rfl⟩
theorem sh_Win {m : Nat} {l : List DV} (h : Shows TT (m + 2) 185 l) : ∃ x, l = eWin x := by
  obtain ⟨_, _, rfl, h0, _, _, rfl, h1, rfl⟩ := h
  obtain ⟨a0, rfl⟩ := sh_int h0
  obtain ⟨a1, rfl⟩ := sh_int h1
  exact ⟨⟨a0, a1⟩, rfl⟩
theorem sh_Agg {m : Nat} {l : List DV} (h : Shows TT (m + 2) 186 l) : ∃ x, l = eAgg x := by
  obtain ⟨_, _, rfl, h0, _, _, rfl, h1, _, _, rfl, h2, _, _, rfl, h3, rfl⟩ := h
  obtain ⟨a0, rfl⟩ := sh_int h0
  obtain ⟨a1, rfl⟩ := sh_int h1
  obtain ⟨a2, rfl⟩ := sh_int h2
  obtain ⟨a3, rfl⟩ := sh_int h3
  exact ⟨⟨a0, a1, a2, a3⟩, rfl⟩
theorem sh_Row {m : Nat} {l : List DV} (h : Shows TT (m + 3) 188 l) : ∃ x, l = eRow x := by
  obtain ⟨_, _, rfl, h0, _, _, rfl, h1, _, _, rfl, h2, _, _, rfl, h3, _, _, rfl, h4, _, _, rfl, h5, rfl⟩ := h
  obtain ⟨a0, rfl⟩ := sh_int h0
  obtain ⟨a1, rfl⟩ := sh_Win h1
  obtain ⟨a2, rfl⟩ := sh_Agg h2
  obtain ⟨a3, rfl⟩ := sh_Agg h3
  obtain ⟨a4, rfl⟩ := sh_int h4
  obtain ⟨a5, rfl⟩ := sh_bool h5
  exact ⟨⟨a0, a1, a2, a3, a4, a5⟩, rfl⟩
theorem sh_SRow {m : Nat} {l : List DV} (h : Shows TT (m + 4) 25 l) : ∃ s : Sl RowT, l = [.sl 13 s.n fun i => eRow (s.g i)] := by
  obtain ⟨sz, n, row, rfl, hsz, hn, hr⟩ := h
  cases hsz
  have hrow : ∀ i, ∃ r : RowT, row i = eRow r := fun i => sh_Row (hr i)
  obtain ⟨rd, hrd⟩ : ∃ rd : Nat → RowT, row = fun i => eRow (rd i) := ⟨fun i => Classical.choose (hrow i), funext fun i => Classical.choose_spec (hrow i)⟩
  subst hrd
  exact ⟨⟨n, rd, hn⟩, rfl⟩
theorem sh_OpSt {m : Nat} {l : List DV} (h : Shows TT (m + 5) 27 l) : ∃ x, l = eOpSt x := by
  obtain ⟨_, _, rfl, h0, _, _, rfl, h1, rfl⟩ := h
  obtain ⟨a0, rfl⟩ := sh_int h0
  obtain ⟨a1, rfl⟩ := sh_SRow h1
  exact ⟨⟨a0, a1⟩, rfl⟩
theorem sh_Pane {m : Nat} {l : List DV} (h : Shows TT (m + 3) 191 l) : ∃ x, l = ePane x := by
  obtain ⟨_, _, rfl, h0, _, _, rfl, h1, _, _, rfl, h2, _, _, rfl, h3, _, _, rfl, h4, rfl⟩ := h
  obtain ⟨a0, rfl⟩ := sh_int h0
  obtain ⟨a1, rfl⟩ := sh_Win h1
  obtain ⟨a2, rfl⟩ := sh_int h2
  obtain ⟨a3, rfl⟩ := sh_int h3
  obtain ⟨a4, rfl⟩ := sh_Agg h4
  exact ⟨⟨a0, a1, a2, a3, a4⟩, rfl⟩
theorem sh_SPane {m : Nat} {l : List DV} (h : Shows TT (m + 4) 28 l) : ∃ s : Sl PaneT, l = [.sl 9 s.n fun i => ePane (s.g i)] := by
  obtain ⟨sz, n, row, rfl, hsz, hn, hr⟩ := h
  cases hsz
  have hrow : ∀ i, ∃ r : PaneT, row i = ePane r := fun i => sh_Pane (hr i)
  obtain ⟨rd, hrd⟩ : ∃ rd : Nat → PaneT, row = fun i => ePane (rd i) := ⟨fun i => Classical.choose (hrow i), funext fun i => Classical.choose_spec (hrow i)⟩
  subst hrd
  exact ⟨⟨n, rd, hn⟩, rfl⟩
theorem sh_Lat {m : Nat} {l : List DV} (h : Shows TT (m + 3) 194 l) : ∃ x, l = eLat x := by
  obtain ⟨_, _, rfl, h0, _, _, rfl, h1, rfl⟩ := h
  obtain ⟨a0, rfl⟩ := sh_Itm h0
  obtain ⟨a1, rfl⟩ := sh_Win h1
  exact ⟨⟨a0, a1⟩, rfl⟩
theorem sh_SLat {m : Nat} {l : List DV} (h : Shows TT (m + 4) 29 l) : ∃ s : Sl LatT, l = [.sl 7 s.n fun i => eLat (s.g i)] := by
  obtain ⟨sz, n, row, rfl, hsz, hn, hr⟩ := h
  cases hsz
  have hrow : ∀ i, ∃ r : LatT, row i = eLat r := fun i => sh_Lat (hr i)
  obtain ⟨rd, hrd⟩ : ∃ rd : Nat → LatT, row = fun i => eLat (rd i) := ⟨fun i => Classical.choose (hrow i), funext fun i => Classical.choose_spec (hrow i)⟩
  subst hrd
  exact ⟨⟨n, rd, hn⟩, rfl⟩
theorem sh_Txn {m : Nat} {l : List DV} (h : Shows TT (m + 5) 31 l) : ∃ x, l = eTxn x := by
  obtain ⟨_, _, rfl, h0, _, _, rfl, h1, _, _, rfl, h2, rfl⟩ := h
  obtain ⟨a0, rfl⟩ := sh_int h0
  obtain ⟨a1, rfl⟩ := sh_SPane h1
  obtain ⟨a2, rfl⟩ := sh_SLat h2
  exact ⟨⟨a0, a1, a2⟩, rfl⟩
theorem sh_Tsk {m : Nat} {l : List DV} (h : Shows TT (m + 6) 33 l) : ∃ x, l = eTsk x := by
  obtain ⟨_, _, rfl, h0, _, _, rfl, h1, _, _, rfl, h2, _, _, rfl, h3, rfl⟩ := h
  obtain ⟨a0, rfl⟩ := sh_STskIn h0
  obtain ⟨a1, rfl⟩ := sh_OpSt h1
  obtain ⟨a2, rfl⟩ := sh_int h2
  obtain ⟨a3, rfl⟩ := sh_Txn h3
  exact ⟨⟨a0, a1, a2, a3⟩, rfl⟩
theorem lawRow (ls : List (List DV)) (h : ShowsL TT 6 [23, 33, 3, 35] ls) : Meets Tryz.prog 3 (xtsIn TT [23, 33, 3, 35] ls) ⟨.one (.c (.d (.v (.bool true)))), [none, none, none, none]⟩ := by
  rcases ls with _ | ⟨l0, _ | ⟨l1, _ | ⟨l2, _ | ⟨l3, _ | ⟨l4, ls⟩⟩⟩⟩⟩
  · exact h.elim
  · exact h.2.elim
  · exact h.2.2.elim
  · exact h.2.2.2.elim
  · obtain ⟨x0, rfl⟩ := sh_Job h.1
    obtain ⟨x1, rfl⟩ := sh_Tsk h.2.1
    obtain ⟨x2, rfl⟩ := sh_int h.2.2.1
    obtain ⟨x3, rfl⟩ := sh_Itm h.2.2.2.1
    exact m_law x0 x1 x2 x3
  · exact h.2.2.2.2.elim
theorem own : ownKnob Tryz.prog.godebug = none := by kernel_rfl
theorem laidOut : laidOutB Tryz.prog = true := by kernel_rfl
set_option maxRecDepth 100000 in
theorem lifted (os : Os) (started : os.Started) (H : Type) (enc : TypeId × Value → H) :
    ReturnsInHanded {} Tryz.checked os 3 .any (YtmgeaomdilinnaaGreat.Rows.fnExactTskPutSpec.pre6 enc Tryz.prog Tryz.f3 YtmgeaomdilinnaaGreat.Rows.fnExactTskPutRow.domain false)
      (YtmgeaomdilinnaaGreat.Rows.fnExactTskPutSpec.post enc Tryz.prog Tryz.f3 false true false false) := by
  refine returnsInHanded_of_change_sized (C := Tryz.checked) own started (by kernel_rfl) Tryz.func3
    (ChangeSpec.witness6 (enc := enc) (C := Tryz.checked) false ⟨#[], #[.agg #[.int .i64 0, .int .i64 0, .int .i64 0, .int .i64 0, .int .i64 0, .int .i64 0, .int .i64 0, .bool false, .int .i64 0, .int .i64 0], .agg #[.slice none 0 0, .int .i64 0, .slice none 0 0, .int .i64 0, .int .i64 0, .slice none 0 0, .slice none 0 0], .int .i64 0, .agg #[.int .i64 0, .int .i64 0, .int .i64 0, .int .i64 0, .int .i64 0]], []⟩ 8 (by kernel_rfl) (by kernel_rfl) (by kernel_rfl) (by kernel_rfl)) ?_
  intro W base args ds gs before hval0 hW hcnd hsz0 _
  refine law_contract (P := Tryz.prog) (T := TT) ttok (n := 6) (tb := 4) laidOut (by decide +kernel) (by kernel_rfl) rfl Tryz.underlying4 rfl ?_ ?_ W base args ds gs before hval0 hW
  · intro H ds hl
    match ds, hl with
    | [d0, d1, d2, d3], _ => exact ⟨rfl, rfl, rfl⟩
  · rw [Tryz.params3]
    intro ls hls
    exact lawRow ls hls
theorem over : YtmgeaomdilinnaaGreat.Rows.fnExactTskPutRow.holds YtmgeaomdilinnaaGreat.Tryz.pinned (OpenSpec.ofChange YtmgeaomdilinnaaGreat.Rows.fnExactTskPutSpec) :=
  OpenClaim.holds_of_wide 3 Tryz.f3 rfl rfl rfl rfl rfl rfl rfl ⟨rfl, rfl, rfl, rfl, rfl⟩ rfl rfl rfl rfl rfl (by kernel_rfl) Tryz.func3 (by kernel_rfl)
    (of_decide_eq_true (by kernel_rfl)) (by unfold Func.isWrapper; first | (rw [if_pos (by decide +kernel)]; kernel_rfl) | (rw [if_neg (by decide +kernel)]; exact ⟨rfl, rfl⟩))
    (fun os started H enc _ => lifted os started H enc)
end Go.Rk
namespace Go.Proofs.YtmgeaomdilinnaaGreat
theorem fnExactTskPut_holds : Rows.FnExactTskPutSaid := Go.Rk.over
#print axioms fnExactTskPut_holds
end Go.Proofs.YtmgeaomdilinnaaGreat
