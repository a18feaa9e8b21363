/- FnExactTabPut answers true at every input, and its input reads as before: no condition. -/
import Derived.Test.YtbkpfnddpnccmaaTA24
import Derived.Test.YtbkpfnddpnccmaaTA23
import Derived.Test.YtbkpfnddpnccmaaRows
import Derived.WalkKit
import Derived.ProofKit
import Derived.OpenShut
import Derived.ShutString
import Derived.ChangeOld
import Derived.SizedLaws
import Derived.DataShut
namespace Go.Rk
set_option linter.unusedSimpArgs false
set_option linter.unusedVariables false
open Go.Proofs Go.ChangeShapes Go.WideShapes Go.ChangeAt Go.RowKit
def EXB : FuncId → List Nat × Bool := fun f => (if f = 43 then [0] else [], false)
set_option maxRecDepth 100000 in
set_option maxHeartbeats 1000000 in
theorem m_law (s : Sl TabT) (r : TabT) : Meets Try.prog 6 [.c (.d (.sl 7 s.n fun i => eTab (s.g i))), xd (eTab r)] ⟨.one (.c (.d (eB true))), [none, none]⟩ := by
  obtain ⟨m, g, hm⟩ := s
  show Meets _ _ [.c (.d (.sl 7 m fun i => eTab (g i))), xd (eTab r)] _
  obtain ⟨y, hy⟩ : ∃ y : Int, y = szN m 1048576 := ⟨_, rfl⟩
  have hc := sz_TabS m hm g 1048576 (by omega) (by omega) y hy
  have hs := szN_spec (n := m) (l := 1048576) (by omega) (by omega)
  rw [← hy] at hs
  have hL := lst_of zTab m g
  generalize (List.range m).map g = l at hL
  obtain ⟨n0, hn0⟩ : ∃ n0, n0 = (tPut r l).length := ⟨_, rfl⟩
  obtain ⟨G, hG⟩ : ∃ G : Nat → TabT, G = fun k => (tPut r l).getD k zTab := ⟨_, rfl⟩
  have h1 : Lst zTab (tPut r l) n0 G := ⟨hn0, fun k _ => by rw [hG]⟩
  have hn1m : n0 ≤ m + 1 := by rw [hn0, hL.1]; exact tPut_len _ _
  obtain ⟨x1, hx1⟩ : ∃ x : Int, x = 1 + 7 * (m : Int) := ⟨_, rfl⟩
  obtain ⟨x2, hx2⟩ : ∃ x : Int, x = 1 + 7 * (n0 : Int) := ⟨_, rfl⟩
  obtain ⟨IM, hIM⟩ : ∃ r : Nat → TabT, r = fun (i : Nat) => mkTab (1 + 7 * (i : Int)) := ⟨_, rfl⟩
  have hp1 : 0 ≤ x1 := by rw [hx1]; omega
  have hp2 : 0 ≤ x2 := by rw [hx2]; omega
  refine meets_of (H := [6]) (EX := EXB) ttok mixed Try.func6 rfl (by kernel_rfl) (by decide) ?_
  generalize hA : real = A
  generalize hM : Meets Try.prog = M
  cbv
  repeat' first
    | apply And.intro
    | exact True.intro
    | with_reducible rfl
    | exact same_of hA rfl
    | refine br_of hA (fun _ => ?_) (fun _ => ?_)
    | exact imp_of hA id
    | (refine imp_of hA ?_; subst hA; simp only [real, Bool.true_and]; exact id)
    | (refine ind_of hA ?_; decide +kernel)
    | (refine call_of hA hM _ hc ?_; cbv)
  rename_i hge
  have hbd : m ≤ 1048576 := hs.2.2 (by subst hA; have h : ¬ y < 0 := of_decide_eq_false hge; omega)
  have hnL : n0 ≤ maxLen := Nat.le_trans (show n0 ≤ 1048577 by omega) (by decide)
  have hS := c_sPut l m g hL (by omega) r n0 G h1
  have hI := c_Put l m g hL (by omega) r n0 G h1
  have hto := meets_frz (to_TabS m hbd g) rfl
  have hmk := mark_Tab m (by omega) g x1 hx1 IM (fun i => by rw [hIM])
  have hml := mark_Tab n0 (by omega) G x2 hx2 IM (fun i => by rw [hIM])
  have hhd := held_Tab n0 (by omega) x2 hx2 IM (fun i => by rw [hIM])
  repeat' first
    | apply And.intro
    | exact True.intro
    | with_reducible rfl
    | exact same_of hA rfl
    | refine br_of hA (fun _ => ?_) (fun _ => ?_)
    | exact imp_of hA id
    | (refine imp_of hA ?_; subst hA; simp only [real, Bool.true_and]; exact id)
    | (refine ind_of hA ?_; decide +kernel)
    | (refine call_of hA hM _ (to_Tab r) ?_; cbv)
    | (refine call_of hA hM _ hto ?_; cbv)
    | (refine call_of hA hM _ hS ?_; cbv)
    | exact flat_tab hA _ _
  refine stop_of hA ⟨[(0, .c (.d (.sl 7 m fun i => eTab (g i)))), (3, .c (.bp 192 1 0)), (6, .c (.own 1408 0 n0 1))], [(192, 1, .box ((eTab r).map .d)), (1408, 1, .arr 7 n0 fun i => eTab (G i))]⟩ (cov_of ?_ ?_ ?_) ?_
  · cbv; try (subst hA; repeat' first | apply And.intro | exact True.intro | rfl | (intro _ _; rfl))
  · cbv; try (subst hA; repeat' first | apply And.intro | exact True.intro | rfl | (intro _ _; rfl))
  · cbv; try (subst hA; repeat' first | apply And.intro | exact True.intro | rfl | exact .inr trivial)
  cbv
  refine call_of hA hM _ (to_TabS m hbd g) ?_
  cbv
  repeat' first
    | apply And.intro
    | exact True.intro
    | with_reducible rfl
    | exact same_of hA rfl
    | refine br_of hA (fun _ => ?_) (fun _ => ?_)
    | exact imp_of hA id
    | (refine imp_of hA ?_; subst hA; simp only [real, Bool.true_and]; exact id)
    | (refine ind_of hA ?_; decide +kernel)
    | (refine call_of hA hM _ (to_Tab r) ?_; cbv)
    | (refine call_of hA hM _ hto ?_; cbv)
    | (refine call_of hA hM _ hI ?_; cbv)
    | (refine call_of hA hM _ hmk ?_; cbv)
    | (refine call_of hA hM _ hml ?_; cbv)
    | exact flat_tab hA _ _
    | (refine call_of2 hA hM _ hI (congrArg (fun f => [XT.c (.d (.sl 7 m f)), xd (eTab r)]) (sub0 hA fun i => eTab (g i))) ?_; cbv)
    | (refine call_of2 hA hM _ (eq_TabS n0 hnL G) (congrArg (fun f => [XT.c (.d (.sl 7 n0 f)), XT.c (.d (.sl 7 n0 f))]) (sub0 hA fun i => eTab (G i))) ?_; cbv)
    | (refine call_of2 hA hM _ (eq_TabS m hm g) (congrArg (fun f => [XT.c (.d (.sl 7 m f)), XT.c (.d (.sl 7 m fun i => eTab (g i)))]) (sub0 hA fun i => eTab (g i))) ?_; cbv)
    | (refine call_of2 hA hM _ hhd (congrArg (fun f => [XT.c (.d (.sl 7 n0 f)), XT.c (.d (eI 1))]) (sub0 hA fun i => eTab (IM i))) ?_; cbv)
    | (exfalso; rename_i h; subst hA; simp [real] at h; done)
  all_goals
    exfalso
    rename_i h
    subst hA
    first
      | (have h9 : (bif decide (x1 < 0) then true else !true) = true := h
         rw [decide_eq_false (Int.not_lt.2 hp1)] at h9
         cases h9)
      | (have h9 : decide (x2 < 0) = true := h
         exact absurd (of_decide_eq_true h9) (Int.not_lt.2 hp2))
theorem sh_int {m : Nat} {l : List DV} (h : Shows TT (m + 1) 3 l) : ∃ x, l = [eI x] := by
  obtain ⟨x, h, _⟩ := h
  exact ⟨x, h⟩
theorem sh_Win {m : Nat} {l : List DV} (h : Shows TT (m + 2) 26 l) : ∃ x, l = eWin x := by
  obtain ⟨_, _, rfl, h0, _, _, rfl, h1, rfl⟩ := h
  obtain ⟨a0, rfl⟩ := sh_int h0
  obtain ⟨a1, rfl⟩ := sh_int h1
  exact ⟨⟨a0, a1⟩, rfl⟩
theorem sh_Agg {m : Nat} {l : List DV} (h : Shows TT (m + 2) 71 l) : ∃ x, l = eAgg x := by
  obtain ⟨_, _, rfl, h0, _, _, rfl, h1, _, _, rfl, h2, _, _, rfl, h3, rfl⟩ := h
  obtain ⟨a0, rfl⟩ := sh_int h0
  obtain ⟨a1, rfl⟩ := sh_int h1
  obtain ⟨a2, rfl⟩ := sh_int h2
  obtain ⟨a3, rfl⟩ := sh_int h3
  exact ⟨⟨a0, a1, a2, a3⟩, rfl⟩
theorem sh_Tab {m : Nat} {l : List DV} (h : Shows TT (m + 3) 73 l) : ∃ x, l = eTab x := by
  obtain ⟨_, _, rfl, h0, _, _, rfl, h1, _, _, rfl, h2, rfl⟩ := h
  obtain ⟨a0, rfl⟩ := sh_int h0
  obtain ⟨a1, rfl⟩ := sh_Win h1
  obtain ⟨a2, rfl⟩ := sh_Agg h2
  exact ⟨⟨a0, a1, a2⟩, rfl⟩
theorem sh_STab {m : Nat} {l : List DV} (h : Shows TT (m + 4) 70 l) : ∃ s : Sl TabT, l = [.sl 7 s.n fun i => eTab (s.g i)] := by
  obtain ⟨sz, n, row, rfl, hsz, hn, hr⟩ := h
  cases hsz
  have hrow : ∀ i, ∃ r : TabT, row i = eTab r := fun i => sh_Tab (hr i)
  obtain ⟨rd, hrd⟩ : ∃ rd : Nat → TabT, row = fun i => eTab (rd i) := ⟨fun i => Classical.choose (hrow i), funext fun i => Classical.choose_spec (hrow i)⟩
  subst hrd
  exact ⟨⟨n, rd, hn⟩, rfl⟩
theorem lawRow (ls : List (List DV)) (h : ShowsL TT 4 [70, 73] ls) : Meets Try.prog 6 (xtsIn TT [70, 73] ls) ⟨.one (.c (.d (.v (.bool true)))), [none, none]⟩ := by
  rcases ls with _ | ⟨l0, _ | ⟨l1, _ | ⟨l2, ls⟩⟩⟩
  · exact h.elim
  · exact h.2.elim
  · obtain ⟨x0, rfl⟩ := sh_STab h.1
    obtain ⟨x1, rfl⟩ := sh_Tab h.2.1
    exact m_law x0 x1
  · exact h.2.2.elim
theorem own : ownKnob Try.prog.godebug = none := by kernel_rfl
theorem laidOut : laidOutB Try.prog = true := by kernel_rfl
set_option maxRecDepth 100000 in
theorem lifted (os : Os) (started : os.Started) (H : Type) (enc : TypeId × Value → H) :
    ReturnsInHanded {} Try.checked os 6 .any (Ytbkpfnddpnccmaa.Rows.fnExactTabPutSpec.pre6 enc Try.prog Try.f6 Ytbkpfnddpnccmaa.Rows.fnExactTabPutRow.domain false)
      (Ytbkpfnddpnccmaa.Rows.fnExactTabPutSpec.post enc Try.prog Try.f6 false true false false) := by
  refine returnsInHanded_of_change_sized (C := Try.checked) own started (by kernel_rfl) Try.func6
    (ChangeSpec.witness6 (enc := enc) (C := Try.checked) false ⟨#[], #[.slice none 0 0, .agg #[.int .i64 0, .int .i64 0, .int .i64 0, .int .i64 0, .int .i64 0, .int .i64 0, .int .i64 0]], []⟩ 8 (by kernel_rfl) (by kernel_rfl) (by kernel_rfl) (by kernel_rfl)) ?_
  intro W base args ds gs before hval0 hW hcnd hsz0 _
  refine law_contract (P := Try.prog) (T := TT) ttok (n := 4) (tb := 4) laidOut (by decide +kernel) (by kernel_rfl) rfl Try.underlying4 rfl ?_ ?_ W base args ds gs before hval0 hW
  · intro H ds hl
    match ds, hl with
    | [d0, d1], _ => exact ⟨rfl, rfl, rfl⟩
  · rw [Try.params6]
    intro ls hls
    exact lawRow ls hls
theorem over : Ytbkpfnddpnccmaa.Rows.fnExactTabPutRow.holds Ytbkpfnddpnccmaa.Try.pinned (OpenSpec.ofChange Ytbkpfnddpnccmaa.Rows.fnExactTabPutSpec) :=
  OpenClaim.holds_of_wide 6 Try.f6 rfl rfl rfl rfl rfl rfl rfl ⟨rfl, rfl, rfl, rfl, rfl⟩ rfl rfl rfl rfl rfl (by kernel_rfl) Try.func6 (by kernel_rfl)
    (of_decide_eq_true (by kernel_rfl)) (by unfold Func.isWrapper; first | (rw [if_pos (by decide +kernel)]; kernel_rfl) | (rw [if_neg (by decide +kernel)]; exact ⟨rfl, rfl⟩))
    (fun os started H enc _ => lifted os started H enc)
end Go.Rk
namespace Go.Proofs.Ytbkpfnddpnccmaa
theorem fnExactTabPut_holds : Rows.FnExactTabPutSaid := Go.Rk.over
#print axioms fnExactTabPut_holds
end Go.Proofs.Ytbkpfnddpnccmaa
