/- FnExactSpcPairs answers true at every input, and its input reads as before: no condition. -/
import Derived.Test.YtbkpfnddpnccmaaTA7
import Derived.Test.YtbkpfnddpnccmaaRows
import Derived.WalkKit
import Derived.ProofKit
import Derived.OpenShut
import Derived.ShutString
import Derived.ChangeOld
import Derived.SizedLaws
namespace Go.Rk
set_option linter.unusedSimpArgs false
set_option linter.unusedVariables false
open Go.Proofs Go.ChangeShapes Go.WideShapes Go.ChangeAt Go.RowKit
def EXB : FuncId → List Nat × Bool := fun f => (if f = 34 then [0] else if f = 35 then [0] else [], false)
theorem flat_lat {A : Ar} (hA : real = A) (n : Nat) (G : Nat → LatT) : A.flat n (fun i => eLat (G i)) := by
  subst hA
  intro i _ x hx
  simp only [eLat, List.mem_cons, List.not_mem_nil, or_false] at hx
  rcases hx with rfl | rfl | rfl | rfl | rfl | rfl | rfl <;> exact ⟨_, rfl⟩
set_option maxRecDepth 100000 in
set_option maxHeartbeats 1000000 in
theorem m_law (j : JobT) (s : Sl ItmT) : Meets Try.prog 5 [xd (eJob j), .c (.d (.sl 5 s.n fun i => eItm (s.g i)))] ⟨.one (.c (.d (eB true))), [none, none]⟩ := by
  obtain ⟨m, g, hm⟩ := s
  show Meets _ _ [xd (eJob j), .c (.d (.sl 5 m fun i => eItm (g i)))] _
  obtain ⟨y, hy⟩ : ∃ y : Int, y = szN m 1048576 := ⟨_, rfl⟩
  have hc := sz_ItmS m hm g 1048576 (by omega) (by omega) y hy
  have hs := szN_spec (n := m) (l := 1048576) (by omega) (by omega)
  rw [← hy] at hs
  obtain ⟨n0, hn0⟩ : ∃ n0, n0 = (spcL j m g).length := ⟨_, rfl⟩
  obtain ⟨G, hG⟩ : ∃ G : Nat → LatT, G = fun k => (spcL j m g).getD k zLat := ⟨_, rfl⟩
  have hl : Tells zLat eLat (spcL j m g) n0 (fun i => eLat (G i)) := ⟨hn0, fun k _ => by rw [hG]⟩
  have hn12 : n0 ≤ 12000 := by
    rw [hn0]; unfold spcL; split
    · rename_i hok
      have := pairsL_len j g m
      have := hok.2.1
      omega
    · exact Nat.zero_le _
  have hn1 : n0 ≤ 1048576 := Nat.le_trans hn12 (by decide)
  have hnL : n0 ≤ maxLen := Nat.le_trans hn12 (by decide)
  obtain ⟨x1, hx1⟩ : ∃ x : Int, x = 1 + 5 * (m : Int) := ⟨_, rfl⟩
  obtain ⟨x2, hx2⟩ : ∃ x : Int, x = 1 + 7 * (n0 : Int) := ⟨_, rfl⟩
  obtain ⟨IM, hIM⟩ : ∃ r : Nat → ItmT, r = fun (i : Nat) => mkItm (1 + 5 * (i : Int)) := ⟨_, rfl⟩
  obtain ⟨LM, hLM⟩ : ∃ r : Nat → LatT, r = fun (i : Nat) => mkLat (1 + 7 * (i : Int)) := ⟨_, rfl⟩
  have hp1 : 0 ≤ x1 := by rw [hx1]; omega
  have hp2 : 0 ≤ x2 := by rw [hx2]; omega
  have hS := c_sSpc j m hm g n0 G hl
  have hI := c_Spc j m hm g n0 G hl
  refine meets_of (H := [6]) (EX := EXB) ttok mixed Try.func5 rfl (by kernel_rfl) (by decide) ?_
  generalize hA : real = A
  generalize hM : Meets Try.prog = M
  cbv
  repeat' first
    | apply And.intro
    | exact True.intro
    | with_reducible rfl
    | exact same_of hA rfl
    | refine br_of hA (fun _ => ?_) (fun _ => ?_)
    | exact imp_of hA id
    | (refine imp_of hA ?_; subst hA; simp only [real, Bool.true_and]; exact id)
    | (refine ind_of hA ?_; decide +kernel)
    | (refine call_of hA hM _ hc ?_; cbv)
  rename_i hge
  have hbd : m ≤ 1048576 := hs.2.2 (by subst hA; have h : ¬ y < 0 := of_decide_eq_false hge; omega)
  have hto := meets_frz (to_ItmS m hbd g) rfl
  have hmk := mark_Itm m hbd g x1 hx1 IM (fun i => by rw [hIM])
  have hml := mark_Lat n0 hn1 G x2 hx2 LM (fun i => by rw [hLM])
  have hhd := held_Lat n0 hn1 x2 hx2 LM (fun i => by rw [hLM])
  repeat' first
    | apply And.intro
    | exact True.intro
    | with_reducible rfl
    | exact same_of hA rfl
    | refine br_of hA (fun _ => ?_) (fun _ => ?_)
    | exact imp_of hA id
    | (refine imp_of hA ?_; subst hA; simp only [real, Bool.true_and]; exact id)
    | (refine ind_of hA ?_; decide +kernel)
    | (refine call_of hA hM _ (to_Job j) ?_; cbv)
    | (refine call_of hA hM _ hto ?_; cbv)
    | (refine call_of hA hM _ hS ?_; cbv)
    | exact flat_lat hA _ _
  refine stop_of hA ⟨[(1, .c (.d (.sl 5 m fun i => eItm (g i)))), (2, .c (.bp 128 1 0)), (6, .c (.own 1408 0 n0 1))], [(128, 1, .box ((eJob j).map .d)), (1408, 1, .arr 7 n0 fun i => eLat (G i))]⟩ (cov_of ?_ ?_ ?_) ?_
  · cbv; try (subst hA; repeat' first | apply And.intro | exact True.intro | rfl | (intro _ _; rfl))
  · cbv; try (subst hA; repeat' first | apply And.intro | exact True.intro | rfl | (intro _ _; rfl))
  · cbv; try (subst hA; repeat' first | apply And.intro | exact True.intro | rfl | exact .inr trivial)
  cbv
  refine call_of hA hM _ (to_ItmS m hbd g) ?_
  cbv
  repeat' first
    | apply And.intro
    | exact True.intro
    | with_reducible rfl
    | exact same_of hA rfl
    | refine br_of hA (fun _ => ?_) (fun _ => ?_)
    | exact imp_of hA id
    | (refine imp_of hA ?_; subst hA; simp only [real, Bool.true_and]; exact id)
    | (refine ind_of hA ?_; decide +kernel)
    | (refine call_of hA hM _ (to_Job j) ?_; cbv)
    | (refine call_of hA hM _ hto ?_; cbv)
    | (refine call_of hA hM _ hI ?_; cbv)
    | (refine call_of hA hM _ hmk ?_; cbv)
    | (refine call_of hA hM _ hml ?_; cbv)
    | exact flat_lat hA _ _
    | (refine call_of2 hA hM _ hI (congrArg (fun f => [xd (eJob j), XT.c (.d (.sl 5 m f))]) (sub0 hA fun i => eItm (g i))) ?_; cbv)
    | (refine call_of2 hA hM _ (eq_LatS n0 hnL G) (congrArg (fun f => [XT.c (.d (.sl 7 n0 f)), XT.c (.d (.sl 7 n0 f))]) (sub0 hA fun i => eLat (G i))) ?_; cbv)
    | (refine call_of2 hA hM _ (eq_ItmS m hm g) (congrArg (fun f => [XT.c (.d (.sl 5 m f)), XT.c (.d (.sl 5 m fun i => eItm (g i)))]) (sub0 hA fun i => eItm (g i))) ?_; cbv)
    | (refine call_of2 hA hM _ hhd (congrArg (fun f => [XT.c (.d (.sl 7 n0 f)), XT.c (.d (eI 1))]) (sub0 hA fun i => eLat (LM i))) ?_; cbv)
    | (exfalso; rename_i h; subst hA; simp [real] at h; done)
  all_goals
    exfalso
    rename_i h
    subst hA
    first
      | (have h9 : (bif decide (x1 < 0) then true else !true) = true := h
         rw [decide_eq_false (Int.not_lt.2 hp1)] at h9
         cases h9)
      | (have h9 : decide (x2 < 0) = true := h
         exact absurd (of_decide_eq_true h9) (Int.not_lt.2 hp2))
theorem sh_int {m : Nat} {l : List DV} (h : Shows TT (m + 1) 3 l) : ∃ x, l = [eI x] := by
  obtain ⟨x, h, _⟩ := h
  exact ⟨x, h⟩
theorem sh_bool {m : Nat} {l : List DV} (h : Shows TT (m + 1) 4 l) : ∃ x, l = [eB x] := h
theorem sh_Job {m : Nat} {l : List DV} (h : Shows TT (m + 2) 61 l) : ∃ x, l = eJob x := by
  obtain ⟨_, _, rfl, h0, _, _, rfl, h1, _, _, rfl, h2, _, _, rfl, h3, _, _, rfl, h4, _, _, rfl, h5, _, _, rfl, h6, _, _, rfl, h7, _, _, rfl, h8, _, _, rfl, h9, rfl⟩ := h
  obtain ⟨a0, rfl⟩ := sh_int h0
  obtain ⟨a1, rfl⟩ := sh_int h1
  obtain ⟨a2, rfl⟩ := sh_int h2
  obtain ⟨a3, rfl⟩ := sh_int h3
  obtain ⟨a4, rfl⟩ := sh_int h4
  obtain ⟨a5, rfl⟩ := sh_int h5
  obtain ⟨a6, rfl⟩ := sh_int h6
  obtain ⟨a7, rfl⟩ := sh_bool h7
  obtain ⟨a8, rfl⟩ := sh_int h8
  obtain ⟨a9, rfl⟩ := sh_int h9
  exact ⟨⟨a0, a1, a2, a3, a4, a5, a6, a7, a8, a9⟩, rfl⟩
theorem sh_Itm {m : Nat} {l : List DV} (h : Shows TT (m + 2) 123 l) : ∃ x, l = eItm x := by
  obtain ⟨_, _, rfl, h0, _, _, rfl, h1, _, _, rfl, h2, _, _, rfl, h3, _, _, rfl, h4, rfl⟩ := h
  obtain ⟨a0, rfl⟩ := sh_int h0
  obtain ⟨a1, rfl⟩ := sh_int h1
  obtain ⟨a2, rfl⟩ := sh_int h2
  obtain ⟨a3, rfl⟩ := sh_int h3
  obtain ⟨a4, rfl⟩ := sh_int h4
  exact ⟨⟨a0, a1, a2, a3, a4⟩, rfl⟩
theorem sh_SItm {m : Nat} {l : List DV} (h : Shows TT (m + 3) 62 l) : ∃ s : Sl ItmT, l = [.sl 5 s.n fun i => eItm (s.g i)] := by
  obtain ⟨sz, n, row, rfl, hsz, hn, hr⟩ := h
  cases hsz
  have hrow : ∀ i, ∃ r : ItmT, row i = eItm r := fun i => sh_Itm (hr i)
  obtain ⟨rd, hrd⟩ : ∃ rd : Nat → ItmT, row = fun i => eItm (rd i) := ⟨fun i => Classical.choose (hrow i), funext fun i => Classical.choose_spec (hrow i)⟩
  subst hrd
  exact ⟨⟨n, rd, hn⟩, rfl⟩
theorem lawRow (ls : List (List DV)) (h : ShowsL TT 3 [61, 62] ls) : Meets Try.prog 5 (xtsIn TT [61, 62] ls) ⟨.one (.c (.d (.v (.bool true)))), [none, none]⟩ := by
  rcases ls with _ | ⟨l0, _ | ⟨l1, _ | ⟨l2, ls⟩⟩⟩
  · exact h.elim
  · exact h.2.elim
  · obtain ⟨x0, rfl⟩ := sh_Job h.1
    obtain ⟨x1, rfl⟩ := sh_SItm h.2.1
    exact m_law x0 x1
  · exact h.2.2.elim
theorem own : ownKnob Try.prog.godebug = none := by kernel_rfl
theorem laidOut : laidOutB Try.prog = true := by kernel_rfl
set_option maxRecDepth 100000 in
theorem lifted (os : Os) (started : os.Started) (H : Type) (enc : TypeId × Value → H) :
    ReturnsInHanded {} Try.checked os 5 .any (Ytbkpfnddpnccmaa.Rows.fnExactSpcPairsSpec.pre6 enc Try.prog Try.f5 Ytbkpfnddpnccmaa.Rows.fnExactSpcPairsRow.domain false)
      (Ytbkpfnddpnccmaa.Rows.fnExactSpcPairsSpec.post enc Try.prog Try.f5 false true false false) := by
  refine returnsInHanded_of_change_sized (C := Try.checked) own started (by kernel_rfl) Try.func5
    (ChangeSpec.witness6 (enc := enc) (C := Try.checked) false ⟨#[], #[.agg #[.int .i64 0, .int .i64 0, .int .i64 0, .int .i64 0, .int .i64 0, .int .i64 0, .int .i64 0, .bool false, .int .i64 0, .int .i64 0], .slice none 0 0], []⟩ 8 (by kernel_rfl) (by kernel_rfl) (by kernel_rfl) (by kernel_rfl)) ?_
  intro W base args ds gs before hval0 hW hcnd hsz0 _
  refine law_contract (P := Try.prog) (T := TT) ttok (n := 3) (tb := 4) laidOut (by decide +kernel) (by kernel_rfl) rfl Try.underlying4 rfl ?_ ?_ W base args ds gs before hval0 hW
  · intro H ds hl
    match ds, hl with
    | [d0, d1], _ => exact ⟨rfl, rfl, rfl⟩
  · rw [Try.params5]
    intro ls hls
    exact lawRow ls hls
theorem over : Ytbkpfnddpnccmaa.Rows.fnExactSpcPairsRow.holds Ytbkpfnddpnccmaa.Try.pinned (OpenSpec.ofChange Ytbkpfnddpnccmaa.Rows.fnExactSpcPairsSpec) :=
  OpenClaim.holds_of_wide 5 Try.f5 rfl rfl rfl rfl rfl rfl rfl ⟨rfl, rfl, rfl, rfl, rfl⟩ rfl rfl rfl rfl rfl (by kernel_rfl) Try.func5 (by kernel_rfl)
    (of_decide_eq_true (by kernel_rfl)) (by unfold Func.isWrapper; first | (rw [if_pos (by decide +kernel)]; kernel_rfl) | (rw [if_neg (by decide +kernel)]; exact ⟨rfl, rfl⟩))
    (fun os started H enc _ => lifted os started H enc)
end Go.Rk
namespace Go.Proofs.Ytbkpfnddpnccmaa
theorem fnExactSpcPairs_holds : Rows.FnExactSpcPairsSaid := Go.Rk.over
#print axioms fnExactSpcPairs_holds
end Go.Proofs.Ytbkpfnddpnccmaa
