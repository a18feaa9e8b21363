/- The walk over this seat's functions, part 8: what each of them answers, at all data. -/
import Derived.Test.YtbkpfnddpnccmaaM1
import Derived.Test.YtbkpfnddpnccmaaM2
import Derived.Test.YtbkpfnddpnccmaaM3
import Derived.Test.YtbkpfnddpnccmaaM4
import Derived.Test.YtbkpfnddpnccmaaM5
import Derived.Test.YtbkpfnddpnccmaaM6
import Derived.Test.YtbkpfnddpnccmaaM7
import Derived.Test.YtbkpfnddpnccmaaRows
import Derived.WalkKit
import Derived.ProofKit
import Derived.OpenShut
import Derived.ShutString
import Derived.ChangeOld
import Derived.SizedLaws
import Derived.DataShut
/- FnTabPut answers true at every input, and its input reads as before: no condition. -/
namespace Go.Rk
set_option linter.unusedSimpArgs false
set_option linter.unusedVariables false
open Go.Proofs Go.ChangeShapes Go.WideShapes Go.ChangeAt Go.RowKit
set_option maxRecDepth 100000
set_option maxHeartbeats 1000000
def st_tp (l : Nat) (g : Nat → TabT) (r : TabT) (n1 : Nat) (G1 : Nat → TabT) (n2 : Nat) (G2 : Nat → TabT) (i : Nat) : St := ⟨[(11, .c (.d (eI (i : Int)))), (10, .c (.d (eB false))), (8, .c (.d (.sl 7 n2 fun i => eTab (G2 i)))), (7, .c (.d (eB true))), (6, .c (.bp 384 1 0)), (5, .c (.d (.sl 7 n1 fun i => eTab (G1 i)))), (4, .c (.bp 256 1 0)), (3, .c (.d (.sl 7 l fun i => eTab (g i))))], [(384, 1, .box ((eAgg r.agg).map .d)), (256, 1, .box ((eTab r).map .d))]⟩
theorem m_law (M0 : Nat) (b : Nat → Int) (hb : ∀ i, 0 ≤ b i ∧ b i ≤ 255) : Meets Try.prog 7 [.c (.d (.sl 1 M0 fun i => [eU (b i)]))] ⟨.one (.c (.d (eB true))), [none]⟩ := by
  obtain ⟨⟨n, g, r⟩, hn9, hD⟩ := x_drawPut M0 b hb
  have hD := meets_frz hD rfl
  have hn9 : n ≤ 9 := hn9
  have hL := lst_of zTab n g
  generalize (List.range n).map g = l at hL
  have hnLn : n ≤ maxLen := Nat.le_trans hn9 (by decide)
  obtain ⟨n1, G1, h1⟩ := lst_ex zTab (tPut r l)
  have hn1 : n1 ≤ 10 := by rw [h1.1]; exact Nat.le_trans (tPut_len r l) (by rw [← hL.1]; omega)
  have hnL : n1 ≤ maxLen := Nat.le_trans hn1 (by decide)
  obtain ⟨n2, G2, h2⟩ := lst_ex zTab (tOut r.key r.win l)
  have hn2 : n2 ≤ 10 := by rw [h2.1]; exact Nat.le_trans (tOut_len _ _ l) (by rw [← hL.1]; omega)
  have hnL2 : n2 ≤ maxLen := Nat.le_trans hn2 (by decide)
  have hI := meets_frz (c_Put l n g hL (by omega) r n1 G1 h1) rfl
  have hS := meets_frz (c_sPut l n g hL (by omega) r n1 G1 h1) rfl
  have hFr := c_frTab n1 hnL G1
  have hFr2 := c_frTab n2 hnL2 G2
  have hFo := c_frOk
  have cF1 := c_Find (tPut r l) n1 G1 h1 (by omega) r.key r.win r.agg (by rw [tFind_put_same]; rfl) true (by rw [tFind_put_same]; rfl)
  have cO := meets_frz (c_Out (tPut r l) n1 G1 h1 (by omega) r.key r.win n2 G2 (by rw [tOut_put]; exact h2)) rfl
  have cO2 := meets_frz (c_Out l n g hL (by omega) r.key r.win n2 G2 h2) rfl
  have cF2 := c_Find (tOut r.key r.win l) n2 G2 h2 (by omega) r.key r.win zAgg (by rw [tFind_out_none]; rfl) false (by rw [tFind_out_none]; rfl)
  have cP2 := meets_frz (c_Put (tPut r l) n1 G1 h1 (by omega) r n1 G1 (by rw [tPut_twice]; exact h1)) rfl
  refine meets_of (H := []) (EX := EXA) ttok mixed Try.func7 rfl (by kernel_rfl) (by decide) ?_
  generalize hA : real = A
  generalize hM : Meets Try.prog = M
  cbv
  repeat' first
    | (refine br_f hA ?_ ?_; focus (subst hA; simp [real]; done))
    | apply And.intro
    | exact True.intro
    | with_reducible rfl
    | exact same_of hA rfl
    | refine br_of hA (fun _ => ?_) (fun _ => ?_)
    | exact imp_of hA id
    | (refine imp_of hA ?_; subst hA; simp only [real, Bool.true_and]; exact id)
    | (refine ind_of hA ?_; decide +kernel)
    | (refine call_of hA hM _ hD ?_; cbv)
    | (refine call_of hA hM _ hI ?_; cbv)
    | (refine call_of hA hM _ hS ?_; cbv)
    | (refine call_of hA hM _ hFr ?_; cbv)
    | (refine call_of hA hM _ cF1 ?_; cbv)
    | (refine call_of hA hM _ cO ?_; cbv)
    | (refine call_of hA hM _ cF2 ?_; cbv)
    | exact flat_tab hA _ _
  refine loop_of hA (α := { i : Nat // i ≤ n }) (fun y => st_tp n g r n1 G1 n2 G2 y.1) (fun y => n - y.1) ⟨0, Nat.zero_le _⟩ ?_ ?_
  · refine cov_of ?_ ?_ ?_
    · cbv; try (subst hA; repeat' first | apply And.intro | exact True.intro | rfl | fail)
    · cbv; try (subst hA; repeat' first | apply And.intro | exact True.intro | rfl | (intro _ _; rfl) | (intro k hk; exact absurd hk (Nat.not_lt_zero k)) | fail)
    · cbv; try (subst hA; repeat' first | apply And.intro | exact True.intro | rfl | exact .inr trivial | exact .inl trivial)
  rintro ⟨i, hi⟩
  obtain ⟨a1, ha1⟩ : ∃ a, a = (tFind (g i).key (g i).win l).getD zAgg := ⟨_, rfl⟩
  obtain ⟨b1, hb1⟩ : ∃ b, b = (tFind (g i).key (g i).win l).isSome := ⟨_, rfl⟩
  obtain ⟨a2, ha2⟩ : ∃ a, a = (tFind (g i).key (g i).win (tPut r l)).getD zAgg := ⟨_, rfl⟩
  obtain ⟨b2, hb2⟩ : ∃ b, b = (tFind (g i).key (g i).win (tPut r l)).isSome := ⟨_, rfl⟩
  have e1 := c_Find l n g hL (by omega) (g i).key (g i).win a1 ha1 b1 hb1
  have e2 := c_Find (tPut r l) n1 G1 h1 (by omega) (g i).key (g i).win a2 ha2 b2 hb2
  cbv
  repeat' first
    | apply And.intro
    | exact True.intro
    | with_reducible rfl
    | exact same_of hA rfl
    | refine br_of hA (fun _ => ?_) (fun _ => ?_)
    | exact imp_of hA id
    | (refine imp_of hA ?_; subst hA; simp only [real, Bool.true_and]; exact id)
    | (refine ind_of hA ?_; decide +kernel)
    | (refine call_of hA hM _ hFr ?_; cbv)
    | (refine call_of hA hM _ hFr2 ?_; cbv)
    | (refine call_of hA hM _ cO2 ?_; cbv)
    | (refine call_of hA hM _ cP2 ?_; cbv)
    | exact flat_tab hA _ _
    | (refine call_of2 hA hM _ e1 (by (subst hA; first | rfl | (simp only [sub0r]; try rfl))) ?_; cbv)
    | (refine call_of2 hA hM _ e2 (by (subst hA; first | rfl | (simp only [sub0r]; try rfl))) ?_; cbv)
    | (refine inb_lt hA ?_; first | exact lt2_of hA (by assumption) | exact lt_of hA (by assumption))
  · exfalso
    rename_i hlt hne h
    have hi2 : i < n := by first | exact lt2_of hA hlt | exact lt_of hA hlt
    have hne : ¬ IsRow (g i).key (g i).win r := by
      subst hA
      have hne : (bif ((g i).key != r.key) then true else !(((g i).win.s == r.win.s) && (((g i).win.e == r.win.e) && true))) = true := hne
      obtain ⟨rk, ⟨rs, re⟩, ra⟩ := r
      revert hne
      generalize g i = gi
      obtain ⟨gk, ⟨gs, ge⟩, ga⟩ := gi
      intro hne
      simp at hne
      unfold IsRow
      simp only
      omega
    obtain ⟨a, hf⟩ := tFind_has (lst_in' hL hi2)
    rw [tFind_put_other hne, hf] at ha2 hb2
    rw [hf] at ha1 hb1
    have e3 : a1 = a := ha1
    have e4 : a2 = a := ha2
    have e5 : b1 = true := hb1
    have e6 : b2 = true := hb2
    subst e3 e4 e5 e6
    subst hA
    simp [real] at h
  · rename_i hlt _ _
    have hi2 : i < n := by first | exact lt2_of hA hlt | exact lt_of hA hlt
    refine ⟨⟨i + 1, hi2⟩, by simp only; omega, cov_of ?_ ?_ ?_⟩
    · cbv; subst hA; repeat' first | apply And.intro | exact True.intro | exact congrArg (fun x => DV.v (.int .i64 x)) (up64 hi2 hnLn) | rfl
    · cbv; try (subst hA; repeat' first | apply And.intro | exact True.intro | rfl)
    · cbv; try (subst hA; repeat' first | apply And.intro | exact True.intro | rfl | exact .inr trivial | exact .inl trivial)
  · rename_i hlt _
    have hi2 : i < n := by first | exact lt2_of hA hlt | exact lt_of hA hlt
    refine ⟨⟨i + 1, hi2⟩, by simp only; omega, cov_of ?_ ?_ ?_⟩
    · cbv; subst hA; repeat' first | apply And.intro | exact True.intro | exact congrArg (fun x => DV.v (.int .i64 x)) (up64 hi2 hnLn) | rfl
    · cbv; try (subst hA; repeat' first | apply And.intro | exact True.intro | rfl)
    · cbv; try (subst hA; repeat' first | apply And.intro | exact True.intro | rfl | exact .inr trivial | exact .inl trivial)
  · subst hA
    simp [real]
theorem sh_u8 {m : Nat} {l : List DV} (h : Shows TT (m + 1) 5 l) : ∃ x : Int, (0 ≤ x ∧ x ≤ 255) ∧ l = [eU x] := by
  obtain ⟨x, h, hw⟩ := h
  have h2 : IntKind.u8.min ≤ x ∧ x ≤ IntKind.u8.max := (Go.Lit.wf_int_iff _ _).1 hw
  have e1 : IntKind.u8.min = 0 := by decide
  have e2 : IntKind.u8.max = 255 := by decide
  rw [e1, e2] at h2
  exact ⟨x, h2, h⟩
theorem sh_bytes {m : Nat} {l : List DV} (h : Shows TT (m + 2) 43 l) : ∃ (n : Nat) (b : Nat → Int), (∀ i, 0 ≤ b i ∧ b i ≤ 255) ∧ l = [.sl 1 n fun i => [eU (b i)]] := by
  obtain ⟨sz, n, row, rfl, hsz, hn, hr⟩ := h
  cases hsz
  have hrow : ∀ i, ∃ x : Int, (0 ≤ x ∧ x ≤ 255) ∧ row i = [eU x] := fun i => sh_u8 (hr i)
  obtain ⟨rd, hrd⟩ : ∃ rd : Nat → Int, ∀ i, (0 ≤ rd i ∧ rd i ≤ 255) ∧ row i = [eU (rd i)] := ⟨fun i => Classical.choose (hrow i), fun i => Classical.choose_spec (hrow i)⟩
  have e : row = fun i => [eU (rd i)] := funext fun i => (hrd i).2
  subst e
  exact ⟨n, rd, fun i => (hrd i).1, rfl⟩
theorem lawRow (ls : List (List DV)) (h : ShowsL TT 2 [43] ls) : Meets Try.prog 7 (xtsIn TT [43] ls) ⟨.one (.c (.d (.v (.bool true)))), [none]⟩ := by
  rcases ls with _ | ⟨l0, _ | ⟨l1, ls⟩⟩
  · exact h.elim
  · obtain ⟨n0, b0, hb0, rfl⟩ := sh_bytes h.1
    exact m_law n0 b0 hb0
  · exact h.2.elim
theorem own : ownKnob Try.prog.godebug = none := by kernel_rfl
theorem laidOut : laidOutB Try.prog = true := by kernel_rfl
set_option maxRecDepth 100000 in
theorem lifted (os : Os) (started : os.Started) (H : Type) (enc : TypeId × Value → H) :
    ReturnsInHanded {} Try.checked os 7 .any (Ytbkpfnddpnccmaa.Rows.fnTabPutSpec.pre6 enc Try.prog Try.f7 Ytbkpfnddpnccmaa.Rows.fnTabPutRow.domain false)
      (Ytbkpfnddpnccmaa.Rows.fnTabPutSpec.post enc Try.prog Try.f7 false true false false) := by
  refine returnsInHanded_of_change_sized (C := Try.checked) own started (by kernel_rfl) Try.func7
    (ChangeSpec.witness6 (enc := enc) (C := Try.checked) false ⟨#[], #[.slice none 0 0], []⟩ 8 (by kernel_rfl) (by kernel_rfl) (by kernel_rfl) (by kernel_rfl)) ?_
  intro W base args ds gs before hval0 hW hcnd hsz0 _
  refine law_contract (P := Try.prog) (T := TT) ttok (n := 2) (tb := 4) laidOut (by decide +kernel) (by kernel_rfl) rfl Try.underlying4 rfl ?_ ?_ W base args ds gs before hval0 hW
  · intro H ds hl
    match ds, hl with
    | [d0], _ => exact ⟨rfl, rfl, rfl⟩
  · rw [Try.params7]
    intro ls hls
    exact lawRow ls hls
theorem over : Ytbkpfnddpnccmaa.Rows.fnTabPutRow.holds Ytbkpfnddpnccmaa.Try.pinned (OpenSpec.ofChange Ytbkpfnddpnccmaa.Rows.fnTabPutSpec) :=
  OpenClaim.holds_of_wide 7 Try.f7 rfl rfl rfl rfl rfl rfl rfl ⟨rfl, rfl, rfl, rfl, rfl⟩ rfl rfl rfl rfl rfl (by kernel_rfl) Try.func7 (by kernel_rfl)
    (of_decide_eq_true (by kernel_rfl)) (by unfold Func.isWrapper; first | (rw [if_pos (by decide +kernel)]; kernel_rfl) | (rw [if_neg (by decide +kernel)]; exact ⟨rfl, rfl⟩))
    (fun os started H enc _ => lifted os started H enc)
end Go.Rk
namespace Go.Proofs.Ytbkpfnddpnccmaa
theorem fnTabPut_holds : Rows.FnTabPutSaid := Go.Rk.over
#print axioms fnTabPut_holds
end Go.Proofs.Ytbkpfnddpnccmaa
