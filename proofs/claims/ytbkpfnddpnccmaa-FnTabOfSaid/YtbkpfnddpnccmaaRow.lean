/- The walk over this seat's functions, part 8: what each of them answers, at all data. -/
import Derived.Test.YtbkpfnddpnccmaaM1
import Derived.Test.YtbkpfnddpnccmaaM2
import Derived.Test.YtbkpfnddpnccmaaM3
import Derived.Test.YtbkpfnddpnccmaaM4
import Derived.Test.YtbkpfnddpnccmaaM5
import Derived.Test.YtbkpfnddpnccmaaM6
import Derived.Test.YtbkpfnddpnccmaaM7
import Derived.Test.YtbkpfnddpnccmaaRows
import Derived.WalkKit
import Derived.ProofKit
import Derived.OpenShut
import Derived.ShutString
import Derived.ChangeOld
import Derived.SizedLaws
import Derived.DataShut
/- FnTabOf answers true at every input, and its input reads as before: no condition. -/
namespace Go.Rk
set_option linter.unusedSimpArgs false
set_option linter.unusedVariables false
open Go.Proofs Go.ChangeShapes Go.WideShapes Go.ChangeAt Go.RowKit
set_option maxRecDepth 100000
set_option maxHeartbeats 1000000
theorem m_law (M0 : Nat) (b : Nat → Int) (hb : ∀ i, 0 ≤ b i ∧ b i ≤ 255) : Meets Try.prog 8 [.c (.d (.sl 1 M0 fun i => [eU (b i)]))] ⟨.one (.c (.d (eB true))), [none]⟩ := by
  obtain ⟨⟨n, g, piece⟩, hn8, hD⟩ := x_drawOf M0 b hb
  have hD := meets_frz hD rfl
  have hn8 : n ≤ 8 := hn8
  have hL := lst_of zPane n g
  generalize (List.range n).map g = l at hL
  obtain ⟨n0, G, h0⟩ := lst_ex zTab (ofL piece l)
  have hn0 : n0 ≤ 8 := by rw [h0.1]; exact Nat.le_trans (ofL_len piece l) (by rw [← hL.1]; exact hn8)
  have hnL : n0 ≤ maxLen := Nat.le_trans hn0 (by decide)
  have hI := meets_frz (c_Of l n g hL (by omega) piece n0 G h0) rfl
  have hS := meets_frz (c_sOf l n g hL (by omega) piece n0 G h0) rfl
  have hFr := c_frTab n0 hnL G
  have hFo := c_frOk
  have hLt : Lst zPane (l.take (n - 1)) (n - 1) g := by
    refine ⟨by rw [List.length_take, ← hL.1]; omega, fun k hk => ?_⟩
    rw [hL.2 k (by omega), List.getD_eq_getElem?_getD, List.getD_eq_getElem?_getD, List.getElem?_take, if_pos hk]
  obtain ⟨nw, Gw, hw⟩ := lst_ex zTab (ofL piece (l.take (n - 1)))
  have hnw : nw ≤ 8 := by rw [hw.1]; exact Nat.le_trans (ofL_len piece _) (by rw [← hLt.1]; omega)
  have hIw := meets_frz (c_Of _ (n - 1) g hLt (by omega) piece nw Gw hw) rfl
  obtain ⟨W, hW⟩ : ∃ W, W = ofL piece (l.take (n - 1)) := ⟨_, rfl⟩
  rw [← hW] at hw
  have hlast : n ≠ 0 → ofL piece l = ofStep piece W (g (n - 1)) := fun h => by
    have e := lst_take hL (show n - 1 < n by omega)
    rw [show n - 1 + 1 = n by omega, lst_all hL] at e
    rw [e, ofL_snoc, ← hW]
  obtain ⟨a, ha⟩ : ∃ a, a = (tFind (g (n - 1)).key (g (n - 1)).win W).getD zAgg := ⟨_, rfl⟩
  obtain ⟨bb, hbb⟩ : ∃ b, b = (tFind (g (n - 1)).key (g (n - 1)).win W).isSome := ⟨_, rfl⟩
  obtain ⟨ag, hag⟩ : ∃ x, x = aggB a (g (n - 1)).agg := ⟨_, rfl⟩
  have cF := c_Find W nw Gw hw (by omega) (g (n - 1)).key (g (n - 1)).win a ha bb hbb
  have cB := c_AggBoth a (g (n - 1)).agg ag hag
  refine meets_of (H := [12]) (EX := EXA) ttok mixed Try.func8 rfl (by kernel_rfl) (by decide) ?_
  generalize hA : real = A
  generalize hM : Meets Try.prog = M
  cbv
  repeat' first
    | (refine br_f hA ?_ ?_; focus (subst hA; simp [real]; done))
    | apply And.intro
    | exact True.intro
    | with_reducible rfl
    | exact same_of hA rfl
    | refine br_of hA (fun _ => ?_) (fun _ => ?_)
    | exact imp_of hA id
    | (refine imp_of hA ?_; subst hA; simp only [real, Bool.true_and]; exact id)
    | (refine ind_of hA ?_; decide +kernel)
    | (refine call_of hA hM _ hD ?_; cbv)
    | (refine call_of hA hM _ hI ?_; cbv)
    | (refine call_of hA hM _ hS ?_; cbv)
    | (refine call_of hA hM _ hFr ?_; cbv)
    | (refine call_of hA hM _ hFo ?_; cbv)
    | exact flat_tab hA _ _
    | exact flatP hA _ _
  · rename_i h0n
    have hz : n = 0 := by
      subst hA
      have h : ((n : Nat) : Int) = 0 := of_decide_eq_true h0n
      omega
    have hn00 : n0 = 0 := by
      have := ofL_len piece l
      rw [← hL.1] at this
      rw [h0.1]; omega
    subst hA
    subst hn00
    rfl
  all_goals
    rename_i hnz
    have hnz : n ≠ 0 := by
      subst hA
      have h : ¬ ((n : Nat) : Int) = 0 := of_decide_eq_false hnz
      omega
  · refine inb_of hA (fun _ => ?_)
    subst hA
    show 0 ≤ IntKind.i64.wrap ((n : Int) - 1) ∧ IntKind.i64.wrap ((n : Int) - 1) < (n : Int)
    rw [IntWalk.i64_in _ (by omega)]; omega
  · refine cut_of hA ?_
    subst hA
    show (0 : Int) ≤ 0 ∧ 0 ≤ IntKind.i64.wrap ((n : Int) - 1) ∧ IntKind.i64.wrap ((n : Int) - 1) ≤ (n : Int)
    rw [IntWalk.i64_in _ (by omega)]; omega
  have hlast := hlast hnz
  have hsl : DV.sl 9 ((IntKind.i64.wrap ((n : Int) - 1) - 0).toNat) (fun i => ePane (g ((0 : Int).toNat + i))) = DV.sl 9 (n - 1) fun i => ePane (g i) := by
    rw [IntWalk.i64_in _ (by omega)]
    have e : ((n : Int) - 1 - 0).toNat = n - 1 := by omega
    rw [e]
    refine congrArg (DV.sl 9 (n - 1)) (funext fun i => ?_)
    rw [show (0 : Int).toNat + i = i by omega]
  have hix : g ((IntKind.i64.wrap ((n : Int) - 1)).toNat) = g (n - 1) := by
    rw [IntWalk.i64_in _ (by omega), show ((n : Int) - 1).toNat = n - 1 by omega]
  refine call_of2 hA hM _ hIw (by subst hA; exact congrArg (fun d => [XT.c (.d d), XT.c (.d (eB piece))]) hsl) ?_
  cbv
  repeat' first
    | (refine br_f hA ?_ ?_; focus (subst hA; simp [real]; done))
    | apply And.intro
    | exact True.intro
    | with_reducible rfl
    | exact same_of hA rfl
    | refine br_of hA (fun _ => ?_) (fun _ => ?_)
    | exact imp_of hA id
    | (refine imp_of hA ?_; subst hA; simp only [real, Bool.true_and]; exact id)
    | (refine ind_of hA ?_; decide +kernel)
    | (refine call_of hA hM _ hD ?_; cbv)
    | (refine call_of hA hM _ hI ?_; cbv)
    | (refine call_of hA hM _ hS ?_; cbv)
    | (refine call_of hA hM _ hFr ?_; cbv)
    | (refine call_of hA hM _ hFo ?_; cbv)
    | exact flat_tab hA _ _
    | exact flatP hA _ _
  refine stop_of hA ⟨[(8, .c (.d (.sl 7 nw fun i => eTab (Gw i)))), (5, .c (.d (.sl 7 n0 fun i => eTab (G i)))), (4, .c (.d (eB piece))), (7, .c (.bp 448 1 0))], [(448, 1, .box ((ePane (g (n - 1))).map .d))]⟩ (cov_of ?_ ?_ ?_) ?_
  · cbv; try (subst hA; repeat' first | apply And.intro | exact True.intro | rfl)
  · rw [← hix]
    cbv; try (subst hA; repeat' first | apply And.intro | exact True.intro | rfl)
  · cbv; try (subst hA; repeat' first | apply And.intro | exact True.intro | rfl | exact .inr trivial)
  cbv
  repeat' first
    | (refine br_f hA ?_ ?_; focus (subst hA; simp [real]; done))
    | apply And.intro
    | exact True.intro
    | with_reducible rfl
    | exact same_of hA rfl
    | refine br_of hA (fun _ => ?_) (fun _ => ?_)
    | exact imp_of hA id
    | (refine imp_of hA ?_; subst hA; simp only [real, Bool.true_and]; exact id)
    | (refine ind_of hA ?_; decide +kernel)
    | (refine call_of hA hM _ hFr ?_; cbv)
    | (refine call_of hA hM _ hFo ?_; cbv)
    | (refine call_of hA hM _ cF ?_; cbv)
    | (refine call_of hA hM _ cB ?_; cbv)
    | exact flat_tab hA _ _
  · rename_i hk
    have hk : (g (n - 1)).kind = 3 := by subst hA; exact of_decide_eq_true hk
    have cO := meets_frz (c_Out W nw Gw hw (by omega) (g (n - 1)).key (g (n - 1)).win n0 G (by have e := hlast; unfold ofStep at e; rw [if_pos hk] at e; rw [← e]; exact h0)) rfl
    refine call_of hA hM _ cO ?_
    cbv
    repeat' first
      | (refine br_f hA ?_ ?_; focus (subst hA; simp [real]; done))
      | apply And.intro
      | exact True.intro
      | with_reducible rfl
      | exact same_of hA rfl
      | refine br_of hA (fun _ => ?_) (fun _ => ?_)
      | exact imp_of hA id
      | (refine imp_of hA ?_; subst hA; simp only [real, Bool.true_and]; exact id)
      | (refine ind_of hA ?_; decide +kernel)
      | (refine call_of hA hM _ hFr ?_; cbv)
      | exact flat_tab hA _ _
  · rename_i hk hp
    have hk : ¬ (g (n - 1)).kind = 3 := by subst hA; exact of_decide_eq_false hk
    have hx : ofAgg piece W (g (n - 1)) = ag := by
      have hp : piece = true := hp
      unfold ofAgg; rw [if_pos hp, hag, ha]
    have cP := meets_frz (c_Put W nw Gw hw (by omega) ⟨(g (n - 1)).key, (g (n - 1)).win, ag⟩ n0 G (by have e := hlast; unfold ofStep at e; rw [if_neg hk, hx] at e; rw [← e]; exact h0)) rfl
    refine call_of hA hM _ cP ?_
    cbv
    repeat' first
      | (refine br_f hA ?_ ?_; focus (subst hA; simp [real]; done))
      | apply And.intro
      | exact True.intro
      | with_reducible rfl
      | exact same_of hA rfl
      | refine br_of hA (fun _ => ?_) (fun _ => ?_)
      | exact imp_of hA id
      | (refine imp_of hA ?_; subst hA; simp only [real, Bool.true_and]; exact id)
      | (refine ind_of hA ?_; decide +kernel)
      | (refine call_of hA hM _ hFr ?_; cbv)
      | exact flat_tab hA _ _
  · rename_i hk hp
    have hk : ¬ (g (n - 1)).kind = 3 := by subst hA; exact of_decide_eq_false hk
    have hx : ofAgg piece W (g (n - 1)) = (g (n - 1)).agg := by
      have hp : ¬ piece = true := by rw [show piece = false from hp]; simp
      unfold ofAgg; rw [if_neg hp]
    have cP := meets_frz (c_Put W nw Gw hw (by omega) ⟨(g (n - 1)).key, (g (n - 1)).win, (g (n - 1)).agg⟩ n0 G (by have e := hlast; unfold ofStep at e; rw [if_neg hk, hx] at e; rw [← e]; exact h0)) rfl
    refine call_of hA hM _ cP ?_
    cbv
    repeat' first
      | (refine br_f hA ?_ ?_; focus (subst hA; simp [real]; done))
      | apply And.intro
      | exact True.intro
      | with_reducible rfl
      | exact same_of hA rfl
      | refine br_of hA (fun _ => ?_) (fun _ => ?_)
      | exact imp_of hA id
      | (refine imp_of hA ?_; subst hA; simp only [real, Bool.true_and]; exact id)
      | (refine ind_of hA ?_; decide +kernel)
      | (refine call_of hA hM _ hFr ?_; cbv)
      | exact flat_tab hA _ _
theorem sh_u8 {m : Nat} {l : List DV} (h : Shows TT (m + 1) 5 l) : ∃ x : Int, (0 ≤ x ∧ x ≤ 255) ∧ l = [eU x] := by
  obtain ⟨x, h, hw⟩ := h
  have h2 : IntKind.u8.min ≤ x ∧ x ≤ IntKind.u8.max := (Go.Lit.wf_int_iff _ _).1 hw
  have e1 : IntKind.u8.min = 0 := by decide
  have e2 : IntKind.u8.max = 255 := by decide
  rw [e1, e2] at h2
  exact ⟨x, h2, h⟩
theorem sh_bytes {m : Nat} {l : List DV} (h : Shows TT (m + 2) 43 l) : ∃ (n : Nat) (b : Nat → Int), (∀ i, 0 ≤ b i ∧ b i ≤ 255) ∧ l = [.sl 1 n fun i => [eU (b i)]] := by
  obtain ⟨sz, n, row, rfl, hsz, hn, hr⟩ := h
  cases hsz
  have hrow : ∀ i, ∃ x : Int, (0 ≤ x ∧ x ≤ 255) ∧ row i = [eU x] := fun i => sh_u8 (hr i)
  obtain ⟨rd, hrd⟩ : ∃ rd : Nat → Int, ∀ i, (0 ≤ rd i ∧ rd i ≤ 255) ∧ row i = [eU (rd i)] := ⟨fun i => Classical.choose (hrow i), fun i => Classical.choose_spec (hrow i)⟩
  have e : row = fun i => [eU (rd i)] := funext fun i => (hrd i).2
  subst e
  exact ⟨n, rd, fun i => (hrd i).1, rfl⟩
theorem lawRow (ls : List (List DV)) (h : ShowsL TT 2 [43] ls) : Meets Try.prog 8 (xtsIn TT [43] ls) ⟨.one (.c (.d (.v (.bool true)))), [none]⟩ := by
  rcases ls with _ | ⟨l0, _ | ⟨l1, ls⟩⟩
  · exact h.elim
  · obtain ⟨n0, b0, hb0, rfl⟩ := sh_bytes h.1
    exact m_law n0 b0 hb0
  · exact h.2.elim
theorem own : ownKnob Try.prog.godebug = none := by kernel_rfl
theorem laidOut : laidOutB Try.prog = true := by kernel_rfl
set_option maxRecDepth 100000 in
theorem lifted (os : Os) (started : os.Started) (H : Type) (enc : TypeId × Value → H) :
    ReturnsInHanded {} Try.checked os 8 .any (Ytbkpfnddpnccmaa.Rows.fnTabOfSpec.pre6 enc Try.prog Try.f8 Ytbkpfnddpnccmaa.Rows.fnTabOfRow.domain false)
      (Ytbkpfnddpnccmaa.Rows.fnTabOfSpec.post enc Try.prog Try.f8 false true false false) := by
  refine returnsInHanded_of_change_sized (C := Try.checked) own started (by kernel_rfl) Try.func8
    (ChangeSpec.witness6 (enc := enc) (C := Try.checked) false ⟨#[], #[.slice none 0 0], []⟩ 8 (by kernel_rfl) (by kernel_rfl) (by kernel_rfl) (by kernel_rfl)) ?_
  intro W base args ds gs before hval0 hW hcnd hsz0 _
  refine law_contract (P := Try.prog) (T := TT) ttok (n := 2) (tb := 4) laidOut (by decide +kernel) (by kernel_rfl) rfl Try.underlying4 rfl ?_ ?_ W base args ds gs before hval0 hW
  · intro H ds hl
    match ds, hl with
    | [d0], _ => exact ⟨rfl, rfl, rfl⟩
  · rw [Try.params8]
    intro ls hls
    exact lawRow ls hls
theorem over : Ytbkpfnddpnccmaa.Rows.fnTabOfRow.holds Ytbkpfnddpnccmaa.Try.pinned (OpenSpec.ofChange Ytbkpfnddpnccmaa.Rows.fnTabOfSpec) :=
  OpenClaim.holds_of_wide 8 Try.f8 rfl rfl rfl rfl rfl rfl rfl ⟨rfl, rfl, rfl, rfl, rfl⟩ rfl rfl rfl rfl rfl (by kernel_rfl) Try.func8 (by kernel_rfl)
    (of_decide_eq_true (by kernel_rfl)) (by unfold Func.isWrapper; first | (rw [if_pos (by decide +kernel)]; kernel_rfl) | (rw [if_neg (by decide +kernel)]; exact ⟨rfl, rfl⟩))
    (fun os started H enc _ => lifted os started H enc)
end Go.Rk
namespace Go.Proofs.Ytbkpfnddpnccmaa
theorem fnTabOf_holds : Rows.FnTabOfSaid := Go.Rk.over
#print axioms fnTabOf_holds
end Go.Proofs.Ytbkpfnddpnccmaa
