/- The walk over this seat's functions, part 11: what each of them answers, at all data. -/
import Derived.Test.YtaceckhmclddeaaM1
import Derived.Test.YtaceckhmclddeaaM2
import Derived.Test.YtaceckhmclddeaaM3
import Derived.Test.YtaceckhmclddeaaM4
import Derived.Test.YtaceckhmclddeaaM5
import Derived.Test.YtaceckhmclddeaaM6
import Derived.Test.YtaceckhmclddeaaM7
import Derived.Test.YtaceckhmclddeaaM8
import Derived.Test.YtaceckhmclddeaaM9
import Derived.Test.YtaceckhmclddeaaM10
import Derived.Test.YtaceckhmclddeaaRows
import Derived.WalkKit
import Derived.ProofKit
import Derived.OpenShut
import Derived.ShutString
import Derived.ChangeOld
import Derived.SizedLaws
import Derived.DataShut
/- FnOpEnd answers true at every input, and its input reads as before: no condition. -/
namespace Go.Rk
set_option linter.unusedSimpArgs false
set_option linter.unusedVariables false
open Go.Proofs Go.ChangeShapes Go.WideShapes Go.ChangeAt Go.RowKit
set_option maxRecDepth 100000
set_option maxHeartbeats 2000000
def st_cnt (j : JobT) (s : OpStT) (m : ItmT) (mk : Int) (k : Nat) (G : Nat → RowT) (c : Nat) (P : Nat → PaneT) (i q : Nat) : St := ⟨[(11, .c (.d (eI i))), (10, .c (.d (eI q))), (7, .c (.d (.sl 9 c fun i => ePane (P i)))), (6, .c (.bp 384 1 0)), (5, .c (.bp 320 1 0)), (4, .c (.bp 256 1 0)), (3, .c (.bp 192 1 0))], [(384, 1, .box [.d (eI mk), .d (.sl 13 k fun i => eRow (G i))]), (320, 1, .box ((eItm m).map .d)), (256, 1, .box [.d (eI s.mark), .d (.sl 13 s.rows.n fun i => eRow (s.rows.g i))]), (192, 1, .box ((eJob j).map .d))]⟩
theorem m_law (M0 : Nat) (b : Nat → Int) (hb : ∀ i, 0 ≤ b i ∧ b i ≤ 255) : Meets Try.prog 13 [.c (.d (.sl 1 M0 fun i => [eU (b i)]))] ⟨.one (.c (.d (eB true))), [none]⟩ := by
  refine meets_of (H := []) (EX := EXA) ttok mixed Try.func13 rfl (by kernel_rfl) (by decide) ?_
  generalize hA : real = A
  generalize hM : MeetsB Try.prog = M
  cbv
  repeat' first
    | apply And.intro
    | exact True.intro
    | with_reducible rfl
    | exact same_of hA rfl
    | refine br_of hA (fun _ => ?_) (fun _ => ?_)
    | exact imp_of hA id
    | (refine imp_of hA ?_; subst hA; simp only [real, Bool.true_and]; exact id)
    | (refine ind_of hA ?_; decide +kernel)
    | (refine call_ex hA hM (x_drawTake M0 b hb) ?_; rintro ⟨j, s, m⟩ hs; dsimp only at hs; cbv)
  have hs : s.rows.n ≤ 261 := hs
  obtain ⟨x, hx⟩ : ∃ x, x = opMarkL j s 1000 := ⟨_, rfl⟩
  have hlen := opMarkL_len j s 1000
  rw [← hx] at hlen
  obtain ⟨k, G, hG⟩ := lst_ex zRow x.2.1
  obtain ⟨c, P, hP⟩ := lst_ex zPan x.2.2
  have hks : k ≤ 261 := by rw [hG.1]; exact Nat.le_trans hlen.1 hs
  have hcs : c ≤ 261 := by rw [hP.1]; exact Nat.le_trans hlen.2 hs
  have hsL : s.rows.n ≤ maxLen := s.rows.hn
  have hI : Meets Try.prog 22 [xd (eJob j), .agg [.d (eI s.mark), .d (.sl 13 s.rows.n fun i => eRow (s.rows.g i))], .c (.d (eI 1000))] ⟨.tup [.agg [.d (eI x.1), .d (.sl 13 k fun i => eRow (G i))], .c (.d (.sl 9 c fun i => ePane (P i)))], [none, none, none]⟩ := meets_frz (c_OpMark j s (by omega) 1000 x hx k G hG c P hP) rfl
  have hS : Meets Try.prog 23 [xd (eJob j), .agg [.d (eI s.mark), .d (.sl 13 s.rows.n fun i => eRow (s.rows.g i))], .c (.d (eI 1000))] ⟨.tup [.agg [.d (eI x.1), .d (.sl 13 k fun i => eRow (G i))], .c (.d (.sl 9 c fun i => ePane (P i)))], [none, none, none]⟩ := meets_frz (c_sOpMark j s (by omega) 1000 x hx k G hG c P hP) rfl
  have hF := c_frOp x.1 k (Nat.le_trans hks (by decide)) G
  have hL := c_frPanes c (Nat.le_trans hcs (by decide)) P
  obtain ⟨bo, hbo, hO⟩ := c_sOpOk j s
  have hz : bo = false → x.1 = 0 ∧ k = 0 := fun h => by
    have hn : ¬ OpOkP j s := fun h2 => by rw [hbo.2 h2] at h; cases h
    have e : x = (0, [], []) := by rw [hx]; unfold opMarkL; rw [if_pos (fun h2 => hn h2.1)]
    exact ⟨by rw [e], by rw [hG.1, e]; rfl⟩
  have hnb : ∀ {A : Ar}, real = A → A.bnot bo = true → bo = false := fun hA h => by subst hA; cases bo; rfl; cases h
  repeat' first
    | apply And.intro
    | exact True.intro
    | with_reducible rfl
    | exact same_of hA rfl
    | refine br_of hA (fun _ => ?_) (fun _ => ?_)
    | exact imp_of hA id
    | (refine imp_of hA ?_; subst hA; simp only [real, Bool.true_and]; exact id)
    | (refine ind_of hA ?_; decide +kernel)
    | (refine call_of hA hM _ hI ?_; cbv)
    | (refine call_of hA hM _ hS ?_; cbv)
    | (refine call_of hA hM _ hF ?_; cbv)
    | (refine call_of hA hM _ hL ?_; cbv)
    | (refine call_of hA hM _ hO ?_; cbv)
    | (refine call_of hA hM _ c_frOk ?_; cbv)
    | (exfalso; rename_i h; subst hA; simp [real] at h; done)
    | (obtain ⟨e1, e2⟩ := hz (hnb hA (by assumption)); refine call_of2 hA hM _ (c_frOp0 G) ?_ ?_; (focus (show [XT.agg [XV.d (eI x.1), XV.d (DV.sl 13 k fun i => eRow (G i))], XT.agg [XV.d (eI 0), XV.d (DV.v nilS)]] = _; rw [e1, e2])); cbv)
    | (focus (subst hA; exact rfl))
  rename_i hbo0
  have hok : OpOkP j s := hbo.1 (by subst hA; have h9 : (!bo) = false := hbo0; simpa using h9)
  obtain ⟨e1, e2, e3⟩ := mark_end hok
  rw [← hx] at e1 e2 e3
  have hk0 : k = 0 := by rw [hG.1, e2]; rfl
  have hcc : c = cntB (fun i => !(s.rows.g i).timely) s.rows.n := by rw [hP.1, e3]
  have hkL : k ≤ maxLen := Nat.le_trans hks (by decide)
  refine loop_of hA (α := { y : Nat × Nat // y.1 ≤ s.rows.n ∧ y.2 = cntB (fun i => !(s.rows.g i).timely) y.1 }) (fun y => st_cnt j s m x.1 k G c P y.1.1 y.1.2) (fun y => s.rows.n - y.1.1) ⟨(0, 0), Nat.zero_le _, rfl⟩ ?_ ?_
  · refine cov_of ?_ ?_ ?_
    · (subst hA; (repeat' first | exact True.intro | exact rfl | apply And.intro))
    · (subst hA; (repeat' first | exact True.intro | exact rfl | apply And.intro | (intro _ _; first | rfl | trivial)))
    · (subst hA; (repeat' first | exact True.intro | exact rfl | apply And.intro | exact .inl rfl | exact .inr (le_of_nble rfl)))
  rintro ⟨⟨i, q⟩, hi, hq⟩
  have hi : i ≤ s.rows.n := hi
  have hq : q = cntB (fun i => !(s.rows.g i).timely) i := hq
  have hqi : q ≤ i := by rw [hq]; exact cntB_le _ i
  cbv
  repeat' first
    | apply And.intro
    | exact True.intro
    | with_reducible rfl
    | exact same_of hA rfl
    | refine br_of hA (fun _ => ?_) (fun _ => ?_)
    | exact imp_of hA id
    | (refine imp_of hA ?_; subst hA; simp only [real, Bool.true_and]; exact id)
    | (refine ind_of hA ?_; decide +kernel)
    | (refine inb_lt hA ?_; first | exact lt2_of hA (by assumption) | exact lt_of hA (by assumption))
  · rename_i hlt ht
    have hlt' : i < s.rows.n := by first | exact lt2_of hA hlt | exact lt_of hA hlt
    have ht' : (s.rows.g i).timely = false := by
      subst hA
      cases hc : (s.rows.g i).timely
      · first | rfl | (exfalso; have h9 : (!(s.rows.g i).timely) = false := ht; rw [hc] at h9; cases h9)
      · first | rfl | (exfalso; have h9 : (!(s.rows.g i).timely) = true := ht; rw [hc] at h9; cases h9)
    refine ⟨⟨(i + 1, q + 1), hlt', ?_⟩, by simp only; omega, cov_of ?_ ?_ ?_⟩
    · show _ = cntB (fun i => !(s.rows.g i).timely) i + (if (!(s.rows.g i).timely) = true then 1 else 0)
      rw [ht', ← hq]; rfl
    · (subst hA; (repeat' first | exact True.intro | exact rfl | exact congrArg (fun x => DV.v (.int .i64 x)) (up64 hlt' hsL) | exact congrArg (fun x => DV.v (.int .i64 x)) (up64 (show q < s.rows.n by omega) hsL) | apply And.intro))
    · (subst hA; (repeat' first | exact True.intro | exact rfl | apply And.intro | (intro _ _; first | rfl | trivial)))
    · (subst hA; (repeat' first | exact True.intro | exact rfl | apply And.intro | exact .inl rfl | exact .inr (le_of_nble rfl)))
  · rename_i hlt ht
    have hlt' : i < s.rows.n := by first | exact lt2_of hA hlt | exact lt_of hA hlt
    have ht' : (s.rows.g i).timely = true := by
      subst hA
      cases hc : (s.rows.g i).timely
      · first | rfl | (exfalso; have h9 : (!(s.rows.g i).timely) = false := ht; rw [hc] at h9; cases h9)
      · first | rfl | (exfalso; have h9 : (!(s.rows.g i).timely) = true := ht; rw [hc] at h9; cases h9)
    refine ⟨⟨(i + 1, q), hlt', ?_⟩, by simp only; omega, cov_of ?_ ?_ ?_⟩
    · show _ = cntB (fun i => !(s.rows.g i).timely) i + (if (!(s.rows.g i).timely) = true then 1 else 0)
      rw [ht', ← hq]; rfl
    · (subst hA; (repeat' first | exact True.intro | exact rfl | exact congrArg (fun x => DV.v (.int .i64 x)) (up64 hlt' hsL) | exact congrArg (fun x => DV.v (.int .i64 x)) (up64 (show q < s.rows.n by omega) hsL) | apply And.intro))
    · (subst hA; (repeat' first | exact True.intro | exact rfl | apply And.intro | (intro _ _; first | rfl | trivial)))
    · (subst hA; (repeat' first | exact True.intro | exact rfl | apply And.intro | exact .inl rfl | exact .inr (le_of_nble rfl)))
  · rename_i hge
    have hni : s.rows.n ≤ i := by first | exact ge2_of hA hge | exact ge_of hA hge
    have hin : i = s.rows.n := Nat.le_antisymm hi hni
    have hqc : c = q := by rw [hq, hcc, hin]
    obtain ⟨bi, hbi, hItm⟩ := c_sItmOkP m
    by_cases hr : RecP m
    · have hT := take_end (j := j) (s := ⟨x.1, ⟨k, G, hkL⟩⟩) (x := m) hok.1 e1 hk0 hr
      obtain ⟨L, hL9⟩ : ∃ L : List LatT, L = (winsL j m.t).map fun w => ⟨m, w⟩ := ⟨_, rfl⟩
      rw [← hL9, ← e1] at hT
      obtain ⟨d2, Q2, hQ2⟩ := lst_ex zLat L
      have hd2 : (winsL j m.t).length = d2 := by rw [hQ2.1, hL9]; simp
      have hI2 : Meets Try.prog 48 [xd (eJob j), .agg [.d (eI x.1), .d (.sl 13 k fun i => eRow (G i))], xd (eItm m)] ⟨.tup [.agg [.d (eI x.1), .d (.sl 13 k fun i => eRow (G i))], .c (.d (.sl 9 0 fun i => ePane (P i))), .c (.d (.sl 7 d2 fun i => eLat (Q2 i)))], [none, none, none]⟩ :=
        meets_frz (c_OpTake j ⟨x.1, ⟨k, G, hkL⟩⟩ (show k ≤ 1080000 by omega) m (x.1, [], [], L) hT.symm k G ⟨hk0, fun i hi => absurd hi (by omega)⟩ 0 P ⟨rfl, fun i hi => absurd hi (Nat.not_lt_zero i)⟩ d2 Q2 hQ2) rfl
      have hW := meets_frz (c_WinOf j m.t hok.1 (recP_t hr) d2 (fun i => (winsL j m.t).getD i zWin) ⟨hd2.symm, fun _ _ => rfl⟩) rfl
      have hbi1 : bi = true := hbi.2 hr.2
      have hk1 : m.kind = 1 := hr.1
      repeat' first
        | apply And.intro
        | exact True.intro
        | with_reducible rfl
        | exact same_of hA rfl
        | refine br_of hA (fun _ => ?_) (fun _ => ?_)
        | exact imp_of hA id
        | (refine imp_of hA ?_; subst hA; simp only [real, Bool.true_and]; exact id)
        | (refine ind_of hA ?_; decide +kernel)
        | (refine call_of hA hM _ hI2 ?_; cbv)
        | (refine call_of hA hM _ hItm ?_; cbv)
        | (refine call_of hA hM _ hW ?_; cbv)
        | (refine call_of hA hM _ hF ?_; cbv)
        | (exfalso; rename_i h; subst hA; simp [real] at h; done)
      all_goals
        subst hA
        refine congrArg (fun b => XA.one (.c (.d (eB b)))) ?_
        show (bif (bif ((k : Int) == 0) then (x.1 == 1000) else false) then ((q : Int) == (c : Int)) else false) = true
        rw [hk0, e1, hqc]
        simp
    · obtain ⟨x2, hx2⟩ : ∃ v, v = opTakeL j ⟨x.1, ⟨k, G, hkL⟩⟩ m := ⟨_, rfl⟩
      obtain ⟨k2, G2, hG2⟩ := lst_ex zRow x2.2.1
      obtain ⟨c2, P2, hP2⟩ := lst_ex zPan x2.2.2.1
      obtain ⟨d2, Q2, hQ2⟩ := lst_ex zLat x2.2.2.2
      have hI2 : Meets Try.prog 48 [xd (eJob j), .agg [.d (eI x.1), .d (.sl 13 k fun i => eRow (G i))], xd (eItm m)] ⟨.tup [.agg [.d (eI x2.1), .d (.sl 13 k2 fun i => eRow (G2 i))], .c (.d (.sl 9 c2 fun i => ePane (P2 i))), .c (.d (.sl 7 d2 fun i => eLat (Q2 i)))], [none, none, none]⟩ :=
        meets_frz (c_OpTake j ⟨x.1, ⟨k, G, hkL⟩⟩ (show k ≤ 1080000 by omega) m x2 hx2 k2 G2 hG2 c2 P2 hP2 d2 Q2 hQ2) rfl
      have hno : ∀ {A : Ar}, real = A → A.bite (A.cmp .eql m.kind 1) bi false = true → False := fun hA h => by
        subst hA
        have h : (bif (m.kind == 1) then bi else false) = true := h
        cases hk : (m.kind == 1) with
        | false => rw [hk] at h; cases h
        | true => rw [hk] at h; exact hr ⟨eq_of_beq hk, hbi.1 h⟩
      have hno1 : ∀ {A : Ar} {t : Bool}, real = A → A.bite (A.bite (A.cmp .eql m.kind 1) bi false) t false = true → False := fun {A t} hA h => by
        refine hno hA ?_
        subst hA
        have h : (bif (bif (m.kind == 1) then bi else false) then t else false) = true := h
        show (bif (m.kind == 1) then bi else false) = true
        cases h2 : (bif (m.kind == 1) then bi else false) with
        | true => rfl
        | false => rw [h2] at h; cases h
      have hno2 : ∀ {A : Ar} {t : Bool}, real = A → A.band (A.bite (A.cmp .eql m.kind 1) bi false) t = true → False := fun {A t} hA h => by
        refine hno hA ?_
        subst hA
        have h : ((bif (m.kind == 1) then bi else false) && t) = true := h
        exact (Bool.and_eq_true _ _ ▸ h).1
      repeat' first
        | exact (hno1 hA (by assumption)).elim
        | apply And.intro
        | exact True.intro
        | with_reducible rfl
        | exact same_of hA rfl
        | refine br_of hA (fun _ => ?_) (fun _ => ?_)
        | exact imp_of hA id
        | (refine imp_of hA ?_; subst hA; simp only [real, Bool.true_and]; exact id)
        | (refine ind_of hA ?_; decide +kernel)
        | (refine call_of hA hM _ hI2 ?_; cbv)
        | (refine call_of hA hM _ hItm ?_; cbv)
        | (refine call_g (f := 24) hA hM ⟨.one (.c (.d (eB true))), [none, none]⟩ (fun hg => ?_) ?_; (focus (first | exact (hno hA hg).elim | exact (hno1 hA hg).elim | exact (hno2 hA hg).elim)); cbv)
        | (refine call_g (f := 51) hA hM ⟨.one (.c (.d (.sl 2 0 fun _ => eWin zWin))), [none, none]⟩ (fun hg => ?_) ?_; (focus (first | exact (hno hA hg).elim | exact (hno1 hA hg).elim | exact (hno2 hA hg).elim)); cbv)
      all_goals
        subst hA
        refine congrArg (fun b => XA.one (.c (.d (eB b)))) ?_
        show (bif (bif ((k : Int) == 0) then (x.1 == 1000) else false) then ((q : Int) == (c : Int)) else false) = true
        rw [hk0, e1, hqc]
        simp
theorem sh_u8 {m : Nat} {l : List DV} (h : Shows TT (m + 1) 5 l) : ∃ x : Int, (0 ≤ x ∧ x ≤ 255) ∧ l = [eU x] := by
  obtain ⟨x, h, hw⟩ := h
  have h2 : IntKind.u8.min ≤ x ∧ x ≤ IntKind.u8.max := (Go.Lit.wf_int_iff _ _).1 hw
  have e1 : IntKind.u8.min = 0 := by decide
  have e2 : IntKind.u8.max = 255 := by decide
  rw [e1, e2] at h2
  exact ⟨x, h2, h⟩
theorem sh_bytes {m : Nat} {l : List DV} (h : Shows TT (m + 2) 22 l) : ∃ (n : Nat) (b : Nat → Int), (∀ i, 0 ≤ b i ∧ b i ≤ 255) ∧ l = [.sl 1 n fun i => [eU (b i)]] := by
  obtain ⟨sz, n, row, rfl, hsz, hn, hr⟩ := h
  cases hsz
  have hrow : ∀ i, ∃ x : Int, (0 ≤ x ∧ x ≤ 255) ∧ row i = [eU x] := fun i => sh_u8 (hr i)
  obtain ⟨rd, hrd⟩ : ∃ rd : Nat → Int, ∀ i, (0 ≤ rd i ∧ rd i ≤ 255) ∧ row i = [eU (rd i)] := ⟨fun i => Classical.choose (hrow i), fun i => Classical.choose_spec (hrow i)⟩
  have e : row = fun i => [eU (rd i)] := funext fun i => (hrd i).2
  subst e
  exact ⟨n, rd, fun i => (hrd i).1, rfl⟩
theorem lawRow (ls : List (List DV)) (h : ShowsL TT 2 [22] ls) : Meets Try.prog 13 (xtsIn TT [22] ls) ⟨.one (.c (.d (.v (.bool true)))), [none]⟩ := by
  rcases ls with _ | ⟨l0, _ | ⟨l1, ls⟩⟩
  · exact h.elim
  · obtain ⟨n0, b0, hb0, rfl⟩ := sh_bytes h.1
    exact m_law n0 b0 hb0
  · exact h.2.elim
theorem own : ownKnob Try.prog.godebug = none := by kernel_rfl
theorem laidOut : laidOutB Try.prog = true := by kernel_rfl
set_option maxRecDepth 100000 in
theorem lifted (os : Os) (started : os.Started) (H : Type) (enc : TypeId × Value → H) :
    ReturnsInHanded {} Try.checked os 13 .any (Ytaceckhmclddeaa.Rows.fnOpEndSpec.pre6 enc Try.prog Try.f13 Ytaceckhmclddeaa.Rows.fnOpEndRow.domain false)
      (Ytaceckhmclddeaa.Rows.fnOpEndSpec.post enc Try.prog Try.f13 false true false false) := by
  refine returnsInHanded_of_change_sized (C := Try.checked) own started (by kernel_rfl) Try.func13
    (ChangeSpec.witness6 (enc := enc) (C := Try.checked) false ⟨#[], #[.slice none 0 0], []⟩ 8 (by kernel_rfl) (by kernel_rfl) (by kernel_rfl) (by kernel_rfl)) ?_
  intro W base args ds gs before hval0 hW hcnd hsz0 _
  refine law_contract (P := Try.prog) (T := TT) ttok (n := 2) (tb := 4) laidOut (by decide +kernel) (by kernel_rfl) rfl Try.underlying4 rfl ?_ ?_ W base args ds gs before hval0 hW
  · intro H ds hl
    match ds, hl with
    | [d0], _ => exact ⟨rfl, rfl, rfl⟩
  · rw [Try.params13]
    intro ls hls
    exact lawRow ls hls
theorem over : Ytaceckhmclddeaa.Rows.fnOpEndRow.holds Ytaceckhmclddeaa.Try.pinned (OpenSpec.ofChange Ytaceckhmclddeaa.Rows.fnOpEndSpec) :=
  OpenClaim.holds_of_wide 13 Try.f13 rfl rfl rfl rfl rfl rfl rfl ⟨rfl, rfl, rfl, rfl, rfl⟩ rfl rfl rfl rfl rfl (by kernel_rfl) Try.func13 (by kernel_rfl)
    (of_decide_eq_true (by kernel_rfl)) (by unfold Func.isWrapper; first | (rw [if_pos (by decide +kernel)]; kernel_rfl) | (rw [if_neg (by decide +kernel)]; exact ⟨rfl, rfl⟩))
    (fun os started H enc _ => lifted os started H enc)
end Go.Rk
namespace Go.Proofs.Ytaceckhmclddeaa
theorem fnOpEnd_holds : Rows.FnOpEndSaid := Go.Rk.over
#print axioms fnOpEnd_holds
end Go.Proofs.Ytaceckhmclddeaa
