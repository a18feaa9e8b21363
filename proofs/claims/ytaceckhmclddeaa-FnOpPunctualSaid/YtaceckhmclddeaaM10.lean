/- The walk over this seat's functions, part 10: what each of them answers, at all data. -/
import Derived.Test.YtaceckhmclddeaaM1
import Derived.Test.YtaceckhmclddeaaM2
import Derived.Test.YtaceckhmclddeaaM3
import Derived.Test.YtaceckhmclddeaaM4
import Derived.Test.YtaceckhmclddeaaM5
import Derived.Test.YtaceckhmclddeaaM6
import Derived.Test.YtaceckhmclddeaaM7
import Derived.Test.YtaceckhmclddeaaM8
import Derived.Test.YtaceckhmclddeaaM9
import Derived.Test.YtaceckhmclddeaaRows
import Derived.WalkKit
import Derived.ProofKit
import Derived.OpenShut
import Derived.ShutString
import Derived.ChangeOld
import Derived.SizedLaws
import Derived.DataShut
/- Records: tab. -/
namespace Go.Rk
set_option linter.unusedSimpArgs false
set_option linter.unusedVariables false
open Go.Proofs
set_option maxRecDepth 100000
set_option maxHeartbeats 1000000
def st_SpcT (j : JobT) (n : Nat) (gp : Nat → LatT) (i c : Nat) (G : Nat → TabT) : St := ⟨[(15, .c (.d (eI i))), (14, .c (.d (eI n))), (13, .c (.d (.sl 7 n fun i => eLat (gp i)))), (5, .c (.own 320 0 c 1)), (2, .c (.bp 128 1 0))], [(128, 1, .box ((eJob j).map .d)), (320, 1, .arr 7 c fun k => eTab (G k))]⟩
def st_SpcTi (j : JobT) (n : Nat) (gp : Nat → LatT) (i c : Nat) (G : Nat → TabT) (i2 c2 : Nat) (G2 : Nat → TabT) (sp : WinT) (a : AggT) : St := ⟨[(42, .c (.d (eI i2))), (41, .c (.d (eI c))), (40, .c (.d (.sl 7 c fun k => eTab (G k)))), (5, .c (.d (.sl 7 c2 fun k => eTab (G2 k)))), (8, .c (.bp 512 1 0)), (7, .c (.bp 448 1 0)), (15, .c (.d (eI i))), (14, .c (.d (eI n))), (13, .c (.d (.sl 7 n fun i => eLat (gp i)))), (2, .c (.bp 128 1 0))], [(512, 1, .box ((eTab ⟨(gp i).itm.key, sp, a⟩).map .d)), (448, 1, .box ((eLat (gp i)).map .d)), (128, 1, .box ((eJob j).map .d))]⟩
theorem c_SpcT (j : JobT) (m : Nat) (hm : m ≤ maxLen) (g : Nat → ItmT) (n0 : Nat) (G0 : Nat → TabT) (h0 : Lst zTab (spcT j.kind (spcL j m g)) n0 G0) : Meets Try.prog 32 [xd (eJob j), .c (.d (.sl 5 m fun i => eItm (g i)))] ⟨.one (.c (.own 7 n0 fun i => eTab (G0 i))), [none, none]⟩ := by
  obtain ⟨P, hP⟩ : ∃ P, P = spcL j m g := ⟨_, rfl⟩
  have hfi : Fine P := by rw [hP]; exact fine_spc j m g
  have hPl : P.length ≤ 12000 := by rw [hP]; exact spcL_len j m g
  rw [← hP] at h0
  obtain ⟨n, gp, hl⟩ := lst_ex zLat P
  have hn : n ≤ 12000 := by rw [hl.1]; exact hPl
  have hnL : n ≤ maxLen := Nat.le_trans hn (by decide)
  have cPair := meets_frz (c_Spc j m hm g n gp (by rw [← hP]; exact lst_tells eLat hl)) rfl
  refine meets_of (H := [19]) (EX := EXA) ttok mixed Try.func32 rfl (by kernel_rfl) (by decide) ?_
  generalize hA : real = A
  generalize hM : MeetsB Try.prog = M
  cbv
  repeat' first
    | apply And.intro
    | exact True.intro
    | with_reducible rfl
    | exact same_of hA rfl
    | refine br_of hA (fun _ => ?_) (fun _ => ?_)
    | exact imp_of hA id
    | (refine imp_of hA ?_; subst hA; simp only [real, Bool.true_and]; exact id)
    | (refine ind_of hA ?_; decide +kernel)
    | (refine call_of hA hM _ cPair ?_; cbv)
    | exact flat_lat hA _ _
    | fail
  refine loop_of hA (α := { q : Nat × Nat × (Nat → TabT) // q.1 ≤ n ∧ Lst zTab ((P.take q.1).foldl (stepI j.kind) []) q.2.1 q.2.2 }) (fun y => st_SpcT j n gp y.1.1 y.1.2.1 y.1.2.2) (fun y => n - y.1.1) ⟨(0, 0, fun _ => zTab), Nat.zero_le _, rfl, fun k h => absurd h (Nat.not_lt_zero k)⟩ ?_ ?_
  · refine cov_prom 5 320 1 7 (fun _ => []) rfl rfl (cov_of ?_ ?_ ?_)
    · cbv; try (subst hA; repeat' first | apply And.intro | exact True.intro | rfl | fail)
    · cbv; try (subst hA; repeat' first | apply And.intro | exact True.intro | rfl | (intro _ _; rfl) | (intro k hk; exact absurd hk (Nat.not_lt_zero k)) | fail)
    · cbv; try (subst hA; repeat' first | apply And.intro | exact True.intro | rfl | exact .inr trivial | exact .inl trivial)
  rintro ⟨⟨i, c, G⟩, hi, hT⟩
  have hi : i ≤ n := hi
  obtain ⟨T, hTe⟩ : ∃ T, T = (P.take i).foldl (stepI j.kind) [] := ⟨_, rfl⟩
  have hT : Lst zTab T c G := by rw [hTe]; exact hT
  have hci : c ≤ i := by
    rw [hT.1, hTe]
    have h1 := fold_len (stepI_len j.kind) (P.take i) []
    rw [List.length_take] at h1
    simp only [List.length_nil] at h1
    omega
  have hnext : i < n → ∀ m H, Lst zTab (stepI j.kind T (gp i)) m H → i + 1 ≤ n ∧ Lst zTab ((P.take (i + 1)).foldl (stepI j.kind) []) m H := fun h m H hH => ⟨h, by rw [lst_take hl h, fold_snoc, ← hTe]; exact hH⟩
  obtain ⟨a, ha⟩ : ∃ a, a = (tFind (gp i).itm.key (gp i).win T).getD zAgg := ⟨_, rfl⟩
  obtain ⟨b, hb⟩ : ∃ b, b = (tFind (gp i).itm.key (gp i).win T).isSome := ⟨_, rfl⟩
  obtain ⟨ag, hag⟩ : ∃ x, x = aggAdd a (gp i).itm.v := ⟨_, rfl⟩
  obtain ⟨np, Gp, hPu⟩ := lst_ex zTab (tPut ⟨(gp i).itm.key, (gp i).win, ag⟩ T)
  have cF := c_Find T c G hT (by omega) (gp i).itm.key (gp i).win a ha b hb
  have cA := c_AggAdd a (gp i).itm.v ag hag
  have cP := c_Put T c G hT (by omega) _ np Gp hPu
  cbv
  repeat' first
    | apply And.intro
    | exact True.intro
    | with_reducible rfl
    | exact same_of hA rfl
    | refine br_of hA (fun _ => ?_) (fun _ => ?_)
    | exact imp_of hA id
    | (refine imp_of hA ?_; subst hA; simp only [real, Bool.true_and]; exact id)
    | (refine ind_of hA ?_; decide +kernel)
    | (refine inb_lt hA ?_; first | exact lt2_of hA (by assumption) | exact lt_of hA (by assumption))
    | exact flat_tab hA _ _
    | (refine call_of2 hA hM _ cF (by (subst hA; first | rfl | (simp only [sub0r]; try rfl))) ?_; cbv)
    | (refine call_of2 hA hM _ cA (by (subst hA; first | rfl | (simp only [sub0r]; try rfl))) ?_; cbv)
    | (refine call_of2 hA hM _ cP (by (subst hA; first | rfl | (simp only [sub0r]; try rfl))) ?_; cbv)
    | fail
  · rename_i hlt hk
    have hlt' : i < n := by first | exact lt2_of hA hlt | exact lt_of hA hlt
    have hk : j.kind = 3 := by subst hA; exact of_decide_eq_true hk
    refine loop_of hA (α := { q : Nat × Nat × (Nat → TabT) × WinT × AggT // q.1 ≤ c ∧ Lst zTab (T.filter fun r => !((T.take q.1).any fun s => tchD (gp i).itm.key (gp i).win s && decide (IsRow s.key s.win r))) q.2.1 q.2.2.1 ∧ q.2.2.2.1 = (((T.take q.1).filter (tchD (gp i).itm.key (gp i).win)).map (·.win)).foldl winSpan (gp i).win ∧ q.2.2.2.2 = (((T.take q.1).filter (tchD (gp i).itm.key (gp i).win)).map (·.agg)).foldl aggB zAgg }) (fun y => st_SpcTi j n gp i c G y.1.1 y.1.2.1 y.1.2.2.1 y.1.2.2.2.1 y.1.2.2.2.2) (fun y => c - y.1.1) ⟨(0, c, G, (gp i).win, zAgg), Nat.zero_le _, ?_, rfl, rfl⟩ ?_ ?_
    · have e : (T.filter fun r => !((T.take 0).any fun s => tchD (gp i).itm.key (gp i).win s && decide (IsRow s.key s.win r))) = T := by rw [List.filter_eq_self]; intro r _; rfl
      simp only
      rw [e]; exact hT
    · refine cov_frz2 (k := 5) (k2 := 40) (l := 320) rfl rfl rfl (cov_of ?_ ?_ ?_)
      · cbv; try (subst hA; repeat' first | apply And.intro | exact True.intro | rfl | (intro _ _; rfl))
      · cbv; try (subst hA; repeat' first | apply And.intro | exact True.intro | rfl | (intro _ _; rfl) | (intro k hk; exact absurd hk (Nat.not_lt_zero k)) | (intro _ _; rfl))
      · cbv; try (subst hA; repeat' first | apply And.intro | exact True.intro | rfl | exact .inr trivial | exact .inl trivial)
    rintro ⟨⟨i2, c2, G2, sp, a2⟩, hi2, hG2, hsp, ha2⟩
    have hi2 : i2 ≤ c := hi2
    have hsp : sp = (((T.take i2).filter (tchD (gp i).itm.key (gp i).win)).map (·.win)).foldl winSpan (gp i).win := hsp
    have ha2 : a2 = (((T.take i2).filter (tchD (gp i).itm.key (gp i).win)).map (·.agg)).foldl aggB zAgg := ha2
    obtain ⟨T2, hT2⟩ : ∃ T2, T2 = T.filter fun r => !((T.take i2).any fun s => tchD (gp i).itm.key (gp i).win s && decide (IsRow s.key s.win r)) := ⟨_, rfl⟩
    have hG2 : Lst zTab T2 c2 G2 := by rw [hT2]; exact hG2
    have hc2 : c2 ≤ c := by rw [hG2.1, hT2, hT.1]; exact List.length_filter_le _ _
    obtain ⟨no, Go, hO⟩ := lst_ex zTab (tOut (G i2).key (G i2).win T2)
    obtain ⟨sp', hsp'⟩ : ∃ z, z = winSpan sp (G i2).win := ⟨_, rfl⟩
    obtain ⟨a2', ha2'⟩ : ∃ z, z = aggB a2 (G i2).agg := ⟨_, rfl⟩
    have cO := meets_frz (c_Out T2 c2 G2 hG2 (by omega) (G i2).key (G i2).win no Go hO) rfl
    have cS := c_WinSpan sp (G i2).win sp' hsp'
    have cB := c_AggBoth a2 (G i2).agg a2' ha2'
    cbv
    repeat' first
      | apply And.intro
      | exact True.intro
      | with_reducible rfl
      | exact same_of hA rfl
      | refine br_of hA (fun _ => ?_) (fun _ => ?_)
      | exact imp_of hA id
      | (refine imp_of hA ?_; subst hA; simp only [real, Bool.true_and]; exact id)
      | (refine ind_of hA ?_; decide +kernel)
      | (refine call_ex hA hM (c_WinTouch _ _ _ _) (fun _ _ => ?_); cbv)
      | (refine inb_lt hA ?_; first | exact lt2_of hA (by assumption) | exact lt_of hA (by assumption))
      | exact flat_tab hA _ _
      | (refine call_of2 hA hM _ cO (by (subst hA; first | rfl | (simp only [sub0r]; try rfl))) ?_; cbv)
      | (refine call_of2 hA hM _ cS (by (subst hA; first | rfl | (simp only [sub0r]; try rfl))) ?_; cbv)
      | (refine call_of2 hA hM _ cB (by (subst hA; first | rfl | (simp only [sub0r]; try rfl))) ?_; cbv)
      | fail
    · rename_i hlt2 bb hbb hc
      have hl2 : i2 < c := by first | exact lt2_of hA hlt2 | exact lt_of hA hlt2
      have hbb : bb = decide ((G i2).win.s < (gp i).win.e ∧ (gp i).win.s < (G i2).win.e) := by subst hA; exact hbb
      have ht : tchD (gp i).itm.key (gp i).win (G i2) = true := by
        subst hA
        have hc : (bif (G i2).key == (gp i).itm.key then bb else false) = true := hc
        rw [bifA, Bool.and_eq_true, hbb, decide_eq_true_eq] at hc
        exact decide_eq_true ⟨eq_of_beq hc.1, hc.2⟩
      refine ⟨⟨(i2 + 1, no, Go, sp', a2'), hl2, ?_, ?_, ?_⟩, by simp only; omega, cov_of ?_ ?_ ?_⟩
      · simp only
        have e : (T.filter fun r => !((T.take (i2 + 1)).any fun s => tchD (gp i).itm.key (gp i).win s && decide (IsRow s.key s.win r))) = tOut (G i2).key (G i2).win T2 := by
          rw [outs_step hT2, lst_take hT hl2]
          refine congrArg (fun f => T.filter f) (funext fun r => ?_)
          rw [List.any_append, Bool.not_or]
          simp [ht]
        rw [e]; exact hO
      · simp only
        rw [lst_take hT hl2, List.filter_append]
        have e : [G i2].filter (tchD (gp i).itm.key (gp i).win) = [G i2] := by simp [ht]
        rw [e, List.map_append, List.foldl_append, ← hsp, hsp']; rfl
      · simp only
        rw [lst_take hT hl2, List.filter_append]
        have e : [G i2].filter (tchD (gp i).itm.key (gp i).win) = [G i2] := by simp [ht]
        rw [e, List.map_append, List.foldl_append, ← ha2, ha2']; rfl
      · cbv; subst hA; repeat' first | apply And.intro | exact True.intro | exact congrArg (fun x => DV.v (.int .i64 x)) (up64 hl2 (Nat.le_trans hci (Nat.le_trans hi hnL))) | rfl
      · cbv; try (subst hA; repeat' first | apply And.intro | exact True.intro | rfl | (intro _ _; rfl))
      · cbv; try (subst hA; repeat' first | apply And.intro | exact True.intro | rfl | exact .inr trivial | exact .inl trivial)
    · rename_i hlt2 bb hbb hc
      have hl2 : i2 < c := by first | exact lt2_of hA hlt2 | exact lt_of hA hlt2
      have hbb : bb = decide ((G i2).win.s < (gp i).win.e ∧ (gp i).win.s < (G i2).win.e) := by subst hA; exact hbb
      have ht : tchD (gp i).itm.key (gp i).win (G i2) = false := by
        subst hA
        have hc : (bif (G i2).key == (gp i).itm.key then bb else false) = false := hc
        rw [bifA] at hc
        refine decide_eq_false fun e => ?_
        have h1 : ((G i2).key == (gp i).itm.key) = true := beq_iff_eq.2 e.1
        have h2 : bb = true := by rw [hbb]; exact decide_eq_true e.2
        rw [h1, h2] at hc; cases hc
      refine ⟨⟨(i2 + 1, c2, G2, sp, a2), hl2, ?_, ?_, ?_⟩, by simp only; omega, cov_of ?_ ?_ ?_⟩
      · simp only
        have e : (T.filter fun r => !((T.take (i2 + 1)).any fun s => tchD (gp i).itm.key (gp i).win s && decide (IsRow s.key s.win r))) = T2 := by
          rw [hT2, lst_take hT hl2]
          refine congrArg (fun f => T.filter f) (funext fun r => ?_)
          rw [List.any_append]
          simp [ht]
        rw [e]; exact hG2
      · simp only
        rw [lst_take hT hl2, List.filter_append]
        have e : [G i2].filter (tchD (gp i).itm.key (gp i).win) = [] := by simp [ht]
        rw [e, List.append_nil]; exact hsp
      · simp only
        rw [lst_take hT hl2, List.filter_append]
        have e : [G i2].filter (tchD (gp i).itm.key (gp i).win) = [] := by simp [ht]
        rw [e, List.append_nil]; exact ha2
      · cbv; subst hA; repeat' first | apply And.intro | exact True.intro | exact congrArg (fun x => DV.v (.int .i64 x)) (up64 hl2 (Nat.le_trans hci (Nat.le_trans hi hnL))) | rfl
      · cbv; try (subst hA; repeat' first | apply And.intro | exact True.intro | rfl | (intro _ _; rfl))
      · cbv; try (subst hA; repeat' first | apply And.intro | exact True.intro | rfl | exact .inr trivial | exact .inl trivial)
    · rename_i hge2
      have hin2 : i2 = c := by first | (have := ge2_of hA hge2; omega) | (have := ge_of hA hge2; omega)
      subst hin2
      rw [lst_all hT] at hT2 hsp ha2
      rw [outs_all] at hT2
      obtain ⟨ag3, hag3⟩ : ∃ x, x = aggAdd a2 (gp i).itm.v := ⟨_, rfl⟩
      obtain ⟨np3, Gp3, hPu3⟩ := lst_ex zTab (tPut ⟨(gp i).itm.key, sp, ag3⟩ T2)
      have cA3 := c_AggAdd a2 (gp i).itm.v ag3 hag3
      have cP3 := c_Put T2 c2 G2 hG2 (by omega) _ np3 Gp3 hPu3
      repeat' first
        | apply And.intro
        | exact True.intro
        | with_reducible rfl
        | exact same_of hA rfl
        | refine br_of hA (fun _ => ?_) (fun _ => ?_)
        | exact imp_of hA id
        | (refine imp_of hA ?_; subst hA; simp only [real, Bool.true_and]; exact id)
        | (refine ind_of hA ?_; decide +kernel)
        | (refine call_of2 hA hM _ cA3 (by (subst hA; first | rfl | (simp only [sub0r]; try rfl))) ?_; cbv)
        | (refine call_of2 hA hM _ cP3 (by (subst hA; first | rfl | (simp only [sub0r]; try rfl))) ?_; cbv)
        | exact flat_tab hA _ _
        | fail
      refine ⟨⟨(i + 1, np3, Gp3), hnext hlt' _ _ ?_⟩, by simp only; omega, cov_rel 320 2 (k := 5) (l := 5504) (sz := 7) rfl rfl rfl rfl (cov_of ?_ ?_ ?_)⟩
      · unfold stepI sessI; rw [if_pos hk, ← hsp, ← ha2, ← hT2, ← hag3]; exact hPu3
      · cbv; subst hA; repeat' first | apply And.intro | exact True.intro | exact congrArg (fun x => DV.v (.int .i64 x)) (up64 hlt' hnL) | rfl
      · cbv; try (subst hA; repeat' first | apply And.intro | exact True.intro | rfl | (intro _ _; rfl))
      · cbv; try (subst hA; repeat' first | apply And.intro | exact True.intro | rfl | exact .inr trivial | exact .inl trivial)
  · rename_i hlt hk
    have hlt' : i < n := by first | exact lt2_of hA hlt | exact lt_of hA hlt
    have hk : ¬ j.kind = 3 := by subst hA; exact of_decide_eq_false hk
    refine ⟨⟨(i + 1, np, Gp), hnext hlt' _ _ ?_⟩, by simp only; omega, cov_rel 320 2 (k := 5) (l := 5504) (sz := 7) rfl rfl rfl rfl (cov_of ?_ ?_ ?_)⟩
    · unfold stepI stepW; rw [if_neg hk, ← ha, ← hag]; exact hPu
    · cbv; subst hA; repeat' first | apply And.intro | exact True.intro | exact congrArg (fun x => DV.v (.int .i64 x)) (up64 hlt' hnL) | rfl
    · cbv; try (subst hA; repeat' first | apply And.intro | exact True.intro | rfl | (intro _ _; rfl))
    · cbv; try (subst hA; repeat' first | apply And.intro | exact True.intro | rfl | exact .inr trivial | exact .inl trivial)
  · rename_i hge
    have hin : i = n := by first | (have := ge2_of hA hge; omega) | (have := ge_of hA hge; omega)
    subst hin
    rw [lst_all hl, foldI_eq hfi] at hTe
    rw [hTe] at hT
    have hcc : c = n0 := hT.1.trans h0.1.symm
    subst hcc
    refine stop_of hA ⟨[(5, .c (.own 320 0 c 1))], [(320, 1, .arr 7 c fun i => eTab (G0 i))]⟩ (cov_of ?_ ?_ ?_) ?_
    · cbv
    · cbv
      exact ⟨fun q hq => congrArg eTab ((hT.2 q hq).trans (h0.2 q hq).symm), trivial⟩
    · cbv
    · cbv
      repeat' first
        | apply And.intro
        | exact True.intro
        | with_reducible rfl
        | exact same_of hA rfl
        | refine br_of hA (fun _ => ?_) (fun _ => ?_)
        | exact imp_of hA id
        | (refine imp_of hA ?_; subst hA; simp only [real, Bool.true_and]; exact id)
        | (refine ind_of hA ?_; decide +kernel)
        | fail
end Go.Rk
/- A log told to its end. -/
namespace Go.Rk
set_option linter.unusedSimpArgs false
set_option linter.unusedVariables false
theorem mkF_E {l : List ItmT} (h : ∀ x, x ∈ l → LogE x) : 0 ≤ mkF l ∧ mkF l ≤ 60 := by
  revert h
  refine snocInd (P := fun l => (∀ x, x ∈ l → LogE x) → 0 ≤ mkF l ∧ mkF l ≤ 60) (fun _ => ⟨Int.le_refl _, by decide⟩) (fun l x ih h => ?_) l
  have h1 := ih fun y hy => h y (List.mem_append_left _ hy)
  rw [mkF_snoc]
  split
  · rename_i hk
    rcases h x (by simp) with hr | ⟨t, ht, rfl⟩
    · exact absurd hr.1 (by omega)
    · show 0 ≤ (if mkF l < t then t else mkF l) ∧ (if mkF l < t then t else mkF l) ≤ 60
      split <;> omega
  · exact h1
theorem fed_end {j : JobT} (hj : JobOkP j) {l : List ItmT} (h : ∀ x, x ∈ l → LogE x) (hl : l.length ≤ 59) : (fedL j (l ++ [endE])).1 = 1000 ∧ (fedL j (l ++ [endE])).2.1 = [] := by
  have hX : ∀ x, x ∈ l → LogX x := fun x hx => .inl (h x hx)
  have hfi := fi_fed hj l hX (by omega)
  have hm := mkF_E h
  rw [← fed_mark j] at hm
  rw [fedL_snoc]
  unfold fedS
  rw [if_pos (show endE.kind = 2 from rfl)]
  have e : markL j (fedL j l).1 (fedL j l).2.1 endE.t = (1000, keepL j.late 1000 (fedL j l).2.1, tellL j.piece 1000 (fedL j l).2.1) := by
    unfold markL
    exact if_neg (show ¬ (1000 : Int) ≤ (fedL j l).1 by omega)
  rw [e]
  refine ⟨rfl, ?_⟩
  show keepL j.late 1000 (fedL j l).2.1 = []
  refine List.eq_nil_iff_forall_not_mem.2 fun r hr => ?_
  obtain ⟨q, hq, ho, _⟩ := keepL_mem.1 hr
  have hro := hfi.ok.1 q hq
  have hw := late_w hj hro.2.1
  have hd := winOk_d hro.2.1
  unfold overB at ho
  rw [hw] at ho
  have := of_decide_eq_false ho
  unfold JobOkP at hj
  omega
/-- Behind the end all that is known is told. -/
theorem known_end {j : JobT} (hj : JobOkP j) {l : List ItmT} (h : ∀ x, x ∈ l → LogE x) (hl : l.length ≤ 59) : ∃ P, Known j (l ++ [endE]) P (ofL j.piece (fedL j (l ++ [endE])).2.2.1) := by
  have hX : ∀ x, x ∈ l ++ [endE] → LogX x := fun x hx => by
    rcases List.mem_append.1 hx with hx | hx
    · exact .inl (h x hx)
    · simp at hx; exact .inr hx
  have hlen : (l ++ [endE]).length ≤ 60 := by rw [List.length_append]; simp; omega
  obtain ⟨P, K, hK⟩ := fed_K hj (l ++ [endE]) hX hlen
  have hT := fed_TI hj (l ++ [endE]) hX hlen
  obtain ⟨e1, e2⟩ := fed_end hj h hl
  have hi := hK.inv
  rw [e2] at hi
  have e := kinv_end hT.rise hi
  rw [e] at hK
  exact ⟨P, hK⟩
/-- No record comes too late that is not of the log. -/
theorem late_in {j : JobT} {l : List ItmT} {P : List LatT} {K : List TabT} (h : Known j l P K) : ∀ y, y ∈ (fedL j l).2.2.2 → y.itm ∈ l := fun y hy => by
  have h1 : y ∈ pairsOf j (recsK l) := h.perm.mem_iff.2 (List.mem_append_right _ hy)
  unfold pairsOf at h1
  obtain ⟨x, hx, h2⟩ := List.mem_flatMap.1 h1
  obtain ⟨w, _, rfl⟩ := List.mem_map.1 h2
  exact (List.mem_filter.1 hx).1
/-- FnOpPunctual in plain words. -/
theorem punc_law {j : JobT} (hj : JobOkP j) {l : List ItmT} (h : ∀ x, x ∈ l → LogE x) (hl : l.length ≤ 59) (hp : PuncP j.late (l ++ [endE])) :
    (fedL j (l ++ [endE])).2.2.2 = [] ∧ ofL j.piece (fedL j (l ++ [endE])).2.2.1 = spcT j.kind (pairsOf j (recsK (l ++ [endE]))) := by
  obtain ⟨P, hK⟩ := known_end hj h hl
  obtain ⟨h1, h2⟩ := hK.punc hp
  refine ⟨h1, ?_⟩
  rw [hK.tab fun _ => hp, h2]; rfl
theorem less_in {x : ItmT} {l : List ItmT} (h : x ∈ l) : lessL [x] l = [] := by
  have hnil : ∀ m : List ItmT, lessL [] m = [] := fun m => List.eq_nil_of_length_eq_zero (Nat.le_zero.1 (lessL_len [] m))
  induction l with
  | nil => simp at h
  | cons y l ih =>
    show lessL (lessI [x] y) l = []
    by_cases e : x = y
    · subst e
      have : lessI [x] x = [] := by unfold lessI; simp
      rw [this]; exact hnil l
    · have : lessI [x] y = [x] := by unfold lessI; exact List.erase_of_not_mem (by simp; exact fun h => e h.symm)
      rw [this]
      rcases List.mem_cons.1 h with h | h
      · exact absurd h e
      · exact ih h
theorem lst_range {α : Type} {z : α} {l : List α} {n : Nat} {g : Nat → α} (h : Lst z l n g) : (List.range n).map g = l := by
  refine List.ext_getElem (by rw [List.length_map, List.length_range, h.1]) fun i h1 h2 => ?_
  rw [List.getElem_map, List.getElem_range, h.2 i (by rw [h.1]; exact h2), List.getD_eq_getElem?_getD, List.getElem?_eq_getElem h2]
  rfl
theorem spc_of {j : JobT} (hj : JobOkP j) {l : List ItmT} {n : Nat} {g : Nat → ItmT} (h : Lst endE l n g) (hn : n ≤ 120) (hr : ∀ x, x ∈ l → RecP x) : spcL j n g = pairsOf j l := by
  have hok : SpcOkP j n g := ⟨hj, hn, fun i hi => hr _ (lst_in h hi)⟩
  unfold spcL
  rw [if_pos hok, pairs_gl]
  show pairsOf j ((List.range n).map g) = _
  rw [lst_range h]
end Go.Rk
/- The law, walked. -/
namespace Go.Rk
set_option linter.unusedSimpArgs false
set_option linter.unusedVariables false
open Go.Proofs Go.ChangeShapes Go.WideShapes Go.ChangeAt Go.RowKit
set_option maxRecDepth 100000
set_option maxHeartbeats 2000000
theorem le_own {sz n : Nat} {f g : Nat → List DV} (h : ∀ i, i < n → f i = g i) : DLe (.sl sz n f) (.sl sz n g) := dle_sl fun i hi => by rw [h i hi]; exact LsLe.rfl
theorem lst_one {α : Type} (z x : α) : Lst z [x] 1 (fun _ => x) := ⟨rfl, fun k hk => by
  have h0 : k = 0 := by omega
  subst h0; rfl⟩
theorem lst_same {α : Type} {z : α} {l : List α} {n m : Nat} {g h : Nat → α} (h1 : Lst z l n g) (h2 : Lst z l m h) : n = m ∧ ∀ i, i < n → g i = h i := ⟨h1.1.trans h2.1.symm, fun i hi => (h1.2 i hi).trans (h2.2 i (by rw [h2.1, ← h1.1]; exact hi)).symm⟩
def st_pu (N : Nat) (g : Nat → ItmT) (d : Nat) (Q : Nat → LatT) (i : Nat) : St := ⟨[(9, .c (.d (eI i))), (8, .c (.d (.sl 5 d fun i => eItm (Q i).itm))), (4, .c (.d (.sl 5 N fun i => eItm (g i))))], []⟩
theorem m_law (M0 : Nat) (b : Nat → Int) (hb : ∀ i, 0 ≤ b i ∧ b i ≤ 255) : Meets Try.prog 5 [.c (.d (.sl 1 M0 fun i => [eU (b i)]))] ⟨.one (.c (.d (eB true))), [none]⟩ := by
  refine meets_of (H := []) (EX := EXA) ttok mixed Try.func5 rfl (by kernel_rfl) (by decide) ?_
  generalize hA : real = A
  generalize hM : MeetsB Try.prog = M
  cbv
  obtain ⟨⟨j, N, g⟩, ⟨hj, ⟨hN1, hN2⟩, hLog, hEnd⟩, hDraw⟩ := x_drawMix M0 b hb
  dsimp only at hj hN1 hN2 hLog hEnd hDraw
  have hDraw := meets_frz hDraw rfl
  obtain ⟨L, hL⟩ : ∃ L, L = (List.range N).map g := ⟨_, rfl⟩
  obtain ⟨l0, hl0⟩ : ∃ l0, l0 = (List.range (N - 1)).map g := ⟨_, rfl⟩
  have hLe : L = l0 ++ [endE] := by
    rw [hL, hl0, show N = (N - 1) + 1 by omega, List.range_succ, List.map_append, show (N - 1) + 1 - 1 = N - 1 by omega]
    show _ ++ [g (N - 1)] = _
    rw [hEnd]
  have hE0 : ∀ x, x ∈ l0 → LogE x := fun x hx => by
    rw [hl0] at hx
    obtain ⟨i, hi, rfl⟩ := List.mem_map.1 hx
    have hi := List.mem_range.1 hi
    exact hLog i (by omega)
  have hl59 : l0.length ≤ 59 := by rw [hl0, List.length_map, List.length_range]; omega
  have hLl : Lst endE L N g := by rw [hL]; exact lst_of _ _ _
  have hgX : ∀ x, x ∈ L → LogX x := fun x hx => by
    rw [hLe] at hx
    rcases List.mem_append.1 hx with hx | hx
    · exact .inl (hE0 x hx)
    · simp at hx; exact .inr hx
  have hLn : L.length = N := hLl.1.symm
  have hjl : 0 ≤ j.late ∧ j.late ≤ 20 := by unfold JobOkP at hj; omega
  obtain ⟨⟨⟨k1, G1⟩, ⟨c, P⟩, d, Q⟩, ⟨hG1, hP1, hQ1⟩, hF1⟩ := x_frFed j N g (by omega) hj L hLl hgX
  dsimp only at hG1 hP1 hQ1 hF1
  have hfl := fed_len hj L hgX (by omega)
  have hc : c ≤ 40000 := by rw [hP1.1]; omega
  have hd : d ≤ 400 := by rw [hQ1.1]; omega
  have hdL : d ≤ maxLen := Nat.le_trans hd (by decide)
  have hF1 := meets_frz hF1 rfl
  obtain ⟨bp, hbp, hPu⟩ := c_LogPunctual L N g hLl (by omega) hgX j.late hjl
  obtain ⟨nt, Gt, hGt⟩ := lst_ex zTab (ofL j.piece (fedL j L).2.2.1)
  have hO1 := meets_frz (c_Of (fedL j L).2.2.1 c P hP1 (by omega) j.piece nt Gt hGt) rfl
  have hntL : nt ≤ maxLen := Nat.le_trans (show nt ≤ 40000 by rw [hGt.1]; exact Nat.le_trans (ofL_len _ _) (by rw [← hP1.1]; exact hc)) (by decide)
  have hTb := c_frTab nt hntL Gt
  have hR0 := recsK_rec hgX
  have hR1 := recsK_len L
  obtain ⟨nr, Gr, hGr⟩ := lst_ex endE (recsK L)
  have hnr : nr ≤ 28 := by rw [hGr.1]; omega
  have hLR := meets_frz (c_LogRecs L N g hLl (by omega) (fun x hx h1 => by
    have := hR0 x (List.mem_filter.2 ⟨hx, decide_eq_true h1⟩)
    exact (recP_kv this).2.1) nr Gr hGr) rfl
  have hLa := meets_frz (c_LatRecs d (by omega) Q) rfl
  have hpun : PuncP j.late L → d = 0 ∧ ofL j.piece (fedL j L).2.2.1 = spcT j.kind (spcL j nr Gr) := fun h => by
    have hh := h
    rw [hLe] at hh
    obtain ⟨h1, h2⟩ := punc_law hj hE0 hl59 hh
    rw [← hLe] at h1 h2
    rw [spc_of hj hGr (by omega) hR0]
    exact ⟨by rw [hQ1.1, h1]; rfl, h2⟩
  obtain ⟨ns, Gs, hGs⟩ := lst_ex zTab (spcT j.kind (spcL j nr Gr))
  have hST := meets_frz (c_SpcT j nr (Nat.le_trans hnr (by decide)) Gr ns Gs hGs) rfl
  cases bp with
  | true =>
    obtain ⟨hd0, hsame⟩ := hpun (hbp.1 rfl)
    obtain ⟨hnn, hgg⟩ := lst_same hGt (by rw [hsame]; exact hGs)
    subst hnn
    have hST := meets_wk hST (r' := .one (.c (.d (.sl 7 nt fun i => eTab (Gt i))))) (le_own (fun i hi => by rw [hgg i hi]))
    repeat' first
      | apply And.intro
      | exact True.intro
      | with_reducible rfl
      | exact same_of hA rfl
      | refine br_of hA (fun _ => ?_) (fun _ => ?_)
      | exact imp_of hA id
      | (refine imp_of hA ?_; subst hA; simp only [real, Bool.true_and]; exact id)
      | (refine ind_of hA ?_; decide +kernel)
      | (refine call_of hA hM _ hDraw ?_; cbv)
      | (refine call_of hA hM _ hPu ?_; cbv)
      | (refine call_of hA hM _ hF1 ?_; cbv)
      | (refine call_of hA hM _ hO1 ?_; cbv)
      | (refine call_of hA hM _ hLR ?_; cbv)
      | (refine call_of hA hM _ hST ?_; cbv)
      | (refine call_of hA hM _ hTb ?_; cbv)
      | (refine call_of hA hM _ c_frOk ?_; cbv)
      | (exfalso; rename_i h; subst hA; simp [real] at h; done)
      | fail
    clear hDraw hF1 hO1 hTb hLR hLa hPu hST
    subst hA
    rw [hd0]; rfl
  | false =>
    repeat' first
      | apply And.intro
      | exact True.intro
      | with_reducible rfl
      | exact same_of hA rfl
      | refine br_of hA (fun _ => ?_) (fun _ => ?_)
      | exact imp_of hA id
      | (refine imp_of hA ?_; subst hA; simp only [real, Bool.true_and]; exact id)
      | (refine ind_of hA ?_; decide +kernel)
      | (refine call_of hA hM _ hDraw ?_; cbv)
      | (refine call_of hA hM _ hPu ?_; cbv)
      | (refine call_of hA hM _ hF1 ?_; cbv)
      | (refine call_of hA hM _ hO1 ?_; cbv)
      | (refine call_of hA hM _ hLa ?_; cbv)
      | (refine call_of hA hM _ c_frOk ?_; cbv)
      | (exfalso; rename_i h; subst hA; simp [real] at h; done)
      | fail
    refine loop_of hA (α := { i : Nat // i ≤ d }) (fun y => st_pu N g d Q y.1) (fun y => d - y.1) ⟨0, Nat.zero_le _⟩ ?_ ?_
    · refine cov_of ?_ ?_ ?_
      · (subst hA; (repeat' first | exact True.intro | exact rfl | apply And.intro))
      · (subst hA; (repeat' first | exact True.intro | exact rfl | apply And.intro | (intro _ _; first | rfl | trivial)))
      · (subst hA; (repeat' first | exact True.intro | exact rfl | apply And.intro | exact .inl rfl | exact .inr (le_of_nble rfl)))
    rintro ⟨i, hi⟩
    have hi : i ≤ d := hi
    have hWo : i < d → ∀ f : Nat → List DV, f 0 = eItm (Q i).itm → Meets Try.prog 31 [.c (.d (.sl 5 1 f)), .c (.d (.sl 5 N fun i => eItm (g i)))] ⟨.one (.c (.own 5 0 fun i => eItm endE)), [none, none]⟩ := fun h f hf => by
      obtain ⟨P9, K9⟩ := known_end hj hE0 hl59
      rw [← hLe] at K9
      have hin := late_in K9 (Q i) (lst_in hQ1 h)
      refine meets_args ?_ (args' := [.c (.d (.sl 5 1 fun _ => eItm (Q i).itm)), .c (.d (.sl 5 N fun i => eItm (g i)))]) ⟨le_own (fun k hk => by
        have h0 : k = 0 := by omega
        subst h0; exact hf), DLe.rfl, trivial⟩
      exact (c_SpcWithout [(Q i).itm] 1 (fun _ => (Q i).itm) (lst_one _ _) (by decide) L N g hLl (by omega) 0 (fun _ => endE) ⟨by rw [less_in hin]; rfl, fun k hk => absurd hk (Nat.not_lt_zero k)⟩)
    cbv
    repeat' first
      | apply And.intro
      | exact True.intro
      | with_reducible rfl
      | exact same_of hA rfl
      | refine br_of hA (fun _ => ?_) (fun _ => ?_)
      | exact imp_of hA id
      | (refine imp_of hA ?_; subst hA; simp only [real, Bool.true_and]; exact id)
      | (refine ind_of hA ?_; decide +kernel)
      | (refine call_of hA hM _ c_frOk ?_; cbv)
      | (refine call_of hA hM _ (hWo (by first | exact lt2_of hA (by assumption) | exact lt_of hA (by assumption)) _ (by subst hA; rfl)) ?_; cbv)
      | (subst hA; exact fun k hk => absurd hk (Nat.not_lt_zero k))
      | (exfalso; rename_i h; subst hA; simp [real] at h; done)
      | (refine inb_lt hA ?_; first | exact lt2_of hA (by assumption) | exact lt_of hA (by assumption))
      | fail
    rename_i hlt h
    have hlt' : i < d := by first | exact lt2_of hA hlt | exact lt_of hA hlt
    refine ⟨⟨i + 1, hlt'⟩, by simp only; omega, cov_of ?_ ?_ ?_⟩
    · (subst hA; (repeat' first | exact True.intro | exact rfl | exact congrArg (fun x => DV.v (.int .i64 x)) (up64 hlt' hdL) | apply And.intro))
    · (subst hA; (repeat' first | exact True.intro | exact rfl | apply And.intro | (intro _ _; first | rfl | trivial)))
    · (subst hA; (repeat' first | exact True.intro | exact rfl | apply And.intro | exact .inl rfl | exact .inr (le_of_nble rfl)))
end Go.Rk
