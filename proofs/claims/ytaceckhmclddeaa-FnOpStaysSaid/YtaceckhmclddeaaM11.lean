/- The walk over this seat's functions, part 11: what each of them answers, at all data. -/
import Derived.Test.YtaceckhmclddeaaM1
import Derived.Test.YtaceckhmclddeaaM2
import Derived.Test.YtaceckhmclddeaaM3
import Derived.Test.YtaceckhmclddeaaM4
import Derived.Test.YtaceckhmclddeaaM5
import Derived.Test.YtaceckhmclddeaaM6
import Derived.Test.YtaceckhmclddeaaM7
import Derived.Test.YtaceckhmclddeaaM8
import Derived.Test.YtaceckhmclddeaaM9
import Derived.Test.YtaceckhmclddeaaM10
import Derived.Test.YtaceckhmclddeaaRows
import Derived.WalkKit
import Derived.ProofKit
import Derived.OpenShut
import Derived.ShutString
import Derived.ChangeOld
import Derived.SizedLaws
import Derived.DataShut
/- Tables: find. -/
namespace Go.Rk
set_option linter.unusedSimpArgs false
set_option linter.unusedVariables false
open Go.Proofs
set_option maxRecDepth 100000
set_option maxHeartbeats 1000000
def stIxTab2 (n : Nat) (g : Nat → TabT) (F : FuncId) (c0 c1 : DV) (i : Nat) : St := ⟨[(8, .c (.d (eI i))), (7, .c (.d (eI n))), (0, .c (.d (.sl 7 n fun i => eTab (g i)))), (1, .c (.d (.fn F [c0, c1])))], []⟩
set_option maxRecDepth 100000 in
theorem c_IndexTab2 (n : Nat) (hn : n ≤ maxLen) (g : Nat → TabT) (F : FuncId) (c0 c1 : DV) (Q : TabT → Prop) (hc : ∀ r, ∃ b, (b = true ↔ Q r) ∧ Meets Try.prog F [xd (eTab r), .c (.d c0), .c (.d c1)] ⟨.one (.c (.d (eB b))), [none, none, none]⟩) : ∃ x, FirstIx n (fun i => Q (g i)) x ∧ Meets Try.prog 111 [.c (.d (.sl 7 n fun i => eTab (g i))), .c (.d (.fn F [c0, c1]))] ⟨.one (.c (.d (eI x))), [none, none]⟩ := by
  obtain ⟨x, hx⟩ := firstIx_ex n fun i => Q (g i)
  refine ⟨x, hx, ?_⟩
  refine meets_of (H := []) (EX := EXA) ttok mixed Try.func111 rfl (by kernel_rfl) (by decide) ?_
  generalize hA : real = A
  generalize hM : MeetsB Try.prog = M
  cbv
  repeat' first
    | apply And.intro
    | exact True.intro
    | with_reducible rfl
    | exact same_of hA rfl
    | refine br_of hA (fun _ => ?_) (fun _ => ?_)
    | exact imp_of hA id
    | (refine imp_of hA ?_; subst hA; simp only [real, Bool.true_and]; exact id)
    | (refine ind_of hA ?_; decide +kernel)
  refine loop_of hA (α := { i : Nat // i ≤ n ∧ ∀ j, j < i → ¬ Q (g j) }) (fun x => stIxTab2 n g F c0 c1 x.1) (fun x => n - x.1) ⟨0, Nat.zero_le _, fun j h => absurd h (Nat.not_lt_zero _)⟩ ?_ ?_
  · refine cov_of ?_ ?_ ?_
    · cbv; subst hA; exact ⟨rfl, rfl, trivial⟩
    · cbv
    · cbv
  rintro ⟨i, hi, hb⟩
  cbv
  repeat' first
    | apply And.intro
    | exact True.intro
    | with_reducible rfl
    | exact same_of hA rfl
    | refine br_of hA (fun _ => ?_) (fun _ => ?_)
    | exact imp_of hA id
    | (refine imp_of hA ?_; subst hA; simp only [real, Bool.true_and]; exact id)
    | (refine ind_of hA ?_; decide +kernel)
    | (refine inb_of hA fun _ => ?_; subst hA; simp only [real, decide_eq_true_eq, Int.ofNat_eq_natCast] at *; omega)
  · refine call_ex hA hM (hc (g (A.nat (Int.ofNat i)))) (fun b hbb => ?_)
    cbv
    repeat' first
      | apply And.intro
      | exact True.intro
      | with_reducible rfl
      | exact same_of hA rfl
      | refine br_of hA (fun _ => ?_) (fun _ => ?_)
      | exact imp_of hA id
      | (refine imp_of hA ?_; subst hA; simp only [real, Bool.true_and]; exact id)
      | (refine ind_of hA ?_; decide +kernel)
    · rename_i hlt ht
      subst hA
      simp only [real, decide_eq_true_eq, Int.ofNat_eq_natCast, Int.toNat_natCast] at *
      obtain rfl := firstIx_one hx (.at i (by omega) (hbb.1 ht) hb)
      rfl
    · rename_i hlt ht
      have hlt' : i < n := by subst hA; simp only [real, decide_eq_true_eq, Int.ofNat_eq_natCast] at hlt; omega
      refine ⟨⟨i + 1, by omega, fun j hj => ?_⟩, by simp only; omega, cov_of ?_ ?_ ?_⟩
      · by_cases e : j = i
        · subst e
          subst hA
          intro hq
          have := hbb.2 hq
          rw [ht] at this
          cases this
        · exact hb j (by omega)
      · cbv
        subst hA
        exact ⟨congrArg (fun x => DV.v (.int .i64 x)) (up64 hlt' hn), trivial⟩
      · cbv
      · cbv
  · subst hA
    simp only [real, decide_eq_false_iff_not, Int.ofNat_eq_natCast] at *
    obtain rfl := firstIx_one hx (.none fun j hj => hb j (by omega))
    rfl
open Classical in
set_option maxRecDepth 100000 in
theorem c_Find1 (r : TabT) (key : Int) (w : WinT) : ∃ b, (b = true ↔ IsRow key w r) ∧ Meets Try.prog 112 [xd (eTab r), .c (.d (.p [eI key])), .c (.d (.p (eWin w)))] ⟨.one (.c (.d (eB b))), [none, none, none]⟩ := by
  obtain ⟨b, hb⟩ : ∃ b, b = decide (IsRow key w r) := ⟨_, rfl⟩
  refine ⟨b, by rw [hb, decide_eq_true_eq], ?_⟩
  refine meets_of (H := []) (EX := EXA) ttok mixed Try.func112 rfl (by kernel_rfl) (by decide) ?_
  generalize hA : real = A
  generalize hM : MeetsB Try.prog = M
  cbv
  repeat' first
    | apply And.intro
    | exact True.intro
    | with_reducible rfl
    | exact same_of hA rfl
    | refine br_of hA (fun _ => ?_) (fun _ => ?_)
    | exact imp_of hA id
    | (refine imp_of hA ?_; subst hA; simp only [real, Bool.true_and]; exact id)
    | (refine ind_of hA ?_; decide +kernel)
    | (refine call_ex hA hM (c_of _ _ _) (fun _ _ => ?_); cbv)
  all_goals obtain ⟨k, ⟨s, e⟩, ag⟩ := r; obtain ⟨s2, e2⟩ := w
  all_goals subst hA
  all_goals refine congrArg (fun b => XA.one (.c (.d (eB b)))) (Bool.eq_iff_iff.2 ?_)
  all_goals subst_vars
  all_goals simp only [real, bifA, bifB, bifC, bifD, beqB, decide_eq_true_eq, decide_eq_false_iff_not, beqI, bneI, beqIF, bneIF, ne_eq, Bool.and_eq_true, Bool.or_eq_true, Bool.not_eq_true', Bool.not_eq_false', Bool.and_eq_false_iff, Bool.or_eq_false_iff, Bool.false_eq_true, and_false, false_and, or_false, false_or, and_true, true_and, not_true_eq_false, not_false_eq_true, true_iff, false_iff, IntKind.wrap_i64, IsRow, WinOkP, AggOkP] at *
  all_goals first | omega | exact (@decide_eq_true_iff _ _).symm | (refine Iff.trans ?_ (@decide_eq_true_iff _ _).symm; omega)
theorem c_Find (l : List TabT) (n : Nat) (g : Nat → TabT) (hl : Lst zTab l n g) (hn : n ≤ 1100000) (key : Int) (w : WinT) (a : AggT) (ha : a = (tFind key w l).getD zAgg) (b : Bool) (hb : b = (tFind key w l).isSome) : Meets Try.prog 58 [.c (.d (.sl 7 n fun i => eTab (g i))), .c (.d (eI key)), xd (eWin w)] ⟨.tup [xd (eAgg a), .c (.d (eB b))], [none, none, none]⟩ := by
  have hnL : n ≤ maxLen := Nat.le_trans hn (by decide)
  obtain ⟨x, hx, hX⟩ := c_IndexTab2 n hnL g 112 (.p [eI key]) (.p (eWin w)) (IsRow key w) (fun r => c_Find1 r key w)
  have hxx := firstIx_neg hx
  have hcs : (0 ≤ x → x < (n : Int) ∧ some (g x.toNat).agg = tFind key w l) ∧ (¬ 0 ≤ x → tFind key w l = none) := by
    refine ⟨fun h => ?_, fun h => tFind_none hl fun k hk hq => h (hxx.1.2 ⟨k, hk, hq⟩)⟩
    obtain ⟨q, hq1, hq2, hq3, hq4⟩ := hxx.2.1 h
    rw [hq2]
    exact ⟨Int.ofNat_lt.2 hq1, (tFind_first hl hq1 hq3 hq4).symm⟩
  refine meets_of (H := []) (EX := EXA) ttok mixed Try.func58 rfl (by kernel_rfl) (by decide) ?_
  generalize hA : real = A
  generalize hM : MeetsB Try.prog = M
  cbv
  repeat' first
    | apply And.intro
    | exact True.intro
    | with_reducible rfl
    | exact same_of hA rfl
    | refine br_of hA (fun _ => ?_) (fun _ => ?_)
    | exact imp_of hA id
    | (refine imp_of hA ?_; subst hA; simp only [real, Bool.true_and]; exact id)
    | (refine ind_of hA ?_; decide +kernel)
    | (refine call_of hA hM _ hX ?_; cbv)
    | (rename_i hneg; refine inb_of hA fun _ => ?_; subst hA; have h2 := Int.not_lt.1 (of_decide_eq_false (show decide (x < 0) = false from hneg)); exact ⟨h2, (hcs.1 h2).1⟩)
  · rename_i hneg
    subst hA
    have e := hcs.2 (Int.not_le.2 (of_decide_eq_true (show decide (x < 0) = true from hneg)))
    rw [e] at ha hb; subst ha; subst hb; rfl
  · rename_i hneg
    subst hA
    have e := (hcs.1 (Int.not_lt.1 (of_decide_eq_false (show decide (x < 0) = false from hneg)))).2
    rw [← e] at ha hb; subst ha; subst hb; rfl
end Go.Rk
/- Tables: of. -/
namespace Go.Rk
set_option linter.unusedSimpArgs false
set_option linter.unusedVariables false
open Go.Proofs
set_option maxRecDepth 100000
set_option maxHeartbeats 1000000
def st_Of (n : Nat) (g : Nat → PaneT) (piece : Bool) (i c : Nat) (G : Nat → TabT) : St := ⟨[(13, .c (.d (eI i))), (12, .c (.d (eI n))), (11, .c (.d (.sl 9 n fun i => ePane (g i)))), (5, .c (.own 320 0 c 1)), (1, .c (.d (eB piece)))], [(320, 1, .arr 7 c fun k => eTab (G k))]⟩
theorem c_Of (l : List PaneT) (n : Nat) (g : Nat → PaneT) (hl : Lst zPane l n g) (hn : n ≤ 1080000) (piece : Bool) (n0 : Nat) (G0 : Nat → TabT) (h0 : Lst zTab (ofL piece l) n0 G0) : Meets Try.prog 19 [.c (.d (.sl 9 n fun i => ePane (g i))), .c (.d (eB piece))] ⟨.one (.c (.own 7 n0 fun i => eTab (G0 i))), [none, none]⟩ := by
  have hnL : n ≤ maxLen := Nat.le_trans hn (by decide)
  refine meets_of (H := [13]) (EX := EXA) ttok mixed Try.func19 rfl (by kernel_rfl) (by decide) ?_
  generalize hA : real = A
  generalize hM : MeetsB Try.prog = M
  cbv
  repeat' first
    | apply And.intro
    | exact True.intro
    | with_reducible rfl
    | exact same_of hA rfl
    | refine br_of hA (fun _ => ?_) (fun _ => ?_)
    | exact imp_of hA id
    | (refine imp_of hA ?_; subst hA; simp only [real, Bool.true_and]; exact id)
    | (refine ind_of hA ?_; decide +kernel)
  refine loop_of hA (α := { q : Nat × Nat × (Nat → TabT) // q.1 ≤ n ∧ Lst zTab (ofL piece (l.take q.1)) q.2.1 q.2.2 }) (fun y => st_Of n g piece y.1.1 y.1.2.1 y.1.2.2) (fun y => n - y.1.1) ⟨(0, 0, fun _ => zTab), Nat.zero_le _, rfl, fun k h => absurd h (Nat.not_lt_zero k)⟩ ?_ ?_
  · refine cov_prom 5 320 1 7 (fun _ => []) rfl rfl (cov_of ?_ ?_ ?_)
    · cbv; try (subst hA; repeat' first | apply And.intro | exact True.intro | rfl | fail)
    · cbv; try (subst hA; repeat' first | apply And.intro | exact True.intro | rfl | (intro _ _; rfl) | (intro k hk; exact absurd hk (Nat.not_lt_zero k)) | fail)
    · cbv; try (subst hA; repeat' first | apply And.intro | exact True.intro | rfl | exact .inr trivial | exact .inl trivial)
  rintro ⟨⟨i, c, G⟩, hi, hT⟩
  have hi : i ≤ n := hi
  obtain ⟨T, hTe⟩ : ∃ T, T = ofL piece (l.take i) := ⟨_, rfl⟩
  have hT : Lst zTab T c G := by rw [hTe]; exact hT
  have hci : c ≤ i := by
    rw [hT.1, hTe]
    have h1 := ofL_len piece (l.take i)
    rw [List.length_take] at h1
    omega
  obtain ⟨no, Go, hO⟩ := lst_ex zTab (tOut (g i).key (g i).win T)
  obtain ⟨np, Gp, hP⟩ := lst_ex zTab (tPut ⟨(g i).key, (g i).win, ofAgg piece T (g i)⟩ T)
  obtain ⟨a, ha⟩ : ∃ a, a = (tFind (g i).key (g i).win T).getD zAgg := ⟨_, rfl⟩
  obtain ⟨b, hb⟩ : ∃ b, b = (tFind (g i).key (g i).win T).isSome := ⟨_, rfl⟩
  obtain ⟨ag, hag⟩ : ∃ x, x = aggB a (g i).agg := ⟨_, rfl⟩
  have cO := c_Out T c G hT (by omega) (g i).key (g i).win no Go hO
  have cF := c_Find T c G hT (by omega) (g i).key (g i).win a ha b hb
  have cB := c_AggBoth a (g i).agg ag hag
  have cP := c_Put T c G hT (by omega) _ np Gp hP
  have hnext : i < n → ∀ m H, Lst zTab (ofStep piece T (g i)) m H → i + 1 ≤ n ∧ Lst zTab (ofL piece (l.take (i + 1))) m H := fun h m H hH => ⟨h, by rw [lst_take hl h, ofL_snoc, ← hTe]; exact hH⟩
  cbv
  repeat' first
    | apply And.intro
    | exact True.intro
    | with_reducible rfl
    | exact same_of hA rfl
    | refine br_of hA (fun _ => ?_) (fun _ => ?_)
    | exact imp_of hA id
    | (refine imp_of hA ?_; subst hA; simp only [real, Bool.true_and]; exact id)
    | (refine ind_of hA ?_; decide +kernel)
    | (refine inb_lt hA ?_; first | exact lt2_of hA (by assumption) | exact lt_of hA (by assumption))
    | exact flat_tab hA _ _
    | (refine call_of2 hA hM _ cO (by (subst hA; first | rfl | (simp only [sub0r]; try rfl))) ?_; cbv)
    | (refine call_of2 hA hM _ cF (by (subst hA; first | rfl | (simp only [sub0r]; try rfl))) ?_; cbv)
    | (refine call_of2 hA hM _ cB (by (subst hA; first | rfl | (simp only [sub0r]; try rfl))) ?_; cbv)
  · rename_i hlt hk
    have hlt' : i < n := by first | exact lt2_of hA hlt | exact lt_of hA hlt
    have hk : (g i).kind = 3 := by subst hA; exact of_decide_eq_true hk
    refine ⟨⟨(i + 1, no, Go), hnext hlt' _ _ ?_⟩, by simp only; omega, cov_rel 320 2 (k := 5) (l := 1600) (sz := 7) rfl rfl rfl rfl (cov_of ?_ ?_ ?_)⟩
    · unfold ofStep; rw [if_pos hk]; exact hO
    · cbv; subst hA; repeat' first | apply And.intro | exact True.intro | exact congrArg (fun x => DV.v (.int .i64 x)) (up64 hlt' hnL) | rfl
    · cbv; try (subst hA; repeat' first | apply And.intro | exact True.intro | rfl | (intro _ _; rfl))
    · cbv; try (subst hA; repeat' first | apply And.intro | exact True.intro | rfl | exact .inr trivial | exact .inl trivial)
  · rename_i hlt hk hp
    have hlt' : i < n := by first | exact lt2_of hA hlt | exact lt_of hA hlt
    have hk : ¬ (g i).kind = 3 := by subst hA; exact of_decide_eq_false hk
    have hx : ofAgg piece T (g i) = ag := by
      have hp2 : b = true ∧ piece = true := by subst hA; simpa [real] using hp
      unfold ofAgg; rw [if_pos hp2.2, hag, ha]
    rw [hx] at cP hP
    refine call_of2 hA hM _ cP (by (subst hA; first | rfl | (simp only [sub0r]; try rfl))) ?_
    cbv
    repeat' first
      | apply And.intro
      | exact True.intro
      | with_reducible rfl
      | exact same_of hA rfl
      | refine br_of hA (fun _ => ?_) (fun _ => ?_)
      | exact imp_of hA id
      | (refine imp_of hA ?_; subst hA; simp only [real, Bool.true_and]; exact id)
      | (refine ind_of hA ?_; decide +kernel)
      | exact flat_tab hA _ _
    refine ⟨⟨(i + 1, np, Gp), hnext hlt' _ _ ?_⟩, by simp only; omega, cov_rel 320 2 (k := 5) (l := 3264) (sz := 7) rfl rfl rfl rfl (cov_of ?_ ?_ ?_)⟩
    · unfold ofStep; rw [if_neg hk, hx]; exact hP
    · cbv; subst hA; repeat' first | apply And.intro | exact True.intro | exact congrArg (fun x => DV.v (.int .i64 x)) (up64 hlt' hnL) | rfl
    · cbv; try (subst hA; repeat' first | apply And.intro | exact True.intro | rfl | (intro _ _; rfl))
    · cbv; try (subst hA; repeat' first | apply And.intro | exact True.intro | rfl | exact .inr trivial | exact .inl trivial)
  · rename_i hlt hk hp
    have hlt' : i < n := by first | exact lt2_of hA hlt | exact lt_of hA hlt
    have hk : ¬ (g i).kind = 3 := by subst hA; exact of_decide_eq_false hk
    have hx : ofAgg piece T (g i) = (g i).agg := by
      have hp2 : b = true → piece = false := by subst hA; simpa [real] using hp
      unfold ofAgg
      by_cases hq : piece = true
      · have hb2 : b = false := by
          cases b with
          | false => rfl
          | true => rw [hp2 rfl] at hq; cases hq
        rw [if_pos hq]
        have hn : tFind (g i).key (g i).win T = none := by
          cases hf : tFind (g i).key (g i).win T with
          | none => rfl
          | some x => rw [hf] at hb; rw [hb2] at hb; cases hb
        rw [hn]; rfl
      · rw [if_neg hq]
    rw [hx] at cP hP
    refine call_of2 hA hM _ cP (by (subst hA; first | rfl | (simp only [sub0r]; try rfl))) ?_
    cbv
    repeat' first
      | apply And.intro
      | exact True.intro
      | with_reducible rfl
      | exact same_of hA rfl
      | refine br_of hA (fun _ => ?_) (fun _ => ?_)
      | exact imp_of hA id
      | (refine imp_of hA ?_; subst hA; simp only [real, Bool.true_and]; exact id)
      | (refine ind_of hA ?_; decide +kernel)
      | exact flat_tab hA _ _
    refine ⟨⟨(i + 1, np, Gp), hnext hlt' _ _ ?_⟩, by simp only; omega, cov_rel 320 2 (k := 5) (l := 3264) (sz := 7) rfl rfl rfl rfl (cov_of ?_ ?_ ?_)⟩
    · unfold ofStep; rw [if_neg hk, hx]; exact hP
    · cbv; subst hA; repeat' first | apply And.intro | exact True.intro | exact congrArg (fun x => DV.v (.int .i64 x)) (up64 hlt' hnL) | rfl
    · cbv; try (subst hA; repeat' first | apply And.intro | exact True.intro | rfl | (intro _ _; rfl))
    · cbv; try (subst hA; repeat' first | apply And.intro | exact True.intro | rfl | exact .inr trivial | exact .inl trivial)
  · rename_i hge
    have hin : i = n := by first | (have := ge2_of hA hge; omega) | (have := ge_of hA hge; omega)
    subst hin
    rw [lst_all hl] at hTe
    rw [hTe] at hT
    have hcc : c = n0 := hT.1.trans h0.1.symm
    subst hcc
    refine stop_of hA ⟨[(5, .c (.own 320 0 c 1))], [(320, 1, .arr 7 c fun i => eTab (G0 i))]⟩ (cov_of ?_ ?_ ?_) ?_
    · cbv
    · cbv
      exact ⟨fun q hq => congrArg eTab ((hT.2 q hq).trans (h0.2 q hq).symm), trivial⟩
    · cbv
    · cbv
      repeat' first
        | apply And.intro
        | exact True.intro
        | with_reducible rfl
        | exact same_of hA rfl
        | refine br_of hA (fun _ => ?_) (fun _ => ?_)
        | exact imp_of hA id
        | (refine imp_of hA ?_; subst hA; simp only [real, Bool.true_and]; exact id)
        | (refine ind_of hA ?_; decide +kernel)
end Go.Rk
/- Tables: small. -/
namespace Go.Rk
set_option linter.unusedSimpArgs false
set_option linter.unusedVariables false
open Go.Proofs
set_option maxRecDepth 100000
set_option maxHeartbeats 1000000
def st_frTab (n : Nat) (g : Nat → TabT) (i : Nat) : St := ⟨[(5, .c (.d (eI i))), (0, .c (.d (.sl 7 n fun i => eTab (g i)))), (1, .c (.d (.sl 7 n fun i => eTab (g i))))], []⟩
theorem c_frTab (n : Nat) (hn : n ≤ maxLen) (g : Nat → TabT) : Meets Try.prog 18 [.c (.d (.sl 7 n fun i => eTab (g i))), .c (.d (.sl 7 n fun i => eTab (g i)))] ⟨.one (.c (.d (eB true))), [none, none]⟩ := by
  refine meets_of (H := []) (EX := EXA) ttok mixed Try.func18 rfl (by kernel_rfl) (by decide) ?_
  generalize hA : real = A
  generalize hM : MeetsB Try.prog = M
  cbv
  repeat' first
    | (refine br_f hA ?_ ?_; focus (subst hA; simp [real]; done))
    | apply And.intro
    | exact True.intro
    | with_reducible rfl
    | exact same_of hA rfl
    | refine br_of hA (fun _ => ?_) (fun _ => ?_)
    | exact imp_of hA id
    | (refine imp_of hA ?_; subst hA; simp only [real, Bool.true_and]; exact id)
    | (refine ind_of hA ?_; decide +kernel)
  refine loop_of hA (α := { i : Nat // i ≤ n }) (fun x => st_frTab n g x.1) (fun x => n - x.1) ⟨0, Nat.zero_le _⟩ ?_ ?_
  · refine cov_of ?_ ?_ ?_
    · cbv; try (subst hA; repeat' first | apply And.intro | exact True.intro | rfl)
    · cbv; try (subst hA; repeat' first | apply And.intro | exact True.intro | rfl)
    · cbv
  rintro ⟨i, hi⟩
  cbv
  repeat' first
    | (refine br_f hA ?_ ?_; focus (subst hA; simp [real]; done))
    | apply And.intro
    | exact True.intro
    | with_reducible rfl
    | exact same_of hA rfl
    | refine br_of hA (fun _ => ?_) (fun _ => ?_)
    | exact imp_of hA id
    | (refine imp_of hA ?_; subst hA; simp only [real, Bool.true_and]; exact id)
    | (refine ind_of hA ?_; decide +kernel)
    | (refine inb_of hA fun _ => ?_; subst hA; simp only [real, Bool.and_eq_true, Bool.not_eq_true', Bool.not_eq_false', decide_eq_true_eq, Int.ofNat_eq_natCast, IntKind.wrap_i64] at *; omega)
  rename_i hlt
  have hlt' : i < n := by subst hA; simp only [real, decide_eq_true_eq, Int.ofNat_eq_natCast] at hlt; omega
  refine ⟨⟨i + 1, by omega⟩, by simp only; omega, cov_of ?_ ?_ ?_⟩
  · cbv
    subst hA
    repeat' first | apply And.intro | exact True.intro | exact congrArg (fun x => DV.v (.int .i64 x)) (up64 hlt' hn) | rfl | (intro k hk; exact push_at rfl _ _ _ _ k hk)
  · cbv; try (subst hA; repeat' first | apply And.intro | exact True.intro | rfl)
  · cbv
def st_tc (n : Nat) (g : Nat → TabT) (i : Nat) (s : Int) : St := ⟨[(8, .c (.d (eI i))), (7, .c (.d (eI n))), (6, .c (.d (.sl 7 n fun i => eTab (g i)))), (3, .c (.d (eI s)))], []⟩
theorem c_TabCount (T : List TabT) (n : Nat) (g : Nat → TabT) (hT : Lst zTab T n g) (hn : n ≤ 1080000) (hs : ∀ i, i ≤ n → -1000000000 ≤ tCnt (T.take i) ∧ tCnt (T.take i) ≤ 1000000000) (c : Int) (hc : c = tCnt T) : Meets Try.prog 35 [.c (.d (.sl 7 n fun i => eTab (g i)))] ⟨.one (.c (.d (eI c))), [none]⟩ := by
  have hnL : n ≤ maxLen := Nat.le_trans hn (by decide)
  refine meets_of (H := []) (EX := EXA) ttok mixed Try.func35 rfl (by kernel_rfl) (by decide) ?_
  generalize hA : real = A
  generalize hM : MeetsB Try.prog = M
  cbv
  repeat' first
    | apply And.intro
    | exact True.intro
    | with_reducible rfl
    | exact same_of hA rfl
    | refine br_of hA (fun _ => ?_) (fun _ => ?_)
    | exact imp_of hA id
    | (refine imp_of hA ?_; subst hA; simp only [real, Bool.true_and]; exact id)
    | (refine ind_of hA ?_; decide +kernel)
  refine loop_of hA (α := { q : Nat × Int // q.1 ≤ n ∧ q.2 = tCnt (T.take q.1) }) (fun y => st_tc n g y.1.1 y.1.2) (fun y => n - y.1.1) ⟨(0, 0), Nat.zero_le _, rfl⟩ ?_ ?_
  · refine cov_of ?_ ?_ ?_
    · cbv; try (subst hA; repeat' first | apply And.intro | exact True.intro | rfl | fail)
    · cbv; try (subst hA; repeat' first | apply And.intro | exact True.intro | rfl | (intro _ _; rfl) | (intro k hk; exact absurd hk (Nat.not_lt_zero k)) | fail)
    · cbv; try (subst hA; repeat' first | apply And.intro | exact True.intro | rfl | exact .inr trivial | exact .inl trivial)
  rintro ⟨⟨i, s⟩, hi, hsm⟩
  have hi : i ≤ n := hi
  have hsm : s = tCnt (T.take i) := hsm
  obtain ⟨s', hs'⟩ : ∃ z : Int, z = s + (g i).agg.n := ⟨_, rfl⟩
  have hstep : i < n → s' = tCnt (T.take (i + 1)) := fun h => by
    rw [lst_take hT h, tCnt_app, ← hsm, hs']
    simp [tCnt]
  cbv
  repeat' first
    | apply And.intro
    | exact True.intro
    | with_reducible rfl
    | exact same_of hA rfl
    | refine br_of hA (fun _ => ?_) (fun _ => ?_)
    | exact imp_of hA id
    | (refine imp_of hA ?_; subst hA; simp only [real, Bool.true_and]; exact id)
    | (refine ind_of hA ?_; decide +kernel)
    | (refine inb_lt hA ?_; first | exact lt2_of hA (by assumption) | exact lt_of hA (by assumption))
  · rename_i hlt
    have hlt' : i < n := by first | exact lt2_of hA hlt | exact lt_of hA hlt
    refine ⟨⟨(i + 1, s'), hlt', hstep hlt'⟩, by simp only; omega, cov_of ?_ ?_ ?_⟩
    · cbv; subst hA
      have hw : IntKind.i64.wrap (s + (g i).agg.n) = s' := by
        rw [← hs', IntWalk.i64_in]
        have := hs (i + 1) hlt'
        rw [← hstep hlt'] at this
        omega
      repeat' first | apply And.intro | exact True.intro | exact congrArg (fun x => DV.v (.int .i64 x)) hw | exact congrArg (fun x => DV.v (.int .i64 x)) (up64 hlt' hnL) | rfl
    · cbv; try (subst hA; repeat' first | apply And.intro | exact True.intro | rfl)
    · cbv; try (subst hA; repeat' first | apply And.intro | exact True.intro | rfl | exact .inr trivial)
  · rename_i hge
    have hin : i = n := by first | (have := ge2_of hA hge; omega) | (have := ge_of hA hge; omega)
    subst hin
    rw [lst_all hT, ← hc] at hsm
    subst hsm
    rfl
end Go.Rk
/- Tables: pan. -/
namespace Go.Rk
set_option linter.unusedSimpArgs false
set_option linter.unusedVariables false
open Go.Proofs
set_option maxRecDepth 100000
set_option maxHeartbeats 1000000
open Classical in
set_option maxRecDepth 100000 in
theorem c_PanOk (p : PaneT) : ∃ b, (b = true ↔ PaneOkP p) ∧ Meets Try.prog 52 [xd (ePane p)] ⟨.one (.c (.d (eB b))), [none]⟩ := by
  obtain ⟨b, hb⟩ : ∃ b, b = decide (PaneOkP p) := ⟨_, rfl⟩
  refine ⟨b, by rw [hb, decide_eq_true_eq], ?_⟩
  refine meets_of (H := []) (EX := EXA) ttok mixed Try.func52 rfl (by kernel_rfl) (by decide) ?_
  generalize hA : real = A
  generalize hM : MeetsB Try.prog = M
  cbv
  repeat' first
    | apply And.intro
    | exact True.intro
    | with_reducible rfl
    | exact same_of hA rfl
    | refine br_of hA (fun _ => ?_) (fun _ => ?_)
    | exact imp_of hA id
    | (refine imp_of hA ?_; subst hA; simp only [real, Bool.true_and]; exact id)
    | (refine ind_of hA ?_; decide +kernel)
    | (refine call_ex hA hM (c_in _ _ _) (fun _ _ => ?_); cbv)
    | (refine call_ex hA hM (c_isKey _) (fun _ _ => ?_); cbv)
    | (refine call_ex hA hM (c_WinOk _ _) (fun _ _ => ?_); cbv)
    | (refine call_ex hA hM (c_AggOk _ _ _ _) (fun _ _ => ?_); cbv)
    | (refine call_ex hA hM (c_isRec _) (fun _ _ => ?_); cbv)
  all_goals obtain ⟨key, ⟨s, e⟩, no, kind, ⟨n, sum, least, most⟩⟩ := p
  all_goals subst hA
  all_goals refine congrArg (fun b => XA.one (.c (.d (eB b)))) (Bool.eq_iff_iff.2 ?_)
  all_goals subst_vars
  all_goals simp only [real, bifA, bifB, bifC, bifD, beqB, decide_eq_true_eq, decide_eq_false_iff_not, beqI, bneI, beqIF, bneIF, ne_eq, Bool.and_eq_true, Bool.or_eq_true, Bool.not_eq_true', Bool.not_eq_false', Bool.and_eq_false_iff, Bool.or_eq_false_iff, Bool.false_eq_true, and_false, false_and, or_false, false_or, and_true, true_and, not_true_eq_false, not_false_eq_true, true_iff, false_iff, IntKind.wrap_i64, PaneOkP, WinOkP, AggOkP] at *
  all_goals omega
open Classical in
set_option maxRecDepth 100000 in
theorem c_LatOk (l : LatT) : ∃ b, (b = true ↔ LatOkP l) ∧ Meets Try.prog 152 [xd (eLat l)] ⟨.one (.c (.d (eB b))), [none]⟩ := by
  obtain ⟨b, hb⟩ : ∃ b, b = decide (LatOkP l) := ⟨_, rfl⟩
  refine ⟨b, by rw [hb, decide_eq_true_eq], ?_⟩
  refine meets_of (H := []) (EX := EXA) ttok mixed Try.func152 rfl (by kernel_rfl) (by decide) ?_
  generalize hA : real = A
  generalize hM : MeetsB Try.prog = M
  cbv
  repeat' first
    | apply And.intro
    | exact True.intro
    | with_reducible rfl
    | exact same_of hA rfl
    | refine br_of hA (fun _ => ?_) (fun _ => ?_)
    | exact imp_of hA id
    | (refine imp_of hA ?_; subst hA; simp only [real, Bool.true_and]; exact id)
    | (refine ind_of hA ?_; decide +kernel)
    | (refine call_ex hA hM (c_isRec _ _ _ _ _) (fun _ _ => ?_); cbv)
    | (refine call_ex hA hM (c_WinOk _ _) (fun _ _ => ?_); cbv)
    | (refine call_ex hA hM (c_in _ _ _) (fun _ _ => ?_); cbv)
  all_goals obtain ⟨⟨kind, t, key, v, n⟩, ⟨s, e⟩⟩ := l
  all_goals subst hA
  all_goals refine congrArg (fun b => XA.one (.c (.d (eB b)))) (Bool.eq_iff_iff.2 ?_)
  all_goals subst_vars
  all_goals simp only [real, bifA, bifB, bifC, bifD, beqB, decide_eq_true_eq, decide_eq_false_iff_not, beqI, bneI, beqIF, bneIF, ne_eq, Bool.and_eq_true, Bool.or_eq_true, Bool.not_eq_true', Bool.not_eq_false', Bool.and_eq_false_iff, Bool.or_eq_false_iff, Bool.false_eq_true, and_false, false_and, or_false, false_or, and_true, true_and, not_true_eq_false, not_false_eq_true, true_iff, false_iff, IntKind.wrap_i64, LatOkP, ItmOkP, WinOkP, AggOkP] at *
  all_goals omega
end Go.Rk
/- Draws: comparisons. -/
namespace Go.Rk
set_option linter.unusedSimpArgs false
set_option linter.unusedVariables false
open Go.Proofs
set_option maxRecDepth 100000
set_option maxHeartbeats 1000000
def st_frPanes (n : Nat) (g : Nat → PaneT) (i : Nat) : St := ⟨[(5, .c (.d (eI i))), (0, .c (.d (.sl 9 n fun i => ePane (g i)))), (1, .c (.d (.sl 9 n fun i => ePane (g i))))], []⟩
theorem c_frPanes (n : Nat) (hn : n ≤ maxLen) (g : Nat → PaneT) : Meets Try.prog 25 [.c (.d (.sl 9 n fun i => ePane (g i))), .c (.d (.sl 9 n fun i => ePane (g i)))] ⟨.one (.c (.d (eB true))), [none, none]⟩ := by
  refine meets_of (H := []) (EX := EXA) ttok mixed Try.func25 rfl (by kernel_rfl) (by decide) ?_
  generalize hA : real = A
  generalize hM : MeetsB Try.prog = M
  cbv
  repeat' first
    | (refine br_f hA ?_ ?_; focus (subst hA; simp [real]; done))
    | apply And.intro
    | exact True.intro
    | with_reducible rfl
    | exact same_of hA rfl
    | refine br_of hA (fun _ => ?_) (fun _ => ?_)
    | exact imp_of hA id
    | (refine imp_of hA ?_; subst hA; simp only [real, Bool.true_and]; exact id)
    | (refine ind_of hA ?_; decide +kernel)
  refine loop_of hA (α := { i : Nat // i ≤ n }) (fun x => st_frPanes n g x.1) (fun x => n - x.1) ⟨0, Nat.zero_le _⟩ ?_ ?_
  · refine cov_of ?_ ?_ ?_
    · cbv; try (subst hA; repeat' first | apply And.intro | exact True.intro | rfl)
    · cbv; try (subst hA; repeat' first | apply And.intro | exact True.intro | rfl)
    · cbv
  rintro ⟨i, hi⟩
  cbv
  repeat' first
    | (refine br_f hA ?_ ?_; focus (subst hA; simp [real]; done))
    | apply And.intro
    | exact True.intro
    | with_reducible rfl
    | exact same_of hA rfl
    | refine br_of hA (fun _ => ?_) (fun _ => ?_)
    | exact imp_of hA id
    | (refine imp_of hA ?_; subst hA; simp only [real, Bool.true_and]; exact id)
    | (refine ind_of hA ?_; decide +kernel)
    | (refine inb_of hA fun _ => ?_; subst hA; simp only [real, Bool.and_eq_true, Bool.not_eq_true', Bool.not_eq_false', decide_eq_true_eq, Int.ofNat_eq_natCast, IntKind.wrap_i64] at *; omega)
  rename_i hlt
  have hlt' : i < n := by subst hA; simp only [real, decide_eq_true_eq, Int.ofNat_eq_natCast] at hlt; omega
  refine ⟨⟨i + 1, by omega⟩, by simp only; omega, cov_of ?_ ?_ ?_⟩
  · cbv
    subst hA
    repeat' first | apply And.intro | exact True.intro | exact congrArg (fun x => DV.v (.int .i64 x)) (up64 hlt' hn) | rfl | (intro k hk; exact push_at rfl _ _ _ _ k hk)
  · cbv; try (subst hA; repeat' first | apply And.intro | exact True.intro | rfl)
  · cbv
def st_frLates (n : Nat) (g : Nat → LatT) (i : Nat) : St := ⟨[(5, .c (.d (eI i))), (0, .c (.d (.sl 7 n fun i => eLat (g i)))), (1, .c (.d (.sl 7 n fun i => eLat (g i))))], []⟩
theorem c_frLates (n : Nat) (hn : n ≤ maxLen) (g : Nat → LatT) : Meets Try.prog 17 [.c (.d (.sl 7 n fun i => eLat (g i))), .c (.d (.sl 7 n fun i => eLat (g i)))] ⟨.one (.c (.d (eB true))), [none, none]⟩ := by
  refine meets_of (H := []) (EX := EXA) ttok mixed Try.func17 rfl (by kernel_rfl) (by decide) ?_
  generalize hA : real = A
  generalize hM : MeetsB Try.prog = M
  cbv
  repeat' first
    | (refine br_f hA ?_ ?_; focus (subst hA; simp [real]; done))
    | apply And.intro
    | exact True.intro
    | with_reducible rfl
    | exact same_of hA rfl
    | refine br_of hA (fun _ => ?_) (fun _ => ?_)
    | exact imp_of hA id
    | (refine imp_of hA ?_; subst hA; simp only [real, Bool.true_and]; exact id)
    | (refine ind_of hA ?_; decide +kernel)
  refine loop_of hA (α := { i : Nat // i ≤ n }) (fun x => st_frLates n g x.1) (fun x => n - x.1) ⟨0, Nat.zero_le _⟩ ?_ ?_
  · refine cov_of ?_ ?_ ?_
    · cbv; try (subst hA; repeat' first | apply And.intro | exact True.intro | rfl)
    · cbv; try (subst hA; repeat' first | apply And.intro | exact True.intro | rfl)
    · cbv
  rintro ⟨i, hi⟩
  cbv
  repeat' first
    | (refine br_f hA ?_ ?_; focus (subst hA; simp [real]; done))
    | apply And.intro
    | exact True.intro
    | with_reducible rfl
    | exact same_of hA rfl
    | refine br_of hA (fun _ => ?_) (fun _ => ?_)
    | exact imp_of hA id
    | (refine imp_of hA ?_; subst hA; simp only [real, Bool.true_and]; exact id)
    | (refine ind_of hA ?_; decide +kernel)
    | (refine inb_of hA fun _ => ?_; subst hA; simp only [real, Bool.and_eq_true, Bool.not_eq_true', Bool.not_eq_false', decide_eq_true_eq, Int.ofNat_eq_natCast, IntKind.wrap_i64] at *; omega)
  rename_i hlt
  have hlt' : i < n := by subst hA; simp only [real, decide_eq_true_eq, Int.ofNat_eq_natCast] at hlt; omega
  refine ⟨⟨i + 1, by omega⟩, by simp only; omega, cov_of ?_ ?_ ?_⟩
  · cbv
    subst hA
    repeat' first | apply And.intro | exact True.intro | exact congrArg (fun x => DV.v (.int .i64 x)) (up64 hlt' hn) | rfl | (intro k hk; exact push_at rfl _ _ _ _ k hk)
  · cbv; try (subst hA; repeat' first | apply And.intro | exact True.intro | rfl)
  · cbv
def st_frOp (mk : Int) (n : Nat) (g : Nat → RowT) (i : Nat) : St := ⟨[(5, .c (.d (eI i))), (3, .c (.bp 192 1 0)), (2, .c (.bp 128 1 0))], [(192, 1, .box [.d (eI mk), .d (.sl 13 n fun i => eRow (g i))]), (128, 1, .box [.d (eI mk), .d (.sl 13 n fun i => eRow (g i))])]⟩
theorem c_frOp (mk : Int) (n : Nat) (hn : n ≤ maxLen) (g : Nat → RowT) : Meets Try.prog 24 [.agg [.d (eI mk), .d (.sl 13 n fun i => eRow (g i))], .agg [.d (eI mk), .d (.sl 13 n fun i => eRow (g i))]] ⟨.one (.c (.d (eB true))), [none, none]⟩ := by
  refine meets_of (H := []) (EX := EXA) ttok mixed Try.func24 rfl (by kernel_rfl) (by decide) ?_
  generalize hA : real = A
  generalize hM : MeetsB Try.prog = M
  cbv
  repeat' first
    | (refine br_f hA ?_ ?_; focus (subst hA; simp [real]; done))
    | apply And.intro
    | exact True.intro
    | with_reducible rfl
    | exact same_of hA rfl
    | refine br_of hA (fun _ => ?_) (fun _ => ?_)
    | exact imp_of hA id
    | (refine imp_of hA ?_; subst hA; simp only [real, Bool.true_and]; exact id)
    | (refine ind_of hA ?_; decide +kernel)
  refine loop_of hA (α := { i : Nat // i ≤ n }) (fun x => st_frOp mk n g x.1) (fun x => n - x.1) ⟨0, Nat.zero_le _⟩ ?_ ?_
  · refine cov_of ?_ ?_ ?_
    · cbv; try (subst hA; repeat' first | apply And.intro | exact True.intro | rfl)
    · cbv; try (subst hA; repeat' first | apply And.intro | exact True.intro | rfl)
    · cbv
  rintro ⟨i, hi⟩
  cbv
  repeat' first
    | (refine br_f hA ?_ ?_; focus (subst hA; simp [real]; done))
    | apply And.intro
    | exact True.intro
    | with_reducible rfl
    | exact same_of hA rfl
    | refine br_of hA (fun _ => ?_) (fun _ => ?_)
    | exact imp_of hA id
    | (refine imp_of hA ?_; subst hA; simp only [real, Bool.true_and]; exact id)
    | (refine ind_of hA ?_; decide +kernel)
    | (refine inb_of hA fun _ => ?_; subst hA; simp only [real, Bool.and_eq_true, Bool.not_eq_true', Bool.not_eq_false', decide_eq_true_eq, Int.ofNat_eq_natCast, IntKind.wrap_i64] at *; omega)
  rename_i hlt
  have hlt' : i < n := by subst hA; simp only [real, decide_eq_true_eq, Int.ofNat_eq_natCast] at hlt; omega
  refine ⟨⟨i + 1, by omega⟩, by simp only; omega, cov_of ?_ ?_ ?_⟩
  · cbv
    subst hA
    repeat' first | apply And.intro | exact True.intro | exact congrArg (fun x => DV.v (.int .i64 x)) (up64 hlt' hn) | rfl | (intro k hk; exact push_at rfl _ _ _ _ k hk)
  · cbv; try (subst hA; repeat' first | apply And.intro | exact True.intro | rfl)
  · cbv; try (subst hA; repeat' first | apply And.intro | exact True.intro | rfl | exact .inr trivial | exact .inl trivial)
theorem c_frOk : Meets Try.prog 20 [] ⟨.one (.c (.d (eB true))), []⟩ := by
  have h : Meets Try.prog 61 [.agg [.d (eI 0), .d (eI 1)]] ⟨.one (.c (.d (eB true))), [none]⟩ := by
    obtain ⟨b, hb, h⟩ := c_WinOk 0 1
    have e : b = true := by rw [hb]; decide
    rw [e] at h; exact h
  refine meets_of (H := []) (EX := EXA) ttok mixed Try.func20 rfl (by kernel_rfl) (by decide) ?_
  generalize hA : real = A
  generalize hM : MeetsB Try.prog = M
  cbv
  repeat' first
    | apply And.intro
    | exact True.intro
    | with_reducible rfl
    | exact same_of hA rfl
    | refine br_of hA (fun _ => ?_) (fun _ => ?_)
    | exact imp_of hA id
    | (refine imp_of hA ?_; subst hA; simp only [real, Bool.true_and]; exact id)
    | (refine ind_of hA ?_; decide +kernel)
    | (refine call_of hA hM _ h ?_; cbv)
end Go.Rk
/- Draws: the empty operator. -/
namespace Go.Rk
set_option linter.unusedSimpArgs false
set_option linter.unusedVariables false
open Go.Proofs
set_option maxRecDepth 100000
set_option maxHeartbeats 1000000
theorem c_frOp0 (g : Nat → RowT) : Meets Try.prog 24 [.agg [.d (eI 0), .d (.sl 13 0 fun i => eRow (g i))], .agg [.d (eI 0), .d (.v nilS)]] ⟨.one (.c (.d (eB true))), [none, none]⟩ := by
  refine meets_of (H := []) (EX := EXA) ttok mixed Try.func24 rfl (by kernel_rfl) (by decide) ?_
  generalize hA : real = A
  generalize hM : MeetsB Try.prog = M
  cbv
  repeat' first
    | (refine br_f hA ?_ ?_; focus (subst hA; simp [real]; done))
    | apply And.intro
    | exact True.intro
    | with_reducible rfl
    | exact same_of hA rfl
    | refine br_of hA (fun _ => ?_) (fun _ => ?_)
    | exact imp_of hA id
    | (refine imp_of hA ?_; subst hA; simp only [real, Bool.true_and]; exact id)
    | (refine ind_of hA ?_; decide +kernel)
  refine loop_of hA (α := Unit) (fun _ => ⟨[(5, .c (.d (eI 0))), (3, .c (.bp 192 1 0)), (2, .c (.bp 128 1 0))], [(192, 1, .box [.d (eI 0), .d (.v nilS)]), (128, 1, .box [.d (eI 0), .d (.sl 13 0 fun i => eRow (g i))])]⟩) (fun _ => 0) () ?_ ?_
  · refine cov_of ?_ ?_ ?_
    · cbv; try (subst hA; repeat' first | apply And.intro | exact True.intro | rfl)
    · cbv; try (subst hA; repeat' first | apply And.intro | exact True.intro | rfl)
    · cbv
  rintro ⟨⟩
  cbv
  repeat' first
    | (refine br_f hA ?_ ?_; focus (subst hA; simp [real]; done))
    | apply And.intro
    | exact True.intro
    | with_reducible rfl
    | exact same_of hA rfl
    | refine br_of hA (fun _ => ?_) (fun _ => ?_)
    | exact imp_of hA id
    | (refine imp_of hA ?_; subst hA; simp only [real, Bool.true_and]; exact id)
    | (refine ind_of hA ?_; decide +kernel)
    | (refine inb_of hA fun _ => ?_; subst hA; simp only [real, Bool.and_eq_true, Bool.not_eq_true', Bool.not_eq_false', decide_eq_true_eq, Int.ofNat_eq_natCast, IntKind.wrap_i64] at *; omega)
end Go.Rk
/- An operator stays one. -/
namespace Go.Rk
set_option linter.unusedSimpArgs false
set_option linter.unusedVariables false
theorem take_stays {j : JobT} {s : OpStT} {m : ItmT} {x : Int × List RowT × List PaneT × List LatT} {B : Int} (hx : x = opTakeL j s m) (hok : OpOkP j s) (hr : RecP m) (hB : 0 ≤ B ∧ B ≤ 270) (hb : Bd B (rowsL s)) {k : Nat} {G : Nat → RowT} (hG : Lst zRow x.2.1 k G) (hkL : k ≤ maxLen) :
    OpOkP j ⟨x.1, ⟨k, G, hkL⟩⟩ ∧ x.1 = s.mark ∧ Bd (B + 4) (rowsL ⟨x.1, ⟨k, G, hkL⟩⟩) ∧ (∀ p, p ∈ x.2.2.1 → PaneOkP p ∧ p.key = m.key) ∧ x.2 = takeL j s.mark m (winsL j m.t) (rowsL s) := by
  have hrows := bd_rows hok hb
  have h280 : s.rows.n ≤ 280 := by omega
  obtain ⟨h1, h2, h3, h4⟩ := take_ok (T := B) hok hr h280 (by have := hb.1; omega) (by omega) fun r hr => (hb.2 r hr).2
  have e1 : x.1 = s.mark := by rw [hx]; unfold opTakeL; rw [if_pos ⟨hok, hr, h280⟩]
  have e2 : x.2 = takeL j s.mark m (winsL j m.t) (rowsL s) := by rw [hx]; unfold opTakeL; rw [if_pos ⟨hok, hr, h280⟩]
  have hbd : Bd (B + 4) x.2.1 := by rw [hx]; exact bd_take hb (by omega)
  rw [← hx] at h1 h4
  have hlen : (x.2.1.length : Int) ≤ B + 4 := Int.le_trans (sumN_rows h1.1) hbd.1
  have hk : k ≤ 300 := by have := hG.1; omega
  refine ⟨?_, e1, bd_lst hbd hG hkL, h4, e2⟩
  have := ok_of (mk := x.1) hG hkL hok.1 (by rw [e1]; exact hok.2.1) hk (by rw [e1]; exact h1)
  exact this
theorem mark_stays {j : JobT} {s : OpStT} {m : Int} {x : Int × List RowT × List PaneT} (hx : x = opMarkL j s m) (hok : OpOkP j s) (hm : 0 ≤ m ∧ m ≤ 1000) {k : Nat} {G : Nat → RowT} (hG : Lst zRow x.2.1 k G) (hkL : k ≤ maxLen) :
    OpOkP j ⟨x.1, ⟨k, G, hkL⟩⟩ ∧ s.mark ≤ x.1 ∧ (∀ p, p ∈ x.2.2 → PaneOkP p) := by
  have hol := okL_of hok
  obtain ⟨h1, h2, h3, _, _, h4⟩ := mark_ok (T := 1500) hok hm (by decide) fun r hr => (hol.1 r hr).2.2.2.2.2.2.1.2
  have hlen := (opMarkL_len j s m).1
  rw [← hx] at h1 h2 h3 h4 hlen
  have h0 := hok.2.1
  have h300 := hok.2.2.1
  exact ⟨ok_of hG hkL hok.1 (by omega) (by rw [hG.1]; omega) h3, h1, h4⟩
end Go.Rk
/- The law, walked. -/
namespace Go.Rk
set_option linter.unusedSimpArgs false
set_option linter.unusedVariables false
open Go.Proofs Go.ChangeShapes Go.WideShapes Go.ChangeAt Go.RowKit
set_option maxRecDepth 100000
set_option maxHeartbeats 2000000
def st_st (j : JobT) (s : OpStT) (m : ItmT) (mk : Int) (k : Nat) (G : Nat → RowT) (c : Nat) (P : Nat → PaneT) (i : Nat) : St := ⟨[(21, .c (.d (eI i))), (9, .c (.d (.sl 9 c fun i => ePane (P i)))), (8, .c (.bp 512 1 0)), (7, .c (.bp 448 1 0)), (6, .c (.bp 384 1 0)), (5, .c (.bp 320 1 0))], [(512, 1, .box [.d (eI mk), .d (.sl 13 k fun i => eRow (G i))]), (448, 1, .box ((eItm m).map .d)), (384, 1, .box [.d (eI s.mark), .d (.sl 13 s.rows.n fun i => eRow (s.rows.g i))]), (320, 1, .box ((eJob j).map .d))]⟩
theorem m_law (M0 : Nat) (b : Nat → Int) (hb : ∀ i, 0 ≤ b i ∧ b i ≤ 255) (M1 : Nat) (b1 : Nat → Int) (hb1 : ∀ i, 0 ≤ b1 i ∧ b1 i ≤ 255) : Meets Try.prog 14 [.c (.d (.sl 1 M0 fun i => [eU (b i)])), .c (.d (.sl 1 M1 fun i => [eU (b1 i)]))] ⟨.one (.c (.d (eB true))), [none, none]⟩ := by
  refine meets_of (H := []) (EX := EXA) ttok mixed Try.func14 rfl (by kernel_rfl) (by decide) ?_
  generalize hA : real = A
  generalize hM : MeetsB Try.prog = M
  cbv
  repeat' first
    | apply And.intro
    | exact True.intro
    | with_reducible rfl
    | exact same_of hA rfl
    | refine br_of hA (fun _ => ?_) (fun _ => ?_)
    | exact imp_of hA id
    | (refine imp_of hA ?_; subst hA; simp only [real, Bool.true_and]; exact id)
    | (refine ind_of hA ?_; decide +kernel)
    | (refine call_ex hA hM (x2_drawTake M0 b hb) ?_; rintro ⟨j, s, m⟩ hs; dsimp only at hs; cbv)
  obtain ⟨hs, hbd⟩ := hs
  have hs : s.rows.n ≤ 261 := hs
  have hsL : s.rows.n ≤ maxLen := s.rows.hn
  obtain ⟨x, hx⟩ : ∃ x, x = opTakeL j s m := ⟨_, rfl⟩
  have hlen := opTakeL_len j s m
  rw [← hx] at hlen
  obtain ⟨k, G, hG⟩ := lst_ex zRow x.2.1
  obtain ⟨c, P, hP⟩ := lst_ex zPan x.2.2.1
  obtain ⟨d, Q, hQ⟩ := lst_ex zLat x.2.2.2
  have hks : k ≤ 400 := by rw [hG.1]; exact hlen.1
  have hcs : c ≤ 40000 := by rw [hP.1]; exact hlen.2.1
  have hds : d ≤ 100 := by rw [hQ.1]; exact hlen.2.2
  have hkL : k ≤ maxLen := Nat.le_trans hks (by decide)
  have hcL : c ≤ maxLen := Nat.le_trans hcs (by decide)
  have hdL : d ≤ maxLen := Nat.le_trans hds (by decide)
  have hI : Meets Try.prog 48 [xd (eJob j), .agg [.d (eI s.mark), .d (.sl 13 s.rows.n fun i => eRow (s.rows.g i))], xd (eItm m)] ⟨.tup [.agg [.d (eI x.1), .d (.sl 13 k fun i => eRow (G i))], .c (.d (.sl 9 c fun i => ePane (P i))), .c (.d (.sl 7 d fun i => eLat (Q i)))], [none, none, none]⟩ := meets_frz (c_OpTake j s (by omega) m x hx k G hG c P hP d Q hQ) rfl
  have hS : Meets Try.prog 49 [xd (eJob j), .agg [.d (eI s.mark), .d (.sl 13 s.rows.n fun i => eRow (s.rows.g i))], xd (eItm m)] ⟨.tup [.agg [.d (eI x.1), .d (.sl 13 k fun i => eRow (G i))], .c (.d (.sl 9 c fun i => ePane (P i))), .c (.d (.sl 7 d fun i => eLat (Q i)))], [none, none, none]⟩ := c_sOpTake j s (by omega) m x hx k G hG c P hP d Q hQ
  have hF := c_frOp x.1 k hkL G
  have hPn := c_frPanes c hcL P
  have hL := c_frLates d hdL Q
  obtain ⟨bo, hbo, hO⟩ := c_sOpOk j s
  obtain ⟨bi, hbi, hItm⟩ := c_sItmOkP m
  have hbad : ∀ {A : Ar}, real = A → A.bite (A.bite (A.bnot bo) true (A.cmp .neq m.kind 1)) true (A.bnot bi) = true → x.1 = 0 ∧ k = 0 ∧ c = 0 ∧ d = 0 := fun hA h => by
    have hn : ¬ (OpOkP j s ∧ RecP m ∧ s.rows.n ≤ 280) := fun hn => by
      subst hA
      have h : (bif (bif (!bo) then true else (m.kind != 1)) then true else (!bi)) = true := h
      rw [hbo.2 hn.1, hbi.2 hn.2.1.2, hn.2.1.1] at h
      cases h
    have e : x = (0, [], [], []) := by rw [hx]; exact opTakeL_bad hn
    exact ⟨by rw [e], by rw [hG.1, e]; rfl, by rw [hP.1, e]; rfl, by rw [hQ.1, e]; rfl⟩
  have hgood : ∀ {A : Ar}, real = A → A.bite (A.bite (A.bnot bo) true (A.cmp .neq m.kind 1)) true (A.bnot bi) = false → OpOkP j s ∧ RecP m := fun hA h => by
    subst hA
    have h : (bif (bif (!bo) then true else (m.kind != 1)) then true else (!bi)) = false := h
    cases h1 : bo with
    | false => rw [h1] at h; cases h
    | true =>
      rw [h1] at h
      cases h2 : (m.kind != 1) with
      | true => rw [h2] at h; cases h
      | false =>
        rw [h2] at h
        cases h3 : bi with
        | false => rw [h3] at h; cases h
        | true => exact ⟨hbo.1 h1, by simpa using h2, hbi.1 h3⟩
  repeat' first
    | apply And.intro
    | exact True.intro
    | with_reducible rfl
    | exact same_of hA rfl
    | refine br_of hA (fun _ => ?_) (fun _ => ?_)
    | exact imp_of hA id
    | (refine imp_of hA ?_; subst hA; simp only [real, Bool.true_and]; exact id)
    | (refine ind_of hA ?_; decide +kernel)
    | (refine call_of hA hM _ hI ?_; cbv)
    | (refine call_of hA hM _ hS ?_; cbv)
    | (refine call_of hA hM _ hF ?_; cbv)
    | (refine call_of hA hM _ hPn ?_; cbv)
    | (refine call_of hA hM _ hL ?_; cbv)
    | (exfalso; rename_i h; subst hA; simp [real] at h; done)
    | (refine call_ex hA hM (x2_drawMark M1 b1 hb1) ?_; rintro ⟨j2, s2, m2⟩ hs2; dsimp only at hs2; cbv)
  obtain ⟨hs2, _⟩ := hs2
  have hs2 : s2.rows.n ≤ 261 := hs2
  obtain ⟨v, hv⟩ : ∃ v, v = opMarkL j2 s2 m2 := ⟨_, rfl⟩
  have hvl := opMarkL_len j2 s2 m2
  rw [← hv] at hvl
  obtain ⟨kv, Gv, hGv⟩ := lst_ex zRow v.2.1
  obtain ⟨cv, Pv, hPv⟩ := lst_ex zPan v.2.2
  have hkv : kv ≤ maxLen := Nat.le_trans (show kv ≤ 261 by rw [hGv.1]; exact Nat.le_trans hvl.1 hs2) (by decide)
  have hcv : cv ≤ maxLen := Nat.le_trans (show cv ≤ 261 by rw [hPv.1]; exact Nat.le_trans hvl.2 hs2) (by decide)
  have hI2 : Meets Try.prog 22 [xd (eJob j2), .agg [.d (eI s2.mark), .d (.sl 13 s2.rows.n fun i => eRow (s2.rows.g i))], .c (.d (eI m2))] ⟨.tup [.agg [.d (eI v.1), .d (.sl 13 kv fun i => eRow (Gv i))], .c (.d (.sl 9 cv fun i => ePane (Pv i)))], [none, none, none]⟩ := meets_frz (c_OpMark j2 s2 (by omega) m2 v hv kv Gv hGv cv Pv hPv) rfl
  have hS2 : Meets Try.prog 23 [xd (eJob j2), .agg [.d (eI s2.mark), .d (.sl 13 s2.rows.n fun i => eRow (s2.rows.g i))], .c (.d (eI m2))] ⟨.tup [.agg [.d (eI v.1), .d (.sl 13 kv fun i => eRow (Gv i))], .c (.d (.sl 9 cv fun i => ePane (Pv i)))], [none, none, none]⟩ := meets_frz (c_sOpMark j2 s2 (by omega) m2 v hv kv Gv hGv cv Pv hPv) rfl
  have hF2 := c_frOp v.1 kv hkv Gv
  have hL2 := c_frPanes cv hcv Pv
  obtain ⟨bo2, hbo2, hO2⟩ := c_sOpOk j2 s2
  obtain ⟨bv, hbv, hOv⟩ := c_OpOk j2 ⟨v.1, ⟨kv, Gv, hkv⟩⟩
  have hno : ∀ {A : Ar}, real = A → A.bite (A.bite (A.bite bo2 (A.cmp .geq m2 0) false) (A.cmp .leq m2 1000) false) (A.bite (A.bnot bv) true (A.cmp .lss v.1 s2.mark)) false = true → False := fun hA h => by
    subst hA
    have h : (bif (bif (bif bo2 then decide (m2 ≥ 0) else false) then decide (m2 ≤ 1000) else false) then (bif (!bv) then true else decide (v.1 < s2.mark)) else false) = true := h
    cases h1 : bo2 with
    | false => rw [h1] at h; cases h
    | true =>
      rw [h1] at h
      by_cases h2 : m2 ≥ 0
      · by_cases h3 : m2 ≤ 1000
        · obtain ⟨g1, g2, _⟩ := mark_stays hv (hbo2.1 h1) ⟨h2, h3⟩ hGv hkv
          rw [decide_eq_true h2, decide_eq_true h3, hbv.2 g1, decide_eq_false (show ¬ v.1 < s2.mark by omega)] at h
          cases h
        · rw [decide_eq_true h2, decide_eq_false h3] at h; cases h
      · rw [decide_eq_false h2] at h; cases h
  repeat' first
    | apply And.intro
    | exact True.intro
    | with_reducible rfl
    | exact same_of hA rfl
    | refine br_of hA (fun _ => ?_) (fun _ => ?_)
    | exact imp_of hA id
    | (refine imp_of hA ?_; subst hA; simp only [real, Bool.true_and]; exact id)
    | (refine ind_of hA ?_; decide +kernel)
    | (refine call_of hA hM _ hI2 ?_; cbv)
    | (refine call_of hA hM _ hS2 ?_; cbv)
    | (refine call_of hA hM _ hF2 ?_; cbv)
    | (refine call_of hA hM _ hL2 ?_; cbv)
    | (refine call_of hA hM _ hO2 ?_; cbv)
    | (refine call_of hA hM _ hOv ?_; cbv)
    | (refine call_of hA hM _ hO ?_; cbv)
    | (refine call_of hA hM _ hItm ?_; cbv)
    | (refine call_of hA hM _ c_frOk ?_; cbv)
    | exact (hno hA (by assumption)).elim
    | (obtain ⟨e1, e2, e3, e4⟩ := hbad hA (by assumption); refine call_of2 hA hM _ (c_frOp0 G) ?_ ?_; (focus (show [XT.agg [XV.d (eI x.1), XV.d (DV.sl 13 k fun i => eRow (G i))], XT.agg [XV.d (eI 0), XV.d (DV.v nilS)]] = _; rw [e1, e2])); cbv)
    | (focus (obtain ⟨e1, e2, e3, e4⟩ := hbad hA (by assumption); clear hI hS hPn hL; subst hA; subst e3; subst e4; exact rfl))
    | (exfalso; rename_i h; subst hA; simp [real] at h; done)
  obtain ⟨hok, hr⟩ := hgood hA (by assumption)
  obtain ⟨q1, q2, q3, q4, _⟩ := take_stays (B := 130) hx hok hr (by decide) (hbd hok) hG hkL
  obtain ⟨by1, hby, hOy⟩ := c_OpOk j ⟨x.1, ⟨k, G, hkL⟩⟩
  have hby1 : by1 = true := hby.2 q1
  refine loop_of hA (α := { i : Nat // i ≤ c }) (fun y => st_st j s m x.1 k G c P y.1) (fun y => c - y.1) ⟨0, Nat.zero_le _⟩ ?_ ?_
  · refine cov_of ?_ ?_ ?_
    · (subst hA; (repeat' first | exact True.intro | exact rfl | apply And.intro))
    · (subst hA; (repeat' first | exact True.intro | exact rfl | apply And.intro | (intro _ _; first | rfl | trivial)))
    · (subst hA; (repeat' first | exact True.intro | exact rfl | apply And.intro | exact .inl rfl | exact .inr (le_of_nble rfl)))
  rintro ⟨i, hi⟩
  have hi : i ≤ c := hi
  obtain ⟨bp, hbp, hPO⟩ := c_PanOk (P i)
  cbv
  repeat' first
    | apply And.intro
    | exact True.intro
    | with_reducible rfl
    | exact same_of hA rfl
    | refine br_of hA (fun _ => ?_) (fun _ => ?_)
    | exact imp_of hA id
    | (refine imp_of hA ?_; subst hA; simp only [real, Bool.true_and]; exact id)
    | (refine ind_of hA ?_; decide +kernel)
    | (refine call_of hA hM _ hOy ?_; cbv)
    | (refine call_of2 hA hM _ hPO (by (subst hA; first | rfl | (simp only [sub0r]; done) | (simp only [sub0r]; rfl))) ?_; cbv)
    | (refine inb_lt hA ?_; first | exact lt2_of hA (by assumption) | exact lt_of hA (by assumption))
    | (refine inb_of hA (fun _ => ?_); have hlt9 : i < c := (by first | exact lt2_of hA (by assumption) | exact lt_of hA (by assumption)); exact ⟨Int.natCast_nonneg i, Int.ofNat_lt.2 hlt9⟩)
  · exfalso
    rename_i hlt h
    have hlt' : i < c := by first | exact lt2_of hA hlt | exact lt_of hA hlt
    obtain ⟨g1, g2⟩ := q4 (P i) (lst_in hP hlt')
    have hb9 : bp = true := hbp.2 g1
    clear hPO
    subst hA
    have h : (bif (!bp) then true else ((P i).key != m.key)) = true := h
    rw [hb9, g2] at h
    simp at h
  · rename_i hlt h
    have hlt' : i < c := by first | exact lt2_of hA hlt | exact lt_of hA hlt
    refine ⟨⟨i + 1, hlt'⟩, by simp only; omega, cov_of ?_ ?_ ?_⟩
    · (subst hA; (repeat' first | exact True.intro | exact rfl | exact congrArg (fun x => DV.v (.int .i64 x)) (up64 hlt' hcL) | apply And.intro))
    · (subst hA; (repeat' first | exact True.intro | exact rfl | apply And.intro | (intro _ _; first | rfl | trivial)))
    · (subst hA; (repeat' first | exact True.intro | exact rfl | apply And.intro | exact .inl rfl | exact .inr (le_of_nble rfl)))
  · clear hPO hOy
    subst hA
    refine congrArg (fun b => XA.one (.c (.d (eB b)))) ?_
    show (bif by1 then (x.1 == s.mark) else false) = true
    rw [hby1, q2]; simp
end Go.Rk
