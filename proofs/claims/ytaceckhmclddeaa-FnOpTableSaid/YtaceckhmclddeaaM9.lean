/- The walk over this seat's functions, part 9: what each of them answers, at all data. -/
import Derived.Test.YtaceckhmclddeaaM1
import Derived.Test.YtaceckhmclddeaaM2
import Derived.Test.YtaceckhmclddeaaM3
import Derived.Test.YtaceckhmclddeaaM4
import Derived.Test.YtaceckhmclddeaaM5
import Derived.Test.YtaceckhmclddeaaM6
import Derived.Test.YtaceckhmclddeaaM7
import Derived.Test.YtaceckhmclddeaaM8
import Derived.Shelf.SlLaysE
import Derived.Shelf.RegionOpenPlain
import Derived.WalkKit
import Derived.Deep.LoopGhost
import Derived.Deep.RegionLaw
import Derived.Lib.Walk
import Derived.Lib.SliceRun
import Derived.Lib.SlicesDelete
/- Tables: find. -/
namespace Go.Rk
set_option linter.unusedSimpArgs false
set_option linter.unusedVariables false
open Go.Proofs
set_option maxRecDepth 100000
set_option maxHeartbeats 1000000
def stIxTab2 (n : Nat) (g : Nat → TabT) (F : FuncId) (c0 c1 : DV) (i : Nat) : St := ⟨[(8, .c (.d (eI i))), (7, .c (.d (eI n))), (0, .c (.d (.sl 7 n fun i => eTab (g i)))), (1, .c (.d (.fn F [c0, c1])))], []⟩
set_option maxRecDepth 100000 in
theorem c_IndexTab2 (n : Nat) (hn : n ≤ maxLen) (g : Nat → TabT) (F : FuncId) (c0 c1 : DV) (Q : TabT → Prop) (hc : ∀ r, ∃ b, (b = true ↔ Q r) ∧ Meets Try.prog F [xd (eTab r), .c (.d c0), .c (.d c1)] ⟨.one (.c (.d (eB b))), [none, none, none]⟩) : ∃ x, FirstIx n (fun i => Q (g i)) x ∧ Meets Try.prog 111 [.c (.d (.sl 7 n fun i => eTab (g i))), .c (.d (.fn F [c0, c1]))] ⟨.one (.c (.d (eI x))), [none, none]⟩ := by
  obtain ⟨x, hx⟩ := firstIx_ex n fun i => Q (g i)
  refine ⟨x, hx, ?_⟩
  refine meets_of (H := []) (EX := EXA) ttok mixed Try.func111 rfl (by kernel_rfl) (by decide) ?_
  generalize hA : real = A
  generalize hM : MeetsB Try.prog = M
  cbv
  repeat' first
    | apply And.intro
    | exact True.intro
    | with_reducible rfl
    | exact same_of hA rfl
    | refine br_of hA (fun _ => ?_) (fun _ => ?_)
    | exact imp_of hA id
    | (refine imp_of hA ?_; subst hA; simp only [real, Bool.true_and]; exact id)
    | (refine ind_of hA ?_; decide +kernel)
  refine loop_of hA (α := { i : Nat // i ≤ n ∧ ∀ j, j < i → ¬ Q (g j) }) (fun x => stIxTab2 n g F c0 c1 x.1) (fun x => n - x.1) ⟨0, Nat.zero_le _, fun j h => absurd h (Nat.not_lt_zero _)⟩ ?_ ?_
  · refine cov_of ?_ ?_ ?_
    · cbv; subst hA; exact ⟨rfl, rfl, trivial⟩
    · cbv
    · cbv
  rintro ⟨i, hi, hb⟩
  cbv
  repeat' first
    | apply And.intro
    | exact True.intro
    | with_reducible rfl
    | exact same_of hA rfl
    | refine br_of hA (fun _ => ?_) (fun _ => ?_)
    | exact imp_of hA id
    | (refine imp_of hA ?_; subst hA; simp only [real, Bool.true_and]; exact id)
    | (refine ind_of hA ?_; decide +kernel)
    | (refine inb_of hA fun _ => ?_; subst hA; simp only [real, decide_eq_true_eq, Int.ofNat_eq_natCast] at *; omega)
  · refine call_ex hA hM (hc (g (A.nat (Int.ofNat i)))) (fun b hbb => ?_)
    cbv
    repeat' first
      | apply And.intro
      | exact True.intro
      | with_reducible rfl
      | exact same_of hA rfl
      | refine br_of hA (fun _ => ?_) (fun _ => ?_)
      | exact imp_of hA id
      | (refine imp_of hA ?_; subst hA; simp only [real, Bool.true_and]; exact id)
      | (refine ind_of hA ?_; decide +kernel)
    · rename_i hlt ht
      subst hA
      simp only [real, decide_eq_true_eq, Int.ofNat_eq_natCast, Int.toNat_natCast] at *
      obtain rfl := firstIx_one hx (.at i (by omega) (hbb.1 ht) hb)
      rfl
    · rename_i hlt ht
      have hlt' : i < n := by subst hA; simp only [real, decide_eq_true_eq, Int.ofNat_eq_natCast] at hlt; omega
      refine ⟨⟨i + 1, by omega, fun j hj => ?_⟩, by simp only; omega, cov_of ?_ ?_ ?_⟩
      · by_cases e : j = i
        · subst e
          subst hA
          intro hq
          have := hbb.2 hq
          rw [ht] at this
          cases this
        · exact hb j (by omega)
      · cbv
        subst hA
        exact ⟨congrArg (fun x => DV.v (.int .i64 x)) (up64 hlt' hn), trivial⟩
      · cbv
      · cbv
  · subst hA
    simp only [real, decide_eq_false_iff_not, Int.ofNat_eq_natCast] at *
    obtain rfl := firstIx_one hx (.none fun j hj => hb j (by omega))
    rfl
open Classical in
set_option maxRecDepth 100000 in
theorem c_Find1 (r : TabT) (key : Int) (w : WinT) : ∃ b, (b = true ↔ IsRow key w r) ∧ Meets Try.prog 112 [xd (eTab r), .c (.d (.p [eI key])), .c (.d (.p (eWin w)))] ⟨.one (.c (.d (eB b))), [none, none, none]⟩ := by
  obtain ⟨b, hb⟩ : ∃ b, b = decide (IsRow key w r) := ⟨_, rfl⟩
  refine ⟨b, by rw [hb, decide_eq_true_eq], ?_⟩
  refine meets_of (H := []) (EX := EXA) ttok mixed Try.func112 rfl (by kernel_rfl) (by decide) ?_
  generalize hA : real = A
  generalize hM : MeetsB Try.prog = M
  cbv
  repeat' first
    | apply And.intro
    | exact True.intro
    | with_reducible rfl
    | exact same_of hA rfl
    | refine br_of hA (fun _ => ?_) (fun _ => ?_)
    | exact imp_of hA id
    | (refine imp_of hA ?_; subst hA; simp only [real, Bool.true_and]; exact id)
    | (refine ind_of hA ?_; decide +kernel)
    | (refine call_ex hA hM (c_of _ _ _) (fun _ _ => ?_); cbv)
  all_goals obtain ⟨k, ⟨s, e⟩, ag⟩ := r; obtain ⟨s2, e2⟩ := w
  all_goals subst hA
  all_goals refine congrArg (fun b => XA.one (.c (.d (eB b)))) (Bool.eq_iff_iff.2 ?_)
  all_goals subst_vars
  all_goals simp only [real, bifA, bifB, bifC, bifD, beqB, decide_eq_true_eq, decide_eq_false_iff_not, beqI, bneI, beqIF, bneIF, ne_eq, Bool.and_eq_true, Bool.or_eq_true, Bool.not_eq_true', Bool.not_eq_false', Bool.and_eq_false_iff, Bool.or_eq_false_iff, Bool.false_eq_true, and_false, false_and, or_false, false_or, and_true, true_and, not_true_eq_false, not_false_eq_true, true_iff, false_iff, IntKind.wrap_i64, IsRow, WinOkP, AggOkP] at *
  all_goals first | omega | exact (@decide_eq_true_iff _ _).symm | (refine Iff.trans ?_ (@decide_eq_true_iff _ _).symm; omega)
theorem c_Find (l : List TabT) (n : Nat) (g : Nat → TabT) (hl : Lst zTab l n g) (hn : n ≤ 1100000) (key : Int) (w : WinT) (a : AggT) (ha : a = (tFind key w l).getD zAgg) (b : Bool) (hb : b = (tFind key w l).isSome) : Meets Try.prog 58 [.c (.d (.sl 7 n fun i => eTab (g i))), .c (.d (eI key)), xd (eWin w)] ⟨.tup [xd (eAgg a), .c (.d (eB b))], [none, none, none]⟩ := by
  have hnL : n ≤ maxLen := Nat.le_trans hn (by decide)
  obtain ⟨x, hx, hX⟩ := c_IndexTab2 n hnL g 112 (.p [eI key]) (.p (eWin w)) (IsRow key w) (fun r => c_Find1 r key w)
  have hxx := firstIx_neg hx
  have hcs : (0 ≤ x → x < (n : Int) ∧ some (g x.toNat).agg = tFind key w l) ∧ (¬ 0 ≤ x → tFind key w l = none) := by
    refine ⟨fun h => ?_, fun h => tFind_none hl fun k hk hq => h (hxx.1.2 ⟨k, hk, hq⟩)⟩
    obtain ⟨q, hq1, hq2, hq3, hq4⟩ := hxx.2.1 h
    rw [hq2]
    exact ⟨Int.ofNat_lt.2 hq1, (tFind_first hl hq1 hq3 hq4).symm⟩
  refine meets_of (H := []) (EX := EXA) ttok mixed Try.func58 rfl (by kernel_rfl) (by decide) ?_
  generalize hA : real = A
  generalize hM : MeetsB Try.prog = M
  cbv
  repeat' first
    | apply And.intro
    | exact True.intro
    | with_reducible rfl
    | exact same_of hA rfl
    | refine br_of hA (fun _ => ?_) (fun _ => ?_)
    | exact imp_of hA id
    | (refine imp_of hA ?_; subst hA; simp only [real, Bool.true_and]; exact id)
    | (refine ind_of hA ?_; decide +kernel)
    | (refine call_of hA hM _ hX ?_; cbv)
    | (rename_i hneg; refine inb_of hA fun _ => ?_; subst hA; have h2 := Int.not_lt.1 (of_decide_eq_false (show decide (x < 0) = false from hneg)); exact ⟨h2, (hcs.1 h2).1⟩)
  · rename_i hneg
    subst hA
    have e := hcs.2 (Int.not_le.2 (of_decide_eq_true (show decide (x < 0) = true from hneg)))
    rw [e] at ha hb; subst ha; subst hb; rfl
  · rename_i hneg
    subst hA
    have e := (hcs.1 (Int.not_lt.1 (of_decide_eq_false (show decide (x < 0) = false from hneg)))).2
    rw [← e] at ha hb; subst ha; subst hb; rfl
end Go.Rk
/- Tables: of. -/
namespace Go.Rk
set_option linter.unusedSimpArgs false
set_option linter.unusedVariables false
open Go.Proofs
set_option maxRecDepth 100000
set_option maxHeartbeats 1000000
def st_Of (n : Nat) (g : Nat → PaneT) (piece : Bool) (i c : Nat) (G : Nat → TabT) : St := ⟨[(13, .c (.d (eI i))), (12, .c (.d (eI n))), (11, .c (.d (.sl 9 n fun i => ePane (g i)))), (5, .c (.own 320 0 c 1)), (1, .c (.d (eB piece)))], [(320, 1, .arr 7 c fun k => eTab (G k))]⟩
theorem c_Of (l : List PaneT) (n : Nat) (g : Nat → PaneT) (hl : Lst zPane l n g) (hn : n ≤ 1080000) (piece : Bool) (n0 : Nat) (G0 : Nat → TabT) (h0 : Lst zTab (ofL piece l) n0 G0) : Meets Try.prog 19 [.c (.d (.sl 9 n fun i => ePane (g i))), .c (.d (eB piece))] ⟨.one (.c (.own 7 n0 fun i => eTab (G0 i))), [none, none]⟩ := by
  have hnL : n ≤ maxLen := Nat.le_trans hn (by decide)
  refine meets_of (H := [13]) (EX := EXA) ttok mixed Try.func19 rfl (by kernel_rfl) (by decide) ?_
  generalize hA : real = A
  generalize hM : MeetsB Try.prog = M
  cbv
  repeat' first
    | apply And.intro
    | exact True.intro
    | with_reducible rfl
    | exact same_of hA rfl
    | refine br_of hA (fun _ => ?_) (fun _ => ?_)
    | exact imp_of hA id
    | (refine imp_of hA ?_; subst hA; simp only [real, Bool.true_and]; exact id)
    | (refine ind_of hA ?_; decide +kernel)
  refine loop_of hA (α := { q : Nat × Nat × (Nat → TabT) // q.1 ≤ n ∧ Lst zTab (ofL piece (l.take q.1)) q.2.1 q.2.2 }) (fun y => st_Of n g piece y.1.1 y.1.2.1 y.1.2.2) (fun y => n - y.1.1) ⟨(0, 0, fun _ => zTab), Nat.zero_le _, rfl, fun k h => absurd h (Nat.not_lt_zero k)⟩ ?_ ?_
  · refine cov_prom 5 320 1 7 (fun _ => []) rfl rfl (cov_of ?_ ?_ ?_)
    · cbv; try (subst hA; repeat' first | apply And.intro | exact True.intro | rfl | fail)
    · cbv; try (subst hA; repeat' first | apply And.intro | exact True.intro | rfl | (intro _ _; rfl) | (intro k hk; exact absurd hk (Nat.not_lt_zero k)) | fail)
    · cbv; try (subst hA; repeat' first | apply And.intro | exact True.intro | rfl | exact .inr trivial | exact .inl trivial)
  rintro ⟨⟨i, c, G⟩, hi, hT⟩
  have hi : i ≤ n := hi
  obtain ⟨T, hTe⟩ : ∃ T, T = ofL piece (l.take i) := ⟨_, rfl⟩
  have hT : Lst zTab T c G := by rw [hTe]; exact hT
  have hci : c ≤ i := by
    rw [hT.1, hTe]
    have h1 := ofL_len piece (l.take i)
    rw [List.length_take] at h1
    omega
  obtain ⟨no, Go, hO⟩ := lst_ex zTab (tOut (g i).key (g i).win T)
  obtain ⟨np, Gp, hP⟩ := lst_ex zTab (tPut ⟨(g i).key, (g i).win, ofAgg piece T (g i)⟩ T)
  obtain ⟨a, ha⟩ : ∃ a, a = (tFind (g i).key (g i).win T).getD zAgg := ⟨_, rfl⟩
  obtain ⟨b, hb⟩ : ∃ b, b = (tFind (g i).key (g i).win T).isSome := ⟨_, rfl⟩
  obtain ⟨ag, hag⟩ : ∃ x, x = aggB a (g i).agg := ⟨_, rfl⟩
  have cO := c_Out T c G hT (by omega) (g i).key (g i).win no Go hO
  have cF := c_Find T c G hT (by omega) (g i).key (g i).win a ha b hb
  have cB := c_AggBoth a (g i).agg ag hag
  have cP := c_Put T c G hT (by omega) _ np Gp hP
  have hnext : i < n → ∀ m H, Lst zTab (ofStep piece T (g i)) m H → i + 1 ≤ n ∧ Lst zTab (ofL piece (l.take (i + 1))) m H := fun h m H hH => ⟨h, by rw [lst_take hl h, ofL_snoc, ← hTe]; exact hH⟩
  cbv
  repeat' first
    | apply And.intro
    | exact True.intro
    | with_reducible rfl
    | exact same_of hA rfl
    | refine br_of hA (fun _ => ?_) (fun _ => ?_)
    | exact imp_of hA id
    | (refine imp_of hA ?_; subst hA; simp only [real, Bool.true_and]; exact id)
    | (refine ind_of hA ?_; decide +kernel)
    | (refine inb_lt hA ?_; first | exact lt2_of hA (by assumption) | exact lt_of hA (by assumption))
    | exact flat_tab hA _ _
    | (refine call_of2 hA hM _ cO (by (subst hA; first | rfl | (simp only [sub0r]; try rfl))) ?_; cbv)
    | (refine call_of2 hA hM _ cF (by (subst hA; first | rfl | (simp only [sub0r]; try rfl))) ?_; cbv)
    | (refine call_of2 hA hM _ cB (by (subst hA; first | rfl | (simp only [sub0r]; try rfl))) ?_; cbv)
  · rename_i hlt hk
    have hlt' : i < n := by first | exact lt2_of hA hlt | exact lt_of hA hlt
    have hk : (g i).kind = 3 := by subst hA; exact of_decide_eq_true hk
    refine ⟨⟨(i + 1, no, Go), hnext hlt' _ _ ?_⟩, by simp only; omega, cov_rel 320 2 (k := 5) (l := 1600) (sz := 7) rfl rfl rfl rfl (cov_of ?_ ?_ ?_)⟩
    · unfold ofStep; rw [if_pos hk]; exact hO
    · cbv; subst hA; repeat' first | apply And.intro | exact True.intro | exact congrArg (fun x => DV.v (.int .i64 x)) (up64 hlt' hnL) | rfl
    · cbv; try (subst hA; repeat' first | apply And.intro | exact True.intro | rfl | (intro _ _; rfl))
    · cbv; try (subst hA; repeat' first | apply And.intro | exact True.intro | rfl | exact .inr trivial | exact .inl trivial)
  · rename_i hlt hk hp
    have hlt' : i < n := by first | exact lt2_of hA hlt | exact lt_of hA hlt
    have hk : ¬ (g i).kind = 3 := by subst hA; exact of_decide_eq_false hk
    have hx : ofAgg piece T (g i) = ag := by
      have hp2 : b = true ∧ piece = true := by subst hA; simpa [real] using hp
      unfold ofAgg; rw [if_pos hp2.2, hag, ha]
    rw [hx] at cP hP
    refine call_of2 hA hM _ cP (by (subst hA; first | rfl | (simp only [sub0r]; try rfl))) ?_
    cbv
    repeat' first
      | apply And.intro
      | exact True.intro
      | with_reducible rfl
      | exact same_of hA rfl
      | refine br_of hA (fun _ => ?_) (fun _ => ?_)
      | exact imp_of hA id
      | (refine imp_of hA ?_; subst hA; simp only [real, Bool.true_and]; exact id)
      | (refine ind_of hA ?_; decide +kernel)
      | exact flat_tab hA _ _
    refine ⟨⟨(i + 1, np, Gp), hnext hlt' _ _ ?_⟩, by simp only; omega, cov_rel 320 2 (k := 5) (l := 3264) (sz := 7) rfl rfl rfl rfl (cov_of ?_ ?_ ?_)⟩
    · unfold ofStep; rw [if_neg hk, hx]; exact hP
    · cbv; subst hA; repeat' first | apply And.intro | exact True.intro | exact congrArg (fun x => DV.v (.int .i64 x)) (up64 hlt' hnL) | rfl
    · cbv; try (subst hA; repeat' first | apply And.intro | exact True.intro | rfl | (intro _ _; rfl))
    · cbv; try (subst hA; repeat' first | apply And.intro | exact True.intro | rfl | exact .inr trivial | exact .inl trivial)
  · rename_i hlt hk hp
    have hlt' : i < n := by first | exact lt2_of hA hlt | exact lt_of hA hlt
    have hk : ¬ (g i).kind = 3 := by subst hA; exact of_decide_eq_false hk
    have hx : ofAgg piece T (g i) = (g i).agg := by
      have hp2 : b = true → piece = false := by subst hA; simpa [real] using hp
      unfold ofAgg
      by_cases hq : piece = true
      · have hb2 : b = false := by
          cases b with
          | false => rfl
          | true => rw [hp2 rfl] at hq; cases hq
        rw [if_pos hq]
        have hn : tFind (g i).key (g i).win T = none := by
          cases hf : tFind (g i).key (g i).win T with
          | none => rfl
          | some x => rw [hf] at hb; rw [hb2] at hb; cases hb
        rw [hn]; rfl
      · rw [if_neg hq]
    rw [hx] at cP hP
    refine call_of2 hA hM _ cP (by (subst hA; first | rfl | (simp only [sub0r]; try rfl))) ?_
    cbv
    repeat' first
      | apply And.intro
      | exact True.intro
      | with_reducible rfl
      | exact same_of hA rfl
      | refine br_of hA (fun _ => ?_) (fun _ => ?_)
      | exact imp_of hA id
      | (refine imp_of hA ?_; subst hA; simp only [real, Bool.true_and]; exact id)
      | (refine ind_of hA ?_; decide +kernel)
      | exact flat_tab hA _ _
    refine ⟨⟨(i + 1, np, Gp), hnext hlt' _ _ ?_⟩, by simp only; omega, cov_rel 320 2 (k := 5) (l := 3264) (sz := 7) rfl rfl rfl rfl (cov_of ?_ ?_ ?_)⟩
    · unfold ofStep; rw [if_neg hk, hx]; exact hP
    · cbv; subst hA; repeat' first | apply And.intro | exact True.intro | exact congrArg (fun x => DV.v (.int .i64 x)) (up64 hlt' hnL) | rfl
    · cbv; try (subst hA; repeat' first | apply And.intro | exact True.intro | rfl | (intro _ _; rfl))
    · cbv; try (subst hA; repeat' first | apply And.intro | exact True.intro | rfl | exact .inr trivial | exact .inl trivial)
  · rename_i hge
    have hin : i = n := by first | (have := ge2_of hA hge; omega) | (have := ge_of hA hge; omega)
    subst hin
    rw [lst_all hl] at hTe
    rw [hTe] at hT
    have hcc : c = n0 := hT.1.trans h0.1.symm
    subst hcc
    refine stop_of hA ⟨[(5, .c (.own 320 0 c 1))], [(320, 1, .arr 7 c fun i => eTab (G0 i))]⟩ (cov_of ?_ ?_ ?_) ?_
    · cbv
    · cbv
      exact ⟨fun q hq => congrArg eTab ((hT.2 q hq).trans (h0.2 q hq).symm), trivial⟩
    · cbv
    · cbv
      repeat' first
        | apply And.intro
        | exact True.intro
        | with_reducible rfl
        | exact same_of hA rfl
        | refine br_of hA (fun _ => ?_) (fun _ => ?_)
        | exact imp_of hA id
        | (refine imp_of hA ?_; subst hA; simp only [real, Bool.true_and]; exact id)
        | (refine ind_of hA ?_; decide +kernel)
end Go.Rk
/- Tables: small. -/
namespace Go.Rk
set_option linter.unusedSimpArgs false
set_option linter.unusedVariables false
open Go.Proofs
set_option maxRecDepth 100000
set_option maxHeartbeats 1000000
def st_frTab (n : Nat) (g : Nat → TabT) (i : Nat) : St := ⟨[(5, .c (.d (eI i))), (0, .c (.d (.sl 7 n fun i => eTab (g i)))), (1, .c (.d (.sl 7 n fun i => eTab (g i))))], []⟩
theorem c_frTab (n : Nat) (hn : n ≤ maxLen) (g : Nat → TabT) : Meets Try.prog 18 [.c (.d (.sl 7 n fun i => eTab (g i))), .c (.d (.sl 7 n fun i => eTab (g i)))] ⟨.one (.c (.d (eB true))), [none, none]⟩ := by
  refine meets_of (H := []) (EX := EXA) ttok mixed Try.func18 rfl (by kernel_rfl) (by decide) ?_
  generalize hA : real = A
  generalize hM : MeetsB Try.prog = M
  cbv
  repeat' first
    | (refine br_f hA ?_ ?_; focus (subst hA; simp [real]; done))
    | apply And.intro
    | exact True.intro
    | with_reducible rfl
    | exact same_of hA rfl
    | refine br_of hA (fun _ => ?_) (fun _ => ?_)
    | exact imp_of hA id
    | (refine imp_of hA ?_; subst hA; simp only [real, Bool.true_and]; exact id)
    | (refine ind_of hA ?_; decide +kernel)
  refine loop_of hA (α := { i : Nat // i ≤ n }) (fun x => st_frTab n g x.1) (fun x => n - x.1) ⟨0, Nat.zero_le _⟩ ?_ ?_
  · refine cov_of ?_ ?_ ?_
    · cbv; try (subst hA; repeat' first | apply And.intro | exact True.intro | rfl)
    · cbv; try (subst hA; repeat' first | apply And.intro | exact True.intro | rfl)
    · cbv
  rintro ⟨i, hi⟩
  cbv
  repeat' first
    | (refine br_f hA ?_ ?_; focus (subst hA; simp [real]; done))
    | apply And.intro
    | exact True.intro
    | with_reducible rfl
    | exact same_of hA rfl
    | refine br_of hA (fun _ => ?_) (fun _ => ?_)
    | exact imp_of hA id
    | (refine imp_of hA ?_; subst hA; simp only [real, Bool.true_and]; exact id)
    | (refine ind_of hA ?_; decide +kernel)
    | (refine inb_of hA fun _ => ?_; subst hA; simp only [real, Bool.and_eq_true, Bool.not_eq_true', Bool.not_eq_false', decide_eq_true_eq, Int.ofNat_eq_natCast, IntKind.wrap_i64] at *; omega)
  rename_i hlt
  have hlt' : i < n := by subst hA; simp only [real, decide_eq_true_eq, Int.ofNat_eq_natCast] at hlt; omega
  refine ⟨⟨i + 1, by omega⟩, by simp only; omega, cov_of ?_ ?_ ?_⟩
  · cbv
    subst hA
    repeat' first | apply And.intro | exact True.intro | exact congrArg (fun x => DV.v (.int .i64 x)) (up64 hlt' hn) | rfl | (intro k hk; exact push_at rfl _ _ _ _ k hk)
  · cbv; try (subst hA; repeat' first | apply And.intro | exact True.intro | rfl)
  · cbv
def st_tc (n : Nat) (g : Nat → TabT) (i : Nat) (s : Int) : St := ⟨[(8, .c (.d (eI i))), (7, .c (.d (eI n))), (6, .c (.d (.sl 7 n fun i => eTab (g i)))), (3, .c (.d (eI s)))], []⟩
theorem c_TabCount (T : List TabT) (n : Nat) (g : Nat → TabT) (hT : Lst zTab T n g) (hn : n ≤ 1080000) (hs : ∀ i, i ≤ n → -1000000000 ≤ tCnt (T.take i) ∧ tCnt (T.take i) ≤ 1000000000) (c : Int) (hc : c = tCnt T) : Meets Try.prog 35 [.c (.d (.sl 7 n fun i => eTab (g i)))] ⟨.one (.c (.d (eI c))), [none]⟩ := by
  have hnL : n ≤ maxLen := Nat.le_trans hn (by decide)
  refine meets_of (H := []) (EX := EXA) ttok mixed Try.func35 rfl (by kernel_rfl) (by decide) ?_
  generalize hA : real = A
  generalize hM : MeetsB Try.prog = M
  cbv
  repeat' first
    | apply And.intro
    | exact True.intro
    | with_reducible rfl
    | exact same_of hA rfl
    | refine br_of hA (fun _ => ?_) (fun _ => ?_)
    | exact imp_of hA id
    | (refine imp_of hA ?_; subst hA; simp only [real, Bool.true_and]; exact id)
    | (refine ind_of hA ?_; decide +kernel)
  refine loop_of hA (α := { q : Nat × Int // q.1 ≤ n ∧ q.2 = tCnt (T.take q.1) }) (fun y => st_tc n g y.1.1 y.1.2) (fun y => n - y.1.1) ⟨(0, 0), Nat.zero_le _, rfl⟩ ?_ ?_
  · refine cov_of ?_ ?_ ?_
    · cbv; try (subst hA; repeat' first | apply And.intro | exact True.intro | rfl | fail)
    · cbv; try (subst hA; repeat' first | apply And.intro | exact True.intro | rfl | (intro _ _; rfl) | (intro k hk; exact absurd hk (Nat.not_lt_zero k)) | fail)
    · cbv; try (subst hA; repeat' first | apply And.intro | exact True.intro | rfl | exact .inr trivial | exact .inl trivial)
  rintro ⟨⟨i, s⟩, hi, hsm⟩
  have hi : i ≤ n := hi
  have hsm : s = tCnt (T.take i) := hsm
  obtain ⟨s', hs'⟩ : ∃ z : Int, z = s + (g i).agg.n := ⟨_, rfl⟩
  have hstep : i < n → s' = tCnt (T.take (i + 1)) := fun h => by
    rw [lst_take hT h, tCnt_app, ← hsm, hs']
    simp [tCnt]
  cbv
  repeat' first
    | apply And.intro
    | exact True.intro
    | with_reducible rfl
    | exact same_of hA rfl
    | refine br_of hA (fun _ => ?_) (fun _ => ?_)
    | exact imp_of hA id
    | (refine imp_of hA ?_; subst hA; simp only [real, Bool.true_and]; exact id)
    | (refine ind_of hA ?_; decide +kernel)
    | (refine inb_lt hA ?_; first | exact lt2_of hA (by assumption) | exact lt_of hA (by assumption))
  · rename_i hlt
    have hlt' : i < n := by first | exact lt2_of hA hlt | exact lt_of hA hlt
    refine ⟨⟨(i + 1, s'), hlt', hstep hlt'⟩, by simp only; omega, cov_of ?_ ?_ ?_⟩
    · cbv; subst hA
      have hw : IntKind.i64.wrap (s + (g i).agg.n) = s' := by
        rw [← hs', IntWalk.i64_in]
        have := hs (i + 1) hlt'
        rw [← hstep hlt'] at this
        omega
      repeat' first | apply And.intro | exact True.intro | exact congrArg (fun x => DV.v (.int .i64 x)) hw | exact congrArg (fun x => DV.v (.int .i64 x)) (up64 hlt' hnL) | rfl
    · cbv; try (subst hA; repeat' first | apply And.intro | exact True.intro | rfl)
    · cbv; try (subst hA; repeat' first | apply And.intro | exact True.intro | rfl | exact .inr trivial)
  · rename_i hge
    have hin : i = n := by first | (have := ge2_of hA hge; omega) | (have := ge_of hA hge; omega)
    subst hin
    rw [lst_all hT, ← hc] at hsm
    subst hsm
    rfl
end Go.Rk
/- Draws: comparisons. -/
namespace Go.Rk
set_option linter.unusedSimpArgs false
set_option linter.unusedVariables false
open Go.Proofs
set_option maxRecDepth 100000
set_option maxHeartbeats 1000000
theorem c_frOk : Meets Try.prog 20 [] ⟨.one (.c (.d (eB true))), []⟩ := by
  have h : Meets Try.prog 61 [.agg [.d (eI 0), .d (eI 1)]] ⟨.one (.c (.d (eB true))), [none]⟩ := by
    obtain ⟨b, hb, h⟩ := c_WinOk 0 1
    have e : b = true := by rw [hb]; decide
    rw [e] at h; exact h
  refine meets_of (H := []) (EX := EXA) ttok mixed Try.func20 rfl (by kernel_rfl) (by decide) ?_
  generalize hA : real = A
  generalize hM : MeetsB Try.prog = M
  cbv
  repeat' first
    | apply And.intro
    | exact True.intro
    | with_reducible rfl
    | exact same_of hA rfl
    | refine br_of hA (fun _ => ?_) (fun _ => ?_)
    | exact imp_of hA id
    | (refine imp_of hA ?_; subst hA; simp only [real, Bool.true_and]; exact id)
    | (refine ind_of hA ?_; decide +kernel)
    | (refine call_of hA hM _ h ?_; cbv)
end Go.Rk
/- Keys do not see each other. -/
namespace Go.Rk
set_option linter.unusedSimpArgs false
set_option linter.unusedVariables false
theorem rfind_no {k : Int} {w : WinT} {l : List RowT} (h : rFind k w l = none) {q : RowT} (hq : q ∈ l) : ¬ IsR k w q := by
  unfold rFind at h
  rw [List.find?_eq_none] at h
  have := h q hq
  simpa using this
end Go.Rk
/- What panes tell, whether they have all or but what is new. -/
namespace Go.Rk
set_option linter.unusedSimpArgs false
set_option linter.unusedVariables false
def RT (r : RowT) : TabT := ⟨r.key, r.win, r.all⟩
/-- What was told of a row, and what is new, are all that is known. -/
def GoodR (T : List TabT) (r : RowT) : Prop :=
  (r.told = 0 ∧ r.fresh = r.all ∧ tFind r.key r.win T = none) ∨ (0 < r.told ∧ ∃ a, tFind r.key r.win T = some a ∧ (1 ≤ a.n ∧ a.n ≤ 1000) ∧ aggB a r.fresh = r.all)
structure TInv (late m : Int) (l : List RowT) (T : List TabT) : Prop where
  rise : Rise T
  good : ∀ r, r ∈ l → GoodR T r
  cov : ∀ t, t ∈ T → (∃ r, r ∈ l ∧ IsR t.key t.win r) ∨ t.win.e + late ≤ m
def putR (T : List TabT) (r : RowT) : List TabT := tPut (RT r) T
theorem told_step {piece : Bool} {T : List TabT} {r : RowT} {kind : Int} (h : GoodR T r) (hk : ¬ kind = 3) : ofStep piece T (paneP piece r kind) = putR T r := by
  unfold ofStep
  rw [if_neg (show ¬ (paneP piece r kind).kind = 3 from hk)]
  have e : ofAgg piece T (paneP piece r kind) = r.all := by
    unfold ofAgg
    cases piece with
    | false => rw [if_neg (by simp)]; rfl
    | true =>
      rw [if_pos rfl]
      show aggB ((tFind r.key r.win T).getD zAgg) r.fresh = r.all
      rcases h with ⟨_, h2, h3⟩ | ⟨_, a, h2, _, h3⟩
      · rw [h3]; exact h2
      · rw [h2]; exact h3
  rw [e]; rfl
def tellT (m : Int) (T : List TabT) (r : RowT) : List TabT := if m < r.win.e then T else putR T r
theorem kindT_ne (r : RowT) : ¬ kindT r = 3 := by unfold kindT; split <;> decide
theorem tellS_T {j : JobT} {m : Int} {T : List TabT} {r : RowT} (h : GoodR T r) : (tellS j m r).2.foldl (ofStep j.piece) T = tellT m T r := by
  unfold tellS tellT
  split
  · rfl
  · exact told_step h (kindT_ne r)
def outR (T : List TabT) (r : RowT) : List TabT := tOut r.key r.win T
theorem gone_T (piece : Bool) : ∀ (l : List RowT) (T : List TabT), (goneL l).foldl (ofStep piece) T = (l.filter fun r => decide (0 < r.told)).foldl outR T
  | [], T => rfl
  | r :: l, T => by
    unfold goneL
    rw [List.filter_cons]
    cases h : decide (0 < r.told) with
    | false => exact gone_T piece l T
    | true => exact gone_T piece l (outR T r)
theorem aggB_assoc {a f : AggT} {v : Int} (ha : 1 ≤ a.n ∧ a.n ≤ 1000) (hf : 0 ≤ f.n ∧ f.n ≤ 1000) : aggB a (aggAdd f v) = aggAdd (aggB a f) v := by
  unfold aggAdd
  by_cases h : f.n = 0
  · have e1 : aggB f (agg1 v) = agg1 v := by unfold aggB; rw [if_pos h]
    have e2 : aggB a f = a := by unfold aggB; rw [if_neg (by omega), if_pos h]
    rw [e1, e2]
  · obtain ⟨an, az, al, am⟩ := a
    obtain ⟨fn, fs, fl, fm⟩ := f
    simp only at ha hf h
    have w1 : w64 (fn + 1) = fn + 1 := w64_id (by omega)
    have w2 : w64 (an + fn) = an + fn := w64_id (by omega)
    unfold aggB agg1
    simp only [if_neg h, show ¬ (1 : Int) = 0 by decide, if_false, w1, show ¬ an = 0 by omega, show ¬ fn + 1 = 0 by omega, w2, show ¬ an + fn = 0 by omega]
    refine AggT.mk.injEq .. ▸ ⟨?_, ?_, ?_, ?_⟩
    · rw [show an + (fn + 1) = an + fn + 1 by omega]
    · unfold w64; simp only [IntKind.wrap_i64]; omega
    · split <;> split <;> (try split) <;> (try split) <;> omega
    · split <;> split <;> (try split) <;> (try split) <;> omega
theorem aggB_zr {a : AggT} (h : 1 ≤ a.n) : aggB a zAgg = a := by
  unfold aggB; rw [if_neg (by omega), if_pos (show zAgg.n = 0 from rfl)]
theorem good_add {T : List TabT} {r : RowT} {v : Int} (h : GoodR T r) (hf : 0 ≤ r.fresh.n ∧ r.fresh.n ≤ 1000) : GoodR T (addR r v) := by
  rcases h with ⟨h1, h2, h3⟩ | ⟨h1, a, h2, h3, h4⟩
  · refine .inl ⟨h1, ?_, h3⟩
    show aggAdd r.fresh v = aggAdd r.all v
    rw [h2]
  · refine .inr ⟨h1, a, h2, h3, ?_⟩
    show aggB a (aggAdd r.fresh v) = aggAdd r.all v
    rw [aggB_assoc h3 hf, h4]
theorem good_told {T : List TabT} {r : RowT} (ht : 0 ≤ r.told ∧ r.told ≤ 1500) (hn : 1 ≤ r.all.n ∧ r.all.n ≤ 1000) : GoodR (putR T r) (toldR r) := by
  refine .inr ⟨?_, r.all, tFind_put_same (RT r) T, hn, aggB_zr hn.1⟩
  show 0 < w64 (r.told + 1)
  rw [w64_id (by omega)]; omega
theorem good_other {T : List TabT} {r q : RowT} (h : GoodR T r) (hn : ¬ IsR r.key r.win q) : GoodR (putR T q) r := by
  have e : tFind r.key r.win (putR T q) = tFind r.key r.win T := tFind_put_other (r := RT q) hn T
  unfold GoodR
  rw [e]; exact h
theorem tell_TI {late m : Int} {j : JobT} {l : List RowT} {T : List TabT} {r : RowT} (hT : Rise T) (ho : ∀ q, q ∈ l → ¬ IsR r.key r.win q → GoodR T q) (hc : ∀ t, t ∈ T → (∃ q, q ∈ l ∧ IsR t.key t.win q) ∨ IsRow r.key r.win t ∨ t.win.e + late ≤ m) (hg : GoodR T r) (ht : 0 ≤ r.told ∧ r.told ≤ 1500) (hn : 1 ≤ r.all.n ∧ r.all.n ≤ 1000) :
    TInv late m (rPut (tellS j m r).1 l) (tellT m T r) := by
  obtain ⟨_, e2, e3⟩ := tellS_all j m r
  have hR : ∀ q, IsR (tellS j m r).1.key (tellS j m r).1.win q ↔ IsR r.key r.win q := fun q => by rw [e2, e3]
  have hself : IsR r.key r.win (tellS j m r).1 := ⟨e2, by rw [e3], by rw [e3]⟩
  have hcov : ∀ t : TabT, ((∃ q, q ∈ l ∧ IsR t.key t.win q) ∨ IsRow r.key r.win t) → ∃ q, q ∈ rPut (tellS j m r).1 l ∧ IsR t.key t.win q := fun t h => by
    have hs : ∀ h : IsRow r.key r.win t, ∃ q, q ∈ rPut (tellS j m r).1 l ∧ IsR t.key t.win q := fun h => ⟨_, mem_rPut.2 (.inl rfl), by unfold IsR at *; unfold IsRow at h; omega⟩
    rcases h with ⟨q, hq, hi⟩ | h
    · by_cases hb : IsR r.key r.win q
      · exact hs (by unfold IsRow; unfold IsR at *; omega)
      · exact ⟨q, mem_rPut.2 (.inr ⟨hq, fun hx => hb ((hR q).1 hx)⟩), hi⟩
    · exact hs h
  by_cases hm : m < r.win.e
  · have e : tellT m T r = T := by unfold tellT; rw [if_pos hm]
    have e1 : (tellS j m r).1 = r := by unfold tellS; rw [if_pos hm]
    rw [e]
    refine ⟨hT, fun q hq => ?_, fun t ht => ?_⟩
    · rcases mem_rPut.1 hq with rfl | ⟨hq, hb⟩
      · rw [e1]; exact hg
      · exact ho q hq fun hx => hb ((hR q).2 hx)
    · rcases hc t ht with h | h | h
      · exact .inl (hcov t (.inl h))
      · exact .inl (hcov t (.inr h))
      · exact .inr h
  · have e : tellT m T r = putR T r := by unfold tellT; rw [if_neg hm]
    have e1 : (tellS j m r).1 = toldR r := by unfold tellS; rw [if_neg hm]
    rw [e]
    refine ⟨rise_tPut hT, fun q hq => ?_, fun t ht => ?_⟩
    · rcases mem_rPut.1 hq with rfl | ⟨hq, hb⟩
      · rw [e1]; exact good_told ht hn
      · have hb2 : ¬ IsR r.key r.win q := fun hx => hb ((hR q).2 hx)
        exact good_other (ho q hq hb2) fun hx => hb2 (by unfold IsR at *; omega)
    · rcases mem_tPut.1 ht with rfl | ⟨ht, _⟩
      · exact .inl (hcov _ (.inr ⟨rfl, rfl, rfl⟩))
      · rcases hc t ht with h | h | h
        · exact .inl (hcov t (.inl h))
        · exact .inl (hcov t (.inr h))
        · exact .inr h
def intoT (m k v : Int) (w : WinT) (l : List RowT) (T : List TabT) : List TabT := tellT m T (addR ((rFind k w l).getD (nrow k w)) v)
/-- A value put into a window. -/
theorem into_TI {j : JobT} {m k v : Int} {w : WinT} {l : List RowT} {T : List TabT} {q : List RowT × List PaneT} (hT : TInv j.late m l T) (h : ∀ r, r ∈ l → RowOkP j r m ∧ r.all.n ≤ 999) (hlw : w64 (w.e + j.late) = w.e + j.late) (he : intoL j m k v w l = some q) :
    q.2.foldl (ofStep j.piece) T = intoT m k v w l T ∧ TInv j.late m q.1 (intoT m k v w l T) := by
  unfold intoL at he
  split at he
  · cases he
  · rename_i hm
    rw [hlw] at hm
    cases he
    obtain ⟨r0, hr0⟩ : ∃ r0, r0 = (rFind k w l).getD (nrow k w) := ⟨_, rfl⟩
    unfold intoT
    rw [← hr0]
    have hkw : IsR k w r0 := by rw [hr0]; exact getD_is
    obtain ⟨ek, ew⟩ := isR_eq hkw
    have hb : GoodR T (addR r0 v) ∧ (0 ≤ r0.told ∧ r0.told ≤ 1500) ∧ (1 ≤ (addR r0 v).all.n ∧ (addR r0 v).all.n ≤ 1000) := by
      cases hf : rFind k w l with
      | some r =>
        rw [hf] at hr0
        have hr0 : r0 = r := hr0
        obtain ⟨h1, _⟩ := rfind_mem hf
        obtain ⟨h2, h3⟩ := h r h1
        have n1 := rowOk_n h2
        have n2 := aggOk_n h2.2.2.2.1
        rw [hr0]
        have e : (aggAdd r.all v).n = r.all.n + 1 := add_n (by omega)
        refine ⟨good_add (hT.good r h1) n2, h2.2.2.2.2.2.2.1, ?_⟩
        show 1 ≤ (aggAdd r.all v).n ∧ (aggAdd r.all v).n ≤ 1000
        rw [e]; omega
      | none =>
        rw [hf] at hr0
        have hr0 : r0 = nrow k w := hr0
        rw [hr0]
        refine ⟨.inl ⟨rfl, rfl, ?_⟩, ⟨Int.le_refl _, (by decide : (0 : Int) ≤ 1500)⟩, (by decide : (1 : Int) ≤ 1), (by decide : (1 : Int) ≤ 1000)⟩
        show tFind k w T = none
        cases hc : tFind k w T with
        | none => rfl
        | some a =>
          obtain ⟨t, ht, hi, _⟩ := tFind_some hc
          rcases hT.cov t ht with ⟨r, hr, hri⟩ | hcl
          · exact absurd (show IsR k w r by unfold IsR at *; unfold IsRow at hi; omega) (rfind_no hf hr)
          · unfold IsRow at hi; omega
    refine ⟨tellS_T hb.1, tell_TI hT.rise (fun q hq _ => hT.good q hq) (fun t ht => (hT.cov t ht).imp id .inr) hb.1 hb.2.1 hb.2.2⟩
end Go.Rk
/- What panes tell behind sessions and marks. -/
namespace Go.Rk
set_option linter.unusedSimpArgs false
set_option linter.unusedVariables false
theorem out_find {T : List TabT} {k : Int} {w : WinT} : ∀ (D : List RowT) (T : List TabT), (∀ o, o ∈ D → ¬ IsR k w o) → tFind k w (D.foldl outR T) = tFind k w T
  | [], _, _ => rfl
  | o :: D, T, h => by
    rw [List.foldl_cons, out_find (T := T) D (outR T o) fun x hx => h x (List.mem_cons_of_mem _ hx)]
    exact tFind_out_other (fun q hq hq2 => h o (by simp) (by unfold IsR; unfold IsRow at hq hq2; omega)) T
theorem out_mem : ∀ (D : List RowT) (T : List TabT) (t : TabT), t ∈ D.foldl outR T ↔ t ∈ T ∧ ∀ o, o ∈ D → ¬ IsR t.key t.win o
  | [], T, t => by simp
  | o :: D, T, t => by
    rw [List.foldl_cons, out_mem D (outR T o) t]
    unfold outR
    rw [tOut_in]
    have e : IsRow o.key o.win t ↔ IsR t.key t.win o := by unfold IsRow IsR; omega
    rw [e]
    constructor
    · rintro ⟨⟨h1, h2⟩, h3⟩
      refine ⟨h1, fun x hx => ?_⟩
      rcases List.mem_cons.1 hx with rfl | hx
      · exact h2
      · exact h3 x hx
    · rintro ⟨h1, h2⟩
      exact ⟨⟨h1, h2 o (by simp)⟩, fun x hx => h2 x (List.mem_cons_of_mem _ hx)⟩
theorem out_rise : ∀ (D : List RowT) (T : List TabT), Rise T → Rise (D.foldl outR T)
  | [], _, h => h
  | o :: D, T, h => out_rise D (outR T o) (rise_tOut h)
def sessRow (k v : Int) (w : WinT) (l : List RowT) : RowT := ⟨k, spanL w (oldL k w l), ((oldL k w l).map (·.all)).foldl aggB (agg1 v), ((oldL k w l).map (·.all)).foldl aggB (agg1 v), 0, false⟩
def sessT (m k v : Int) (w : WinT) (l : List RowT) (T : List TabT) : List TabT :=
  if oneB (spanL w (oldL k w l)) (oldL k w l) = true then intoT m k v (spanL w (oldL k w l)) l T
  else tellT m (((oldL k w l).filter fun r => decide (0 < r.told)).foldl outR T) (sessRow k v w l)
theorem one_old {k : Int} {w : WinT} {l : List RowT} (h1 : oneB (spanL w (oldL k w l)) (oldL k w l) = true) : ∃ o, oldL k w l = [o] ∧ o ∈ l ∧ IsR k (spanL w (oldL k w l)) o := by
  obtain ⟨o, ho⟩ : ∃ o, oldL k w l = [o] := by
    cases h : oldL k w l with
    | nil => rw [h] at h1; cases h1
    | cons a r => cases r with
      | nil => exact ⟨a, rfl⟩
      | cons _ _ => rw [h] at h1; cases h1
  have hm : o ∈ oldL k w l := by rw [ho]; simp
  obtain ⟨o1, o2, _⟩ := old_mem hm
  refine ⟨o, ho, o1, o2, ?_⟩
  have h2 := h1
  rw [show oneB (spanL w (oldL k w l)) (oldL k w l) = oneB (spanL w (oldL k w l)) [o] by rw [ho]] at h2
  exact of_decide_eq_true h2
/-- A value put into a session. -/
theorem sess_TI {j : JobT} {m k v : Int} {w : WinT} {l : List RowT} {T : List TabT} {q : List RowT × List PaneT} (hj : JobOkP j) (h3 : j.kind = 3) (hol : OkL j m l) (hT : TInv j.late m l T) (hw : WinOkP w) (hv : -9 ≤ v ∧ v ≤ 9) (hS : sumN l ≤ 990) (he : sessL j m k v w l = some q) :
    q.2.foldl (ofStep j.piece) T = sessT m k v w l T ∧ TInv j.late m q.1 (sessT m k v w l T) := by
  have hnn : ∀ r, r ∈ l → 0 ≤ r.all.n := fun r hr => by have := rowOk_n (hol.1 r hr); omega
  have hsp := span_ok (k := k) hol.1 hw
  have hlw := late_w hj hsp
  unfold sessL at he
  unfold sessT
  split at he
  · cases he
  · rename_i hm
    rw [hlw] at hm
    split at he
    · rename_i h1
      rw [if_pos h1]
      exact into_TI hT (fun r hr => ⟨hol.1 r hr, Int.le_trans (sumN_mem hnn hr) (by omega)⟩) hlw he
    · rename_i h1
      rw [if_neg h1]
      cases he
      obtain ⟨r0, hr0⟩ : ∃ r0, r0 = sessRow k v w l := ⟨_, rfl⟩
      have hr0' : r0 = ⟨k, spanL w (oldL k w l), ((oldL k w l).map (·.all)).foldl aggB (agg1 v), ((oldL k w l).map (·.all)).foldl aggB (agg1 v), 0, false⟩ := hr0
      rw [← hr0, ← hr0']
      obtain ⟨T1, hT1⟩ : ∃ T1, T1 = ((oldL k w l).filter fun r => decide (0 < r.told)).foldl outR T := ⟨_, rfl⟩
      show (goneL (oldL k w l) ++ (tellS j m r0).2).foldl (ofStep j.piece) T = tellT m _ r0 ∧ TInv j.late m (rPut (tellS j m r0).1 (restL k w l)) (tellT m _ r0)
      rw [List.foldl_append, gone_T, ← hT1]
      have hkey : r0.key = k := by rw [hr0']
      have hwin : r0.win = spanL w (oldL k w l) := by rw [hr0']
      have hsplit := sumN_split k w l
      have hrn : 0 ≤ sumN (restL k w l) := sumN_nn fun r hr => hnn r (rest_mem hr).1
      have hsum : sumI (((oldL k w l).map (·.all)).map (·.n)) = sumN (oldL k w l) := by rw [List.map_map]; rfl
      have hon : 0 ≤ sumN (oldL k w l) := sumN_nn fun r hr => hnn r (old_mem hr).1
      have hf := aggOk_fold ((oldL k w l).map (·.all)) (agg1 v) (aggOk_one hv) (fun b hb => by
        obtain ⟨r, hr, rfl⟩ := List.mem_map.1 hb
        exact (hol.1 r (old_mem hr).1).2.2.1) (by rw [hsum]; show (1 : Int) + _ ≤ _; omega)
      have hn0 : r0.all.n = 1 + sumN (oldL k w l) := by rw [hr0']; rw [hsum] at hf; exact hf.2
      -- nothing of the new session is in the table
      have hnew : ∀ t, t ∈ T1 → ¬ IsRow k (spanL w (oldL k w l)) t := fun t ht hi => by
        rw [hT1, out_mem] at ht
        rcases hT.cov t ht.1 with ⟨r, hr, hri⟩ | hcl
        · have hri2 : IsR k (spanL w (oldL k w l)) r := by unfold IsR at *; unfold IsRow at hi; omega
          have hin := span_in w (oldL k w l) w ⟨Int.le_refl _, Int.le_refl _⟩
          have hwd := winOk_d hw
          have hro : r ∈ oldL k w l := old_in hr hri2.1 (by unfold TouchP; unfold IsR at hri2; omega)
          have hto : ¬ 0 < r.told := fun h => ht.2 r (List.mem_filter.2 ⟨hro, decide_eq_true h⟩) hri
          rcases hT.good r hr with ⟨_, _, h3⟩ | ⟨h2, _⟩
          · exact tFind_no h3 t ht.1 (by unfold IsRow; unfold IsR at hri; omega)
          · exact hto h2
        · unfold IsRow at hi; omega
      have hg : GoodR T1 r0 := by
        refine .inl ⟨by rw [hr0'], by rw [hr0'], ?_⟩
        rw [hkey, hwin]
        cases hc : tFind k (spanL w (oldL k w l)) T1 with
        | none => rfl
        | some a =>
          obtain ⟨t, ht, hi, _⟩ := tFind_some hc
          exact absurd hi (hnew t ht)
      refine ⟨tellS_T hg, tell_TI (by rw [hT1]; exact out_rise _ _ hT.rise) (fun q hq _ => ?_) (fun t ht => ?_) hg (by rw [hr0']; exact ⟨Int.le_refl _, (by decide : (0 : Int) ≤ 1500)⟩) (by rw [hn0]; omega)⟩
      · obtain ⟨h1, h2⟩ := rest_mem hq
        have hg := hT.good q h1
        have e : tFind q.key q.win T1 = tFind q.key q.win T := by
          rw [hT1]
          refine out_find (T := T) _ _ fun o ho hi => ?_
          obtain ⟨o1, o2, o3⟩ := old_mem (List.mem_filter.1 ho).1
          obtain ⟨i1, i2⟩ := isR_eq hi
          exact h2 ⟨i1.symm.trans o2, by rw [← i2]; exact o3⟩
        unfold GoodR
        rw [e]; exact hg
      · rw [hT1, out_mem] at ht
        rcases hT.cov t ht.1 with ⟨r, hr, hri⟩ | hcl
        · by_cases hto : tchR k w r = true
          · exfalso
            have hro : r ∈ oldL k w l := List.mem_filter.2 ⟨hr, hto⟩
            have hto : ¬ 0 < r.told := fun h => ht.2 r (List.mem_filter.2 ⟨hro, decide_eq_true h⟩) hri
            rcases hT.good r hr with ⟨_, _, h3⟩ | ⟨h2, _⟩
            · exact tFind_no h3 t ht.1 (by unfold IsRow; unfold IsR at hri; omega)
            · exact hto h2
          · exact .inl ⟨r, List.mem_filter.2 ⟨hr, by simpa using hto⟩, hri⟩
        · exact .inr (.inr hcl)
/-- All that is due is told. -/
theorem due_fold {piece : Bool} : ∀ (D : List RowT) (T : List TabT), RiseR D → (∀ r, r ∈ D → GoodR T r) → Rise T →
    (D.map fun r => paneP piece r 1).foldl (ofStep piece) T = D.foldl putR T ∧ Rise (D.foldl putR T) ∧
    (∀ k w, (∀ r, r ∈ D → ¬ IsR k w r) → tFind k w (D.foldl putR T) = tFind k w T) ∧ (∀ r, r ∈ D → tFind r.key r.win (D.foldl putR T) = some r.all) ∧
    ∀ t, t ∈ D.foldl putR T → (∃ r, r ∈ D ∧ t = RT r) ∨ t ∈ T
  | [], T, _, _, hT => ⟨rfl, hT, fun _ _ _ => rfl, fun r hr => absurd hr (by simp), fun t ht => .inr ht⟩
  | d :: D, T, hr, hg, hT => by
    rw [RiseR, List.pairwise_cons] at hr
    have hne : ∀ x, x ∈ D → ¬ IsR x.key x.win d := fun x hx hc => ra_ne (hr.1 x hx) hc ⟨rfl, rfl, rfl⟩
    have e : ofStep piece T (paneP piece d 1) = putR T d := told_step (hg d (by simp)) (by decide)
    obtain ⟨i1, i2, i3, i4, i5⟩ := due_fold (piece := piece) D (putR T d) hr.2 (fun x hx => good_other (hg x (List.mem_cons_of_mem _ hx)) (hne x hx)) (rise_tPut hT)
    refine ⟨?_, i2, fun k w h => ?_, fun x hx => ?_, fun t ht => ?_⟩
    · rw [List.map_cons, List.foldl_cons, List.foldl_cons, e]; exact i1
    · rw [List.foldl_cons, i3 k w fun x hx => h x (List.mem_cons_of_mem _ hx)]
      exact tFind_put_other (r := RT d) (h d (by simp)) T
    · rw [List.foldl_cons]
      rcases List.mem_cons.1 hx with rfl | hx
      · rw [i3 x.key x.win fun y hy hc => hne y hy (by unfold IsR at *; omega)]
        exact tFind_put_same (RT x) T
      · exact i4 x hx
    · rw [List.foldl_cons] at ht
      rcases i5 t ht with ⟨x, hx, rfl⟩ | h
      · exact .inl ⟨x, List.mem_cons_of_mem _ hx, rfl⟩
      · rcases mem_tPut.1 h with rfl | ⟨h, _⟩
        · exact .inl ⟨d, by simp, rfl⟩
        · exact .inr h
def markT (mk m : Int) (l : List RowT) (T : List TabT) : List TabT := if m ≤ mk then T else (l.filter (dueB m)).foldl putR T
theorem mark_TI {j : JobT} {mk m : Int} {l : List RowT} {T : List TabT} (hj : JobOkP j) (hol : OkL j mk l) (hT : TInv j.late mk l T) :
    (markL j mk l m).2.2.foldl (ofStep j.piece) T = markT mk m l T ∧ TInv j.late (markL j mk l m).1 (markL j mk l m).2.1 (markT mk m l T) := by
  unfold markL markT
  by_cases hle : m ≤ mk
  · rw [if_pos hle, if_pos hle]; exact ⟨rfl, hT⟩
  · rw [if_neg hle, if_neg hle]
    obtain ⟨i1, i2, i3, i4, i5⟩ := due_fold (piece := j.piece) (l.filter (dueB m)) T (List.Pairwise.filter _ hol.2.1) (fun r hr => hT.good r (List.mem_filter.1 hr).1) hT.rise
    have huniq : ∀ r, r ∈ l → ∀ q, q ∈ l → IsR r.key r.win q → r = q := fun r hr q hq h => by
      have e1 := rfind_in hol.2.1 hr ⟨rfl, rfl, rfl⟩
      have e2 := rfind_in hol.2.1 hq h
      rw [e1] at e2
      exact Option.some.inj e2
    refine ⟨i1, i2, fun r hr => ?_, fun t ht => ?_⟩
    · obtain ⟨q, hq, ho, rfl⟩ := keepL_mem.1 hr
      have hro := hol.1 q hq
      cases hd : dueB m q with
      | true =>
        have e : markR m q = toldR q := by unfold markR; rw [if_pos hd]
        rw [e]
        refine .inr ⟨?_, q.all, i4 q (List.mem_filter.2 ⟨hq, hd⟩), rowOk_n hro, aggB_zr (rowOk_n hro).1⟩
        show 0 < w64 (q.told + 1)
        have := hro.2.2.2.2.2.2.1
        rw [w64_id (by omega)]; omega
      | false =>
        have e : markR m q = q := by unfold markR; rw [if_neg (by rw [hd]; simp)]
        rw [e]
        have e2 := i3 q.key q.win fun r hr hc => by
          obtain ⟨h1, h2⟩ := List.mem_filter.1 hr
          have := huniq q hq r h1 hc
          rw [this, h2] at hd; cases hd
        unfold GoodR
        rw [e2]
        exact hT.good q hq
    · have hkeep : ∀ q, q ∈ l → IsR t.key t.win q → (∃ r, r ∈ keepL j.late m l ∧ IsR t.key t.win r) ∨ t.win.e + j.late ≤ m := fun q hq hi => by
        cases ho : overB j.late m q with
        | false =>
          refine .inl ⟨markR m q, keepL_mem.2 ⟨q, hq, ho, rfl⟩, ?_⟩
          unfold IsR at *
          rw [(markR_all m q).2.1, (markR_all m q).2.2]; exact hi
        | true =>
          refine .inr ?_
          unfold overB at ho
          have h9 := of_decide_eq_true ho
          rw [late_w hj (hol.1 q hq).2.1] at h9
          unfold IsR at hi; omega
      rcases i5 t ht with ⟨r, hr, rfl⟩ | h
      · exact hkeep r (List.mem_filter.1 hr).1 ⟨rfl, rfl, rfl⟩
      · rcases hT.cov t h with ⟨q, hq, hi⟩ | hcl
        · exact hkeep q hq hi
        · exact .inr (by show t.win.e + j.late ≤ m; omega)
end Go.Rk
/- Whether panes have all or but what is new, they tell the same. -/
namespace Go.Rk
set_option linter.unusedSimpArgs false
set_option linter.unusedVariables false
def stepTT (j : JobT) (m : Int) (x : ItmT) (w : WinT) (l : List RowT) (T : List TabT) : List TabT := if j.kind = 3 then sessT m x.key x.v w l T else intoT m x.key x.v w l T
def tkT (j : JobT) (m : Int) (x : ItmT) : List WinT → List RowT → List TabT → List TabT
  | [], _, T => T
  | w :: ws, l, T => match stepT j m x w l with
    | none => tkT j m x ws l T
    | some q => tkT j m x ws q.1 (stepTT j m x w l T)
theorem recP_kv {x : ItmT} (h : RecP x) : (0 ≤ x.key ∧ x.key ≤ 3) ∧ (-9 ≤ x.v ∧ x.v ≤ 9) := by
  have h2 := h.2
  have h1 := h.1
  unfold ItmOkP at h2
  omega
theorem take_TI {j : JobT} {m : Int} {x : ItmT} (hj : JobOkP j) (hx : RecP x) : ∀ (ws : List WinT) (l : List RowT) (a : List PaneT) (c : List LatT) (T : List TabT) (B S : Int), OkL j m l → (∀ w, w ∈ ws → WinOkP w) → (j.kind = 3 → ws.length ≤ 1) → 0 ≤ B → B + (ws.length : Int) ≤ 900 → 0 ≤ S → S + (ws.length : Int) ≤ 900 →
    (∀ r, r ∈ l → r.all.n ≤ B ∧ r.told ≤ S) → sumN l + (ws.length : Int) ≤ 900 → TInv j.late m l T →
    ∃ ps, (ws.foldl (takeS j m x) (l, a, c)).2.1 = a ++ ps ∧ ps.foldl (ofStep j.piece) T = tkT j m x ws l T ∧ TInv j.late m (ws.foldl (takeS j m x) (l, a, c)).1 (tkT j m x ws l T) := by
  intro ws
  have hxv := recP_kv hx
  induction ws with
  | nil => intro l a c T B S _ _ _ _ _ _ _ _ _ hT; exact ⟨[], by simp, rfl, hT⟩
  | cons w ws ih =>
    intro l a c T B S hol hw h3 hB hB2 hS hS2 hb hsum hT
    have hg : ((w :: ws).length : Int) = (ws.length : Int) + 1 := rfl
    rw [hg] at hB2 hS2 hsum
    have hws := fun u hu => hw u (List.mem_cons_of_mem _ hu)
    have hw0 := hw w (by simp)
    rw [List.foldl_cons]
    have e : tkT j m x (w :: ws) l T = match stepT j m x w l with | none => tkT j m x ws l T | some q => tkT j m x ws q.1 (stepTT j m x w l T) := rfl
    rw [e]
    cases hq : stepT j m x w l with
    | none =>
      rw [takeS_none (a := (l, a, c)) hq]
      exact ih l a (c ++ [(⟨x, w⟩ : LatT)]) T B S hol hws (fun h => by have := h3 h; simp at this; rw [this]; simp) hB (by omega) hS (by omega) hb (by omega) hT
    | some q =>
      rw [takeS_some (a := (l, a, c)) hq]
      have he := hq
      unfold stepT at he
      by_cases hk : j.kind = 3
      · rw [if_pos hk] at he
        have hnil : ws = [] := by have := h3 hk; simp at this; exact this
        subst hnil
        obtain ⟨t1, t2⟩ := sess_TI hj hk hol hT hw0 hxv.2 (by omega) he
        have e2 : stepTT j m x w l T = sessT m x.key x.v w l T := by unfold stepTT; rw [if_pos hk]
        rw [e2]
        exact ⟨q.2, rfl, t1, t2⟩
      · rw [if_neg hk] at he
        obtain ⟨t1, t2⟩ := into_TI hT (fun r hr => ⟨hol.1 r hr, Int.le_trans (hb r hr).1 (by omega)⟩) (late_w hj hw0) he
        obtain ⟨c1, c2, _⟩ := into_ok (B := B) (T := S) hol hxv.1 hxv.2 hw0 (by omega) (by omega) hb (fun h => absurd h hk) he
        have e2 : stepTT j m x w l T = intoT m x.key x.v w l T := by unfold stepTT; rw [if_neg hk]
        rw [e2]
        have hs := (into_sum (B := 900) hol.2.1 (by omega) (fun r hr => ⟨(rowOk_n (hol.1 r hr)).1, Int.le_trans (hb r hr).1 (by omega)⟩) he).1
        obtain ⟨ps, p1, p2, p3⟩ := ih q.1 (a ++ q.2) c _ (B + 1) (S + 1) c1 hws (fun h => absurd h hk) (by omega) (by omega) (by omega) (by omega) c2 (by omega) t2
        refine ⟨q.2 ++ ps, ?_, ?_, p3⟩
        · rw [p1, List.append_assoc]
        · rw [List.foldl_append, t1]; exact p2
theorem tinv_nil (late m : Int) : TInv late m [] [] := ⟨List.Pairwise.nil, fun r hr => absurd hr (by simp), fun t ht => absurd ht (by simp)⟩
/-- The table of all panes so far. -/
theorem ofL_app (piece : Bool) (l ps : List PaneT) : ofL piece (l ++ ps) = ps.foldl (ofStep piece) (ofL piece l) := by unfold ofL; rw [List.foldl_append]
def fedT (j : JobT) (a : Int × List RowT × List PaneT × List LatT) (x : ItmT) (T : List TabT) : List TabT :=
  if x.kind = 2 then markT a.1 x.t a.2.1 T else tkT j a.1 x (winsL j x.t) a.2.1 T
theorem fed_TI_step {j : JobT} {B : Int} {a : Int × List RowT × List PaneT × List LatT} {x : ItmT} (hj : JobOkP j) (h : FI j B a) (hB : 0 ≤ B ∧ B ≤ 260) (hx : LogX x) (hT : TInv j.late a.1 a.2.1 (ofL j.piece a.2.2.1)) :
    ofL j.piece (fedS j a x).2.2.1 = fedT j a x (ofL j.piece a.2.2.1) ∧ TInv j.late (fedS j a x).1 (fedS j a x).2.1 (ofL j.piece (fedS j a x).2.2.1) := by
  unfold fedS fedT
  rcases logX_kind hx with ⟨hk, ht⟩ | ⟨hk, hr⟩
  · rw [if_pos hk, if_pos hk]
    obtain ⟨m1, m2⟩ := mark_TI (m := x.t) hj h.ok hT
    show ofL j.piece (a.2.2.1 ++ _) = _ ∧ TInv _ _ _ (ofL j.piece (a.2.2.1 ++ _))
    rw [ofL_app, m1]
    exact ⟨rfl, m2⟩
  · rw [if_neg hk, if_neg hk]
    have hr' := recP_t hr
    have hw4 := winsL_len4 hj hr'
    have hbd := h.bd
    have hnn : ∀ r, r ∈ a.2.1 → 0 ≤ r.all.n := fun r hr => (hbd.2 r hr).1
    obtain ⟨ps, p1, p2, p3⟩ := take_TI hj hr (winsL j x.t) a.2.1 [] [] (ofL j.piece a.2.2.1) B B h.ok (fun w hw => winsL_ok hj hr' hw) (fun h3 => by rw [winsL_sess h3 (by unfold JobOkP at hj; omega) hr'.1 hr'.2]; exact Nat.le_refl _) hB.1 (by omega) hB.1 (by omega) (fun r hr => ⟨Int.le_trans (sumN_mem hnn hr) hbd.1, (hbd.2 r hr).2⟩) (by have := hbd.1; omega) hT
    have p1 : (takeL j a.1 x (winsL j x.t) a.2.1).2.1 = ps := by unfold takeL; rw [p1]; rfl
    show ofL j.piece (a.2.2.1 ++ (takeL j a.1 x (winsL j x.t) a.2.1).2.1) = _ ∧ TInv _ _ _ (ofL j.piece (a.2.2.1 ++ (takeL j a.1 x (winsL j x.t) a.2.1).2.1))
    rw [p1, ofL_app, p2]
    exact ⟨rfl, p3⟩
theorem fed_TI {j : JobT} (hj : JobOkP j) : ∀ (l : List ItmT), (∀ x, x ∈ l → LogX x) → l.length ≤ 60 → TInv j.late (fedL j l).1 (fedL j l).2.1 (ofL j.piece (fedL j l).2.2.1) := by
  refine snocInd (fun _ _ => tinv_nil _ _) fun l x ih h hl => ?_
  rw [List.length_append] at hl
  have hl : l.length + 1 ≤ 60 := hl
  have hxs := fun y hy => h y (List.mem_append_left [x] hy)
  rw [fedL_snoc]
  exact (fed_TI_step hj (fi_fed hj l hxs (by omega)) (by omega) (h x (by simp)) (ih hxs (by omega))).2
/-! ## Two jobs that differ in that alone -/
def strip (p : PaneT) : PaneT := { p with agg := zAgg }
structure SameP (j k : JobT) (a b : Int × List RowT × List PaneT × List LatT) : Prop where
  mrk : a.1 = b.1
  rows : a.2.1 = b.2.1
  panes : a.2.2.1.map strip = b.2.2.1.map strip
  lates : a.2.2.2 = b.2.2.2
  tab : ofL j.piece a.2.2.1 = ofL k.piece b.2.2.1
end Go.Rk
/- What is known behind records and marks: what was told, and what still stands open. -/
namespace Go.Rk
set_option linter.unusedSimpArgs false
set_option linter.unusedVariables false
structure KInv (late m : Int) (l : List RowT) (T K : List TabT) : Prop where
  rise : Rise K
  row : ∀ r, r ∈ l → RT r ∈ K
  out : ∀ t, t ∈ K → (∃ r, r ∈ l ∧ t = RT r) ∨ (t ∈ T ∧ t.win.e + late ≤ m)
  tab : ∀ t, t ∈ T → (∃ r, r ∈ l ∧ IsR t.key t.win r) ∨ t ∈ K
theorem kinv_nil (late m : Int) : KInv late m [] [] [] := ⟨List.Pairwise.nil, fun r hr => absurd hr (by simp), fun t ht => absurd ht (by simp), fun t ht => absurd ht (by simp)⟩
theorem RT_row {k : Int} {w : WinT} {r : RowT} : IsRow k w (RT r) ↔ IsR k w r := Iff.rfl
theorem kinv_end {late m : Int} {T K : List TabT} (hT : Rise T) (h : KInv late m [] T K) : K = T := by
  refine sorted_ext ahead_irr ahead_tr h.rise hT fun t => ⟨fun ht => ?_, fun ht => ?_⟩
  · rcases h.out t ht with ⟨r, hr, _⟩ | h
    · exact absurd hr (by simp)
    · exact h.1
  · rcases h.tab t ht with ⟨r, hr, _⟩ | h
    · exact absurd hr (by simp)
    · exact h
/-- One row more, in the place of some. -/
theorem put_K {j : JobT} {late m : Int} {l l1 : List RowT} {T T1 K K1 : List TabT} {r : RowT} (h : KInv late m l T K) (hl : ∀ q, q ∈ l1 → q ∈ l) (hk : Rise K1) (hk1 : ∀ t, t ∈ K1 → t ∈ K)
    (ho : ∀ q, q ∈ l → q ∉ l1 → ¬ IsR r.key r.win q → RT q ∉ K1 ∧ ∀ t, t ∈ T1 → IsR t.key t.win q → False) (hs : ∀ q, q ∈ l1 → ¬ IsR r.key r.win q → RT q ∈ K1)
    (hc : ∀ t, t ∈ K → t.win.e + late ≤ m → ¬ IsRow r.key r.win t → (t ∈ T → t ∈ T1) ∧ (t ∈ K1 ∨ ∃ q, q ∈ l ∧ t = RT q)) (ht1 : ∀ t, t ∈ T1 → t ∈ T)
    (hnw : m < r.win.e + late) (hnl : ∀ q, q ∈ l → m < q.win.e + late) :
    KInv late m (rPut (tellS j m r).1 l1) (tellT m T1 r) (tPut (RT r) K1) := by
  obtain ⟨e1, e2, e3⟩ := tellS_all j m r
  have hR : ∀ q, IsR (tellS j m r).1.key (tellS j m r).1.win q ↔ IsR r.key r.win q := fun q => by rw [e2, e3]
  have eT : RT (tellS j m r).1 = RT r := by unfold RT; rw [e1, e2, e3]
  have hself : IsR r.key r.win (tellS j m r).1 := ⟨e2, by rw [e3], by rw [e3]⟩
  have hin : ∀ t : TabT, IsRow r.key r.win t → ∃ q, q ∈ rPut (tellS j m r).1 l1 ∧ IsR t.key t.win q := fun t ht => ⟨_, mem_rPut.2 (.inl rfl), by unfold IsR at *; unfold IsRow at ht; omega⟩
  have hT1 : ∀ t, t ∈ tellT m T1 r → t = RT r ∨ (t ∈ T1) := fun t ht => by
    unfold tellT at ht
    split at ht
    · exact .inr ht
    · rcases mem_tPut.1 ht with h | h
      · exact .inl h
      · exact .inr h.1
  have hT2 : ∀ t, t ∈ T1 → ¬ IsRow r.key r.win t → t ∈ tellT m T1 r := fun t ht hn => by
    unfold tellT
    split
    · exact ht
    · exact mem_tPut.2 (.inr ⟨ht, hn⟩)
  refine ⟨rise_tPut hk, fun q hq => ?_, fun t ht => ?_, fun t ht => ?_⟩
  · rcases mem_rPut.1 hq with rfl | ⟨hq, hn⟩
    · rw [eT]; exact mem_tPut.2 (.inl rfl)
    · have hn : ¬ IsR r.key r.win q := fun hx => hn ((hR q).2 hx)
      exact mem_tPut.2 (.inr ⟨hs q hq hn, hn⟩)
  · rcases mem_tPut.1 ht with rfl | ⟨ht, hn⟩
    · exact .inl ⟨_, mem_rPut.2 (.inl rfl), eT.symm⟩
    · have hn : ¬ IsRow r.key r.win t := hn
      rcases h.out t (hk1 t ht) with ⟨q, hq, rfl⟩ | ⟨h1, h2⟩
      · have hn : ¬ IsR r.key r.win q := hn
        by_cases hq1 : q ∈ l1
        · exact .inl ⟨q, mem_rPut.2 (.inr ⟨hq1, fun hx => hn ((hR q).1 hx)⟩), rfl⟩
        · exact absurd ht (ho q hq hq1 hn).1
      · exact .inr ⟨hT2 t ((hc t (hk1 t ht) h2 hn).1 h1) hn, h2⟩
  · rcases hT1 t ht with rfl | ht
    · exact .inl ⟨_, mem_rPut.2 (.inl rfl), hself⟩
    · by_cases hn : IsRow r.key r.win t
      · exact .inl (hin t hn)
      · rcases h.tab t (ht1 t ht) with ⟨q, hq, hi⟩ | hK
        · by_cases hq1 : q ∈ l1
          · exact .inl ⟨q, mem_rPut.2 (.inr ⟨hq1, fun hx => hn (by unfold IsRow; unfold IsR at *; omega)⟩), hi⟩
          · exact ((ho q hq hq1 (fun hx => hn (by unfold IsRow; unfold IsR at *; omega))).2 t ht hi).elim
        · rcases h.out t hK with ⟨q, hq, rfl⟩ | ⟨_, h2⟩
          · by_cases hq1 : q ∈ l1
            · exact .inl ⟨q, mem_rPut.2 (.inr ⟨hq1, fun hx => hn ((hR q).1 hx)⟩), ⟨rfl, rfl, rfl⟩⟩
            · exact ((ho q hq hq1 (fun hx => hn hx)).2 _ ht ⟨rfl, rfl, rfl⟩).elim
          · rcases (hc t hK h2 hn).2 with h9 | ⟨q, hq, rfl⟩
            · exact .inr (mem_tPut.2 (.inr ⟨h9, hn⟩))
            · have := hnl q hq
              have : (RT q).win.e = q.win.e := rfl
              omega
/-- A value put into a window that stands open, or is new. -/
theorem into_K {j : JobT} {m k v : Int} {w : WinT} {l : List RowT} {T K : List TabT} {q : List RowT × List PaneT} (hnl : ∀ q, q ∈ l → m < q.win.e + j.late) (hK : KInv j.late m l T K) (hlw : w64 (w.e + j.late) = w.e + j.late) (he : intoL j m k v w l = some q) :
    KInv j.late m q.1 (intoT m k v w l T) (stepW k w v K) := by
  unfold intoL at he
  split at he
  · cases he
  · rename_i hm
    rw [hlw] at hm
    cases he
    obtain ⟨r0, hr0⟩ : ∃ r0, r0 = (rFind k w l).getD (nrow k w) := ⟨_, rfl⟩
    unfold intoT
    rw [← hr0]
    obtain ⟨ek, ew⟩ := isR_eq (show IsR k w r0 by rw [hr0]; exact getD_is)
    have eK : (tFind k w K).getD zAgg = r0.all := by
      cases hf : rFind k w l with
      | some r =>
        rw [hf] at hr0
        have hr0 : r0 = r := hr0
        obtain ⟨h1, h2⟩ := rfind_mem hf
        rw [tFind_rise hK.rise (hK.row r h1) h2, hr0]; rfl
      | none =>
        rw [hf] at hr0
        have hr0 : r0 = nrow k w := hr0
        have : tFind k w K = none := by
          cases hc : tFind k w K with
          | none => rfl
          | some a =>
            obtain ⟨t, ht, hi, _⟩ := tFind_some hc
            rcases hK.out t ht with ⟨r, hr, rfl⟩ | ⟨_, hcl⟩
            · exact absurd hi (rfind_no hf hr)
            · unfold IsRow at hi; omega
        rw [this, hr0]; rfl
    have eR : RT (addR r0 v) = ⟨k, w, aggAdd ((tFind k w K).getD zAgg) v⟩ := by
      rw [eK]; unfold RT addR; simp only; rw [ek, ew]
    unfold stepW
    rw [← eR]
    refine put_K (T1 := T) (K1 := K) hK (fun _ h => h) hK.rise (fun _ h => h) (fun q hq hq1 _ => absurd hq hq1) (fun q hq _ => hK.row q hq) (fun t ht _ _ => ⟨id, .inl ht⟩) (fun _ h => h) ?_ hnl
    show m < r0.win.e + j.late
    rw [ew]; omega
/-- The sessions that stand open and touch. -/
def sessK (late m k v : Int) (w : WinT) (K : List TabT) : List TabT :=
  tPut ⟨k, ((K.filter fun t => tchD k w t && decide (m < t.win.e + late)).map (·.win)).foldl winSpan w, ((K.filter fun t => tchD k w t && decide (m < t.win.e + late)).map (·.agg)).foldl aggB (agg1 v)⟩ (K.filter fun t => !(tchD k w t && decide (m < t.win.e + late)))
theorem old_K {late m k : Int} {w : WinT} {l : List RowT} {T K : List TabT} (hr : RiseR l) (hnl : ∀ q, q ∈ l → m < q.win.e + late) (hK : KInv late m l T K) : (K.filter fun t => tchD k w t && decide (m < t.win.e + late)) = (oldL k w l).map RT := by
  refine sorted_ext ahead_irr ahead_tr (hK.rise.sublist List.filter_sublist) ?_ fun t => ?_
  · have h1 : RiseR (oldL k w l) := List.Pairwise.filter _ hr
    rw [List.pairwise_map]
    exact h1.imp fun h => h
  · rw [List.mem_filter, List.mem_map]
    constructor
    · rintro ⟨h1, h2⟩
      rw [Bool.and_eq_true, decide_eq_true_eq] at h2
      obtain ⟨h2, h3⟩ := h2
      rcases hK.out t h1 with ⟨r, hr, rfl⟩ | ⟨_, hcl⟩
      · refine ⟨r, ?_, rfl⟩
        unfold tchD at h2
        have h2 := of_decide_eq_true h2
        exact old_in hr h2.1 h2.2
      · omega
    · rintro ⟨r, hr, rfl⟩
      obtain ⟨h1, h2, h3⟩ := old_mem hr
      refine ⟨hK.row r h1, ?_⟩
      rw [Bool.and_eq_true, decide_eq_true_eq]
      exact ⟨decide_eq_true ⟨h2, h3⟩, hnl r h1⟩
theorem sessK_eq {late m k v : Int} {w : WinT} {l : List RowT} {T K : List TabT} (hr : RiseR l) (hnl : ∀ q, q ∈ l → m < q.win.e + late) (hK : KInv late m l T K) :
    sessK late m k v w K = tPut (RT (sessRow k v w l)) (K.filter fun t => !(tchD k w t && decide (m < t.win.e + late))) := by
  unfold sessK
  rw [old_K hr hnl hK, List.map_map, List.map_map, List.foldl_map]
  rfl
end Go.Rk
/- What is known behind sessions and marks, and how many values that is. -/
namespace Go.Rk
set_option linter.unusedSimpArgs false
set_option linter.unusedVariables false
theorem aggB_one {a : AggT} {v : Int} (h : 1 ≤ a.n ∧ a.n ≤ 1000) : aggB (agg1 v) a = aggAdd a v := by
  obtain ⟨an, az, al, am⟩ := a
  simp only at h
  unfold aggAdd aggB agg1
  simp only [show ¬ (1 : Int) = 0 by decide, if_false, show ¬ an = 0 by omega]
  refine AggT.mk.injEq .. ▸ ⟨?_, ?_, ?_, ?_⟩
  · rw [Int.add_comm]
  · rw [Int.add_comm]
  · split <;> split <;> omega
  · split <;> split <;> omega
def sessKK (late m k v : Int) (w : WinT) (l : List RowT) (K : List TabT) : List TabT := if oneB (spanL w (oldL k w l)) (oldL k w l) = true then stepW k (spanL w (oldL k w l)) v K else sessK late m k v w K
theorem open_of {j : JobT} {m : Int} {l : List RowT} (hj : JobOkP j) (h : ∀ r, r ∈ l → RowOkP j r m) : ∀ q, q ∈ l → m < q.win.e + j.late := fun q hq => by
  have h1 := h q hq
  have h2 := h1.2.2.2.2.2.2.2.1
  have h3 := late_w hj h1.2.1
  unfold w64 at h3
  omega
theorem sess_K {j : JobT} {m k v : Int} {w : WinT} {l : List RowT} {T K : List TabT} {q : List RowT × List PaneT} (hj : JobOkP j) (hol : OkL j m l) (hT : TInv j.late m l T) (hK : KInv j.late m l T K) (hw : WinOkP w) (he : sessL j m k v w l = some q) :
    KInv j.late m q.1 (sessT m k v w l T) (sessKK j.late m k v w l K) := by
  have hnl := open_of hj hol.1
  have hlw := late_w hj (span_ok (k := k) hol.1 hw)
  unfold sessL at he
  unfold sessT sessKK
  split at he
  · cases he
  · rename_i hm
    rw [hlw] at hm
    split at he
    · rename_i h1
      rw [if_pos h1, if_pos h1]
      exact into_K hnl hK hlw he
    · rename_i h1
      rw [if_neg h1, if_neg h1]
      cases he
      rw [sessK_eq hol.2.1 hnl hK]
      refine put_K (r := sessRow k v w l) (l1 := restL k w l) hK (fun q hq => (rest_mem hq).1) (hK.rise.sublist List.filter_sublist) (fun t ht => (List.mem_filter.1 ht).1) (fun q hq hq1 _ => ?_) (fun q hq _ => ?_) (fun t ht hcl _ => ?_) (fun t ht => ((out_mem _ _ _).1 ht).1) (by show m < (spanL w (oldL k w l)).e + j.late; omega) hnl
      · have hto : tchR k w q = true := by
          cases h : tchR k w q with
          | true => rfl
          | false => exact absurd (List.mem_filter.2 ⟨hq, by simp [h]⟩) hq1
        have hqo : q ∈ oldL k w l := List.mem_filter.2 ⟨hq, hto⟩
        refine ⟨fun hc => ?_, fun t ht hi => ?_⟩
        · have h2 := (List.mem_filter.1 hc).2
          have e1 : tchD k w (RT q) = true := hto
          have e2 : decide (m < (RT q).win.e + j.late) = true := decide_eq_true (hnl q hq)
          rw [e1, e2] at h2
          cases h2
        · rw [out_mem] at ht
          have hto : ¬ 0 < q.told := fun h => ht.2 q (List.mem_filter.2 ⟨hqo, decide_eq_true h⟩) hi
          rcases hT.good q hq with ⟨_, _, h3⟩ | ⟨h2, _⟩
          · exact tFind_no h3 t ht.1 (by unfold IsRow; unfold IsR at hi; omega)
          · exact hto h2
      · obtain ⟨h2, h3⟩ := rest_mem hq
        refine List.mem_filter.2 ⟨hK.row q h2, ?_⟩
        have e1 : tchD k w (RT q) = false := decide_eq_false h3
        rw [e1]; rfl
      · refine ⟨fun h => (out_mem _ _ _).2 ⟨h, fun o ho hi => ?_⟩, .inl (List.mem_filter.2 ⟨ht, ?_⟩)⟩
        · have h2 := hnl o (old_mem (List.mem_filter.1 ho).1).1
          unfold IsR at hi; omega
        · rw [decide_eq_false (show ¬ m < t.win.e + j.late by omega), Bool.and_false]; rfl
/-- A session, where nothing that is closed touches: as the records' own table grows. -/
theorem sess_S {j : JobT} {m k v : Int} {w : WinT} {l : List RowT} {T K : List TabT} (hj : JobOkP j) (hol : OkL j m l) (hK : KInv j.late m l T K) (hw : WinOkP w) (hp : ¬ w.s + j.late < m) : sessKK j.late m k v w l K = sessS k w v K := by
  have hnl := open_of hj hol.1
  have hwd := winOk_d hw
  have e1 : (fun t : TabT => tchD k w t && decide (m < t.win.e + j.late)) = tchD k w := funext fun t => by
    cases h : tchD k w t with
    | false => rfl
    | true =>
      unfold tchD at h
      have := of_decide_eq_true h
      rw [decide_eq_true (show m < t.win.e + j.late by omega)]; rfl
  have e2 : (fun t : TabT => !(tchD k w t && decide (m < t.win.e + j.late))) = fun t => !tchD k w t := funext fun t => by rw [show (tchD k w t && decide (m < t.win.e + j.late)) = tchD k w t from congrFun e1 t]
  have eF := old_K (k := k) (w := w) hol.2.1 hnl hK
  rw [e1] at eF
  unfold sessKK
  split
  · rename_i h1
    obtain ⟨o, ho, hol1, hi⟩ := one_old h1
    obtain ⟨ek, ew⟩ := isR_eq hi
    have hn := rowOk_n (hol.1 o hol1)
    unfold sessS stepW
    rw [eF, ho, tFind_rise hK.rise (hK.row o hol1) (RT_row.2 (by rw [ho] at hi; exact hi))]
    have es : spanL w [o] = o.win := by rw [ho] at ew; exact ew.symm
    rw [es]
    have ex : (([o].map RT).map (·.win)).foldl winSpan w = o.win := es
    have ea : (([o].map RT).map (·.agg)).foldl aggB (agg1 v) = aggAdd o.all v := aggB_one hn
    rw [ex, ea]
    show tPut ⟨k, o.win, aggAdd o.all v⟩ K = _
    refine sorted_ext ahead_irr ahead_tr (rise_tPut hK.rise) (rise_tPut (hK.rise.sublist List.filter_sublist)) fun t => ?_
    rw [mem_tPut, mem_tPut, List.mem_filter]
    constructor
    · rintro (h | ⟨h2, h3⟩)
      · exact .inl h
      · refine .inr ⟨⟨h2, ?_⟩, h3⟩
        cases ht : tchD k w t with
        | false => rfl
        | true =>
          have hm : t ∈ K.filter (tchD k w) := List.mem_filter.2 ⟨h2, ht⟩
          rw [eF, ho] at hm
          simp at hm
          exact absurd (show IsRow k o.win t by rw [hm]; exact ⟨ek, rfl, rfl⟩) h3
    · rintro (h | ⟨h2, h3⟩)
      · exact .inl h
      · exact .inr ⟨h2.1, h3⟩
  · unfold sessK sessS
    rw [e1, e2]
/-! ## How many values -/
theorem cnt_put {K : List TabT} {r : TabT} (h : Rise K) : tCnt (tPut r K) = tCnt K + r.agg.n - ((tFind r.key r.win K).getD zAgg).n := by
  unfold tPut
  rw [tCnt_ins]
  have := tCnt_out (key := r.key) (w := r.win) h
  omega
def NK (K : List TabT) : Prop := ∀ t, t ∈ K → 0 ≤ t.agg.n ∧ t.agg.n ≤ 1000
theorem into_C {k v : Int} {w : WinT} {K : List TabT} (hr : Rise K) (hn : NK K) : tCnt (stepW k w v K) = tCnt K + 1 := by
  unfold stepW
  rw [cnt_put hr]
  have hb : 0 ≤ ((tFind k w K).getD zAgg).n ∧ ((tFind k w K).getD zAgg).n ≤ 1000 := by
    cases h : tFind k w K with
    | none => exact ⟨Int.le_refl _, by decide⟩
    | some a =>
      obtain ⟨t, ht, _, rfl⟩ := tFind_some h
      exact hn t ht
  have e : (aggAdd ((tFind k w K).getD zAgg) v).n = ((tFind k w K).getD zAgg).n + 1 := add_n (by omega)
  show tCnt K + (aggAdd ((tFind k w K).getD zAgg) v).n - ((tFind k w K).getD zAgg).n = _
  omega
theorem cnt_RT (l : List RowT) : tCnt (l.map RT) = sumN l := by
  induction l with
  | nil => rfl
  | cons r l ih => show r.all.n + tCnt (l.map RT) = r.all.n + sumN l; rw [ih]
theorem sess_C {j : JobT} {m k v : Int} {w : WinT} {l : List RowT} {T K : List TabT} (hj : JobOkP j) (hol : OkL j m l) (hK : KInv j.late m l T K) (hn : NK K) (hw : WinOkP w) (hv : -9 ≤ v ∧ v ≤ 9) (hS : sumN l ≤ 990) (hm : m < (spanL w (oldL k w l)).e + j.late) : tCnt (sessKK j.late m k v w l K) = tCnt K + 1 := by
  have hnl := open_of hj hol.1
  have hnn : ∀ r, r ∈ l → 0 ≤ r.all.n := fun r hr => by have := rowOk_n (hol.1 r hr); omega
  unfold sessKK
  split
  · exact into_C hK.rise hn
  · rw [sessK_eq hol.2.1 hnl hK, cnt_put (hK.rise.sublist List.filter_sublist)]
    have hp := tCnt_parts (fun t => tchD k w t && decide (m < t.win.e + j.late)) K
    rw [old_K hol.2.1 hnl hK, cnt_RT] at hp
    have hsplit := sumN_split k w l
    have hrn : 0 ≤ sumN (restL k w l) := sumN_nn fun r hr => hnn r (rest_mem hr).1
    have hsum : sumI (((oldL k w l).map (·.all)).map (·.n)) = sumN (oldL k w l) := by rw [List.map_map]; rfl
    have hf := aggOk_fold ((oldL k w l).map (·.all)) (agg1 v) (aggOk_one hv) (fun b hb => by
      obtain ⟨r, hr, rfl⟩ := List.mem_map.1 hb
      exact (hol.1 r (old_mem hr).1).2.2.1) (by rw [hsum]; show (1 : Int) + _ ≤ _; omega)
    have hn0 : (sessRow k v w l).all.n = 1 + sumN (oldL k w l) := by rw [hsum] at hf; exact hf.2
    have hno : tFind (RT (sessRow k v w l)).key (RT (sessRow k v w l)).win (K.filter fun t => !(tchD k w t && decide (m < t.win.e + j.late))) = none := by
      cases hc : tFind (RT (sessRow k v w l)).key (RT (sessRow k v w l)).win (K.filter fun t => !(tchD k w t && decide (m < t.win.e + j.late))) with
      | none => rfl
      | some a =>
        exfalso
        obtain ⟨t, ht, hi, _⟩ := tFind_some hc
        obtain ⟨h1, h2⟩ := List.mem_filter.1 ht
        have hi : IsRow k (spanL w (oldL k w l)) t := hi
        have hin := span_in w (oldL k w l) w ⟨Int.le_refl _, Int.le_refl _⟩
        have hwd := winOk_d hw
        have e1 : tchD k w t = true := decide_eq_true (by unfold IsRow at hi; omega)
        have e2 : decide (m < t.win.e + j.late) = true := decide_eq_true (by unfold IsRow at hi; omega)
        rw [e1, e2] at h2
        cases h2
    rw [hno]
    have e : (RT (sessRow k v w l)).agg.n = 1 + sumN (oldL k w l) := hn0
    have e0 : ((none : Option AggT).getD zAgg).n = 0 := rfl
    rw [e, e0]
    omega
/-! ## Marks -/
theorem mark_K {j : JobT} {mk m : Int} {l : List RowT} {T K : List TabT} (hj : JobOkP j) (hol : OkL j mk l) (hT : TInv j.late mk l T) (hK : KInv j.late mk l T K) :
    KInv j.late (markL j mk l m).1 (markL j mk l m).2.1 (markT mk m l T) K := by
  unfold markL markT
  by_cases hle : m ≤ mk
  · rw [if_pos hle, if_pos hle]; exact hK
  · rw [if_neg hle, if_neg hle]
    obtain ⟨i1, i2, i3, i4, i5⟩ := due_fold (piece := j.piece) (l.filter (dueB m)) T (List.Pairwise.filter _ hol.2.1) (fun r hr => hT.good r (List.mem_filter.1 hr).1) hT.rise
    have huniq : ∀ r, r ∈ l → ∀ q, q ∈ l → IsR r.key r.win q → r = q := fun r hr q hq h => by
      have e1 := rfind_in hol.2.1 hr ⟨rfl, rfl, rfl⟩
      have e2 := rfind_in hol.2.1 hq h
      rw [e1] at e2
      exact Option.some.inj e2
    have hall : ∀ r, r ∈ l → r.win.e ≤ m → tFind r.key r.win ((l.filter (dueB m)).foldl putR T) = some r.all := fun r hr hm => by
      have hro := hol.1 r hr
      cases hd : dueB m r with
      | true => exact i4 r (List.mem_filter.2 ⟨hr, hd⟩)
      | false =>
        rw [i3 r.key r.win fun q hq hc => by
          obtain ⟨h1, h2⟩ := List.mem_filter.1 hq
          have := huniq r hr q h1 hc
          rw [this, h2] at hd; cases hd]
        unfold dueB at hd
        rw [decide_eq_true hm, Bool.and_true] at hd
        have ht : r.timely = true := by simpa using hd
        have hem := hro.2.2.2.2.2.2.2.2.1.1 ht
        have hf0 := hro.2.2.2.2.2.2.2.2.2.2.2 hem
        have hto := hro.2.2.2.2.2.2.2.2.2.1.2 hem
        rcases hT.good r hr with ⟨h1, _⟩ | ⟨_, a, h2, h3, h4⟩
        · omega
        · rw [h2, ← h4, aggOk_zero hro.2.2.2.1 hf0, aggB_zr h3.1]
    have hRTin : ∀ r, r ∈ l → r.win.e ≤ m → RT r ∈ (l.filter (dueB m)).foldl putR T := fun r hr hm => by
      obtain ⟨t, ht, hi, ha⟩ := tFind_some (hall r hr hm)
      have : t = RT r := by
        obtain ⟨tk, ⟨ts, te⟩, ta⟩ := t
        obtain ⟨rk, ⟨rs, re⟩, ra, _, _, _⟩ := r
        unfold IsRow at hi
        simp only at *
        obtain ⟨rfl, rfl, rfl⟩ := hi
        subst ha; rfl
      rw [← this]; exact ht
    have hove : ∀ q, q ∈ l → overB j.late m q = true → q.win.e + j.late ≤ m := fun q hq ho => by
      unfold overB at ho
      have h9 := of_decide_eq_true ho
      rw [late_w hj (hol.1 q hq).2.1] at h9
      omega
    have hj0 : 0 ≤ j.late := by unfold JobOkP at hj; omega
    have hkeep : ∀ q, q ∈ l → overB j.late m q = false → ∃ r, r ∈ keepL j.late m l ∧ RT q = RT r ∧ IsR q.key q.win r := fun q hq ho => by
      obtain ⟨a1, a2, a3⟩ := markR_all m q
      exact ⟨markR m q, keepL_mem.2 ⟨q, hq, ho, rfl⟩, by unfold RT; rw [a1, a2, a3], by unfold IsR; rw [a2, a3]; exact ⟨rfl, rfl, rfl⟩⟩
    have hTT : ∀ t, t ∈ T → (∀ r, r ∈ l → ¬ IsR t.key t.win r) → t ∈ (l.filter (dueB m)).foldl putR T := fun t ht hn => by
      have e := i3 t.key t.win fun r hr => hn r (List.mem_filter.1 hr).1
      have e2 := tFind_rise hT.rise ht ⟨rfl, rfl, rfl⟩
      rw [e2] at e
      obtain ⟨u, hu, hi, ha⟩ := tFind_some e
      have : u = t := by
        obtain ⟨tk, ⟨ts, te⟩, ta⟩ := t
        obtain ⟨uk, ⟨us, ue⟩, ua⟩ := u
        unfold IsRow at hi
        simp only at *
        obtain ⟨rfl, rfl, rfl⟩ := hi
        subst ha; rfl
      rw [← this]; exact hu
    refine ⟨hK.rise, fun r hr => ?_, fun t ht => ?_, fun t ht => ?_⟩
    · obtain ⟨q, hq, ho, rfl⟩ := keepL_mem.1 hr
      obtain ⟨a1, a2, a3⟩ := markR_all m q
      have : RT (markR m q) = RT q := by unfold RT; rw [a1, a2, a3]
      rw [this]; exact hK.row q hq
    · rcases hK.out t ht with ⟨q, hq, rfl⟩ | ⟨h1, h2⟩
      · cases ho : overB j.late m q with
        | false => obtain ⟨r, hr, e, _⟩ := hkeep q hq ho; exact .inl ⟨r, hr, e⟩
        | true => exact .inr ⟨hRTin q hq (by have := hove q hq ho; omega), hove q hq ho⟩
      · refine .inr ⟨hTT t h1 fun r hr hi => ?_, by show t.win.e + j.late ≤ m; omega⟩
        have := open_of hj hol.1 r hr
        unfold IsR at hi; omega
    · have hcase : ∀ q, q ∈ l → IsR t.key t.win q → (∃ r, r ∈ keepL j.late m l ∧ IsR t.key t.win r) ∨ t ∈ K := fun q hq hi => by
        cases ho : overB j.late m q with
        | false =>
          obtain ⟨r, hr, _, hi2⟩ := hkeep q hq ho
          exact .inl ⟨r, hr, by unfold IsR at *; omega⟩
        | true =>
          have h1 := hRTin q hq (by have := hove q hq ho; omega)
          have : t = RT q := rise_two i2 ht h1 (by unfold IsRow; unfold IsR at hi; exact ⟨by show q.key = _; omega, by show q.win.s = _; omega, by show q.win.e = _; omega⟩)
          exact .inr (by rw [this]; exact hK.row q hq)
      rcases i5 t ht with ⟨r, hr, rfl⟩ | h
      · exact hcase r (List.mem_filter.1 hr).1 ⟨rfl, rfl, rfl⟩
      · rcases hK.tab t h with ⟨q, hq, hi⟩ | hk
        · exact hcase q hq hi
        · exact .inr hk
end Go.Rk
/- Tables of records hang on no order. -/
namespace Go.Rk
set_option linter.unusedSimpArgs false
set_option linter.unusedVariables false
def gl (m : Nat) (g : Nat → ItmT) : List ItmT := (List.range m).map g
def pairsOf (j : JobT) (l : List ItmT) : List LatT := l.flatMap fun x => (winsL j x.t).map fun w => ⟨x, w⟩
theorem pairs_gl (j : JobT) (g : Nat → ItmT) : ∀ m, pairsL j g m = pairsOf j (gl m g)
  | 0 => rfl
  | m + 1 => by
    unfold pairsL gl pairsOf
    rw [List.range_succ, List.map_append, List.flatMap_append, pairs_gl j g m]
    simp [pairsOf, gl]
end Go.Rk
/- What is known behind a log: the table of all that was taken. -/
namespace Go.Rk
set_option linter.unusedSimpArgs false
set_option linter.unusedVariables false
def Pos (K : List TabT) : Prop := ∀ t, t ∈ K → 0 ≤ t.agg.n
theorem pos_cnt {K : List TabT} (h : Pos K) {t : TabT} (ht : t ∈ K) : t.agg.n ≤ tCnt K := by
  induction K with
  | nil => simp at ht
  | cons q K ih =>
    have h1 := h q (by simp)
    have h2 : Pos K := fun x hx => h x (List.mem_cons_of_mem _ hx)
    have h3 : 0 ≤ tCnt K := by
      clear ih ht h h1
      induction K with
      | nil => exact Int.le_refl _
      | cons a K ih =>
        have := h2 a (by simp)
        have := ih fun x hx => h2 x (List.mem_cons_of_mem _ hx)
        show 0 ≤ a.agg.n + tCnt K
        omega
    show t.agg.n ≤ q.agg.n + tCnt K
    rcases List.mem_cons.1 ht with rfl | ht
    · omega
    · have := ih h2 ht
      omega
def kStep (j : JobT) (m : Int) (x : ItmT) (w : WinT) (l : List RowT) (K : List TabT) : List TabT := if j.kind = 3 then sessKK j.late m x.key x.v w l K else stepW x.key w x.v K
theorem pos_stepW {k v : Int} {w : WinT} {K : List TabT} (h : Pos K) (hn : NK K) : Pos (stepW k w v K) := fun t ht => by
  rcases mem_tPut.1 ht with rfl | ⟨ht, _⟩
  · show 0 ≤ (aggAdd ((tFind k w K).getD zAgg) v).n
    have hb : 0 ≤ ((tFind k w K).getD zAgg).n ∧ ((tFind k w K).getD zAgg).n ≤ 1000 := by
      cases h : tFind k w K with
      | none => exact ⟨Int.le_refl _, by decide⟩
      | some a =>
        obtain ⟨t, ht, _, rfl⟩ := tFind_some h
        exact hn t ht
    rw [add_n (by omega)]; omega
  · exact h t ht
theorem step_K {j : JobT} {m : Int} {x : ItmT} {w : WinT} {l : List RowT} {T K : List TabT} {q : List RowT × List PaneT} (hj : JobOkP j) (hx : RecP x) (hol : OkL j m l) (hT : TInv j.late m l T) (hK : KInv j.late m l T K) (hp : Pos K) (hc : tCnt K ≤ 900) (hw : WinOkP w) (hS : sumN l ≤ 900) (he : stepT j m x w l = some q) :
    KInv j.late m q.1 (stepTT j m x w l T) (kStep j m x w l K) ∧ Pos (kStep j m x w l K) ∧ tCnt (kStep j m x w l K) = tCnt K + 1 ∧ ((j.kind = 3 → ¬ w.s + j.late < m) → kStep j m x w l K = stepS j.kind K ⟨x, w⟩) := by
  have hxv := recP_kv hx
  have hn : NK K := fun t ht => ⟨hp t ht, by have := pos_cnt hp ht; omega⟩
  unfold stepT at he
  unfold stepTT kStep stepS
  by_cases hk : j.kind = 3
  · rw [if_pos hk] at he ⊢
    rw [if_pos hk, if_pos hk]
    have hm : m < (spanL w (oldL x.key w l)).e + j.late := by
      have hlw := late_w hj (span_ok (k := x.key) hol.1 hw)
      unfold sessL at he
      split at he
      · cases he
      · rw [hlw] at *; omega
    have hC := sess_C (v := x.v) hj hol hK hn hw hxv.2 (by omega) hm
    refine ⟨sess_K hj hol hT hK hw he, ?_, hC, fun h => sess_S hj hol hK hw (h hk)⟩
    unfold sessKK
    split
    · exact pos_stepW hp hn
    · rw [sessK_eq hol.2.1 (open_of hj hol.1) hK]
      intro t ht
      rcases mem_tPut.1 ht with rfl | ⟨ht, _⟩
      · have hnn : ∀ r, r ∈ l → 0 ≤ r.all.n := fun r hr => by have := rowOk_n (hol.1 r hr); omega
        have hsplit := sumN_split x.key w l
        have hrn : 0 ≤ sumN (restL x.key w l) := sumN_nn fun r hr => hnn r (rest_mem hr).1
        have hon : 0 ≤ sumN (oldL x.key w l) := sumN_nn fun r hr => hnn r (old_mem hr).1
        have hsum : sumI (((oldL x.key w l).map (·.all)).map (·.n)) = sumN (oldL x.key w l) := by rw [List.map_map]; rfl
        have hf := aggOk_fold ((oldL x.key w l).map (·.all)) (agg1 x.v) (aggOk_one hxv.2) (fun b hb => by
          obtain ⟨r, hr, rfl⟩ := List.mem_map.1 hb
          exact (hol.1 r (old_mem hr).1).2.2.1) (by rw [hsum]; show (1 : Int) + _ ≤ _; omega)
        have hn0 : (sessRow x.key x.v w l).all.n = 1 + sumN (oldL x.key w l) := by rw [hsum] at hf; exact hf.2
        show 0 ≤ (sessRow x.key x.v w l).all.n
        omega
      · exact hp t (List.mem_filter.1 ht).1
  · rw [if_neg hk] at he ⊢
    rw [if_neg hk, if_neg hk]
    exact ⟨into_K (open_of hj hol.1) hK (late_w hj hw) he, pos_stepW hp hn, into_C hK.rise hn, fun _ => rfl⟩
theorem step_late {j : JobT} {m : Int} {x : ItmT} {w : WinT} {l : List RowT} (hj : JobOkP j) (hol : OkL j m l) (hw : WinOkP w) (he : stepT j m x w l = none) : w.e + j.late ≤ m := by
  unfold stepT at he
  have into : ∀ u, WinOkP u → intoL j m x.key x.v u l = none → u.e + j.late ≤ m := fun u hu h => by
    unfold intoL at h
    split at h
    · rename_i hm; rw [late_w hj hu] at hm; exact hm
    · cases h
  split at he
  · have hsp := span_ok (k := x.key) hol.1 hw
    have hin := span_in w (oldL x.key w l) w ⟨Int.le_refl _, Int.le_refl _⟩
    unfold sessL at he
    split at he
    · rename_i hm; rw [late_w hj hsp] at hm; omega
    · split at he
      · have := into _ hsp he; omega
      · cases he
  · exact into w hw he
/-- What a record's windows come to. -/
theorem take_K {j : JobT} {m : Int} {x : ItmT} (hj : JobOkP j) (hx : RecP x) : ∀ (ws : List WinT) (l : List RowT) (a : List PaneT) (c : List LatT) (T K : List TabT) (B S : Int), OkL j m l → (∀ w, w ∈ ws → WinOkP w ∧ x.t < w.e) → (j.kind = 3 → ws.length ≤ 1 ∧ ∀ w, w ∈ ws → w.s = x.t) → 0 ≤ B → B + (ws.length : Int) ≤ 900 → 0 ≤ S → S + (ws.length : Int) ≤ 900 →
    (∀ r, r ∈ l → r.all.n ≤ B ∧ r.told ≤ S) → sumN l + (ws.length : Int) ≤ 900 → TInv j.late m l T → KInv j.late m l T K → Pos K → tCnt K + (ws.length : Int) ≤ 900 →
    ∃ (P L : List LatT) (K1 : List TabT), (ws.foldl (takeS j m x) (l, a, c)).2.2 = c ++ L ∧ (ws.map fun w => (⟨x, w⟩ : LatT)).Perm (P ++ L) ∧ KInv j.late m (ws.foldl (takeS j m x) (l, a, c)).1 (tkT j m x ws l T) K1 ∧ Pos K1 ∧ tCnt K1 = tCnt K + (P.length : Int) ∧
      ((j.kind = 3 → ¬ x.t + j.late < m) → K1 = P.foldl (stepS j.kind) K) ∧ (¬ x.t + j.late < m → L = [] ∧ P = ws.map fun w => (⟨x, w⟩ : LatT)) ∧ P.Sublist (ws.map fun w => (⟨x, w⟩ : LatT)) := by
  intro ws
  have hxv := recP_kv hx
  induction ws with
  | nil => intro l a c T K B S _ _ _ _ _ _ _ _ _ hT hK hp hc; exact ⟨[], [], K, by simp, by simp, hK, hp, by simp, fun _ => rfl, fun _ => ⟨rfl, rfl⟩, by simp⟩
  | cons w ws ih =>
    intro l a c T K B S hol hw h3 hB hB2 hS hS2 hb hsum hT hK hp hc
    have hg : ((w :: ws).length : Int) = (ws.length : Int) + 1 := rfl
    rw [hg] at hB2 hS2 hsum hc
    have hws := fun u hu => hw u (List.mem_cons_of_mem _ hu)
    obtain ⟨hw0, hwt⟩ := hw w (by simp)
    rw [List.foldl_cons]
    have e : tkT j m x (w :: ws) l T = match stepT j m x w l with | none => tkT j m x ws l T | some q => tkT j m x ws q.1 (stepTT j m x w l T) := rfl
    rw [e]
    have h3' : j.kind = 3 → ws.length ≤ 1 ∧ ∀ w, w ∈ ws → w.s = x.t := fun h => ⟨by have := (h3 h).1; simp at this; rw [this]; simp, fun u hu => (h3 h).2 u (List.mem_cons_of_mem _ hu)⟩
    cases hq : stepT j m x w l with
    | none =>
      rw [takeS_none (a := (l, a, c)) hq]
      obtain ⟨P, L, K1, i1, i2, i3, i4, i5, i6, i7, i8⟩ := ih l a (c ++ [(⟨x, w⟩ : LatT)]) T K B S hol hws h3' hB (by omega) hS (by omega) hb (by omega) hT hK hp (by omega)
      refine ⟨P, ⟨x, w⟩ :: L, K1, by rw [i1]; simp, ?_, i3, i4, i5, i6, fun h => ?_, ?_⟩
      · rw [List.map_cons]
        exact (i2.cons _).trans List.perm_middle.symm
      · have := step_late hj hol hw0 hq
        omega
      · exact i8.trans (List.sublist_cons_self _ _)
    | some q =>
      rw [takeS_some (a := (l, a, c)) hq]
      obtain ⟨s1, s2, s3, s4⟩ := step_K hj hx hol hT hK hp (by omega) hw0 (by omega) hq
      have he := hq
      unfold stepT at he
      by_cases hk : j.kind = 3
      · rw [if_pos hk] at he
        have hnil : ws = [] := by have := (h3 hk).1; simp at this; exact this
        subst hnil
        have hws0 := (h3 hk).2 w (by simp)
        refine ⟨[⟨x, w⟩], [], kStep j m x w l K, by simp, by simp, s1, s2, by rw [s3]; rfl, fun h => ?_, fun _ => ⟨rfl, rfl⟩, by simp⟩
        exact s4 fun _ => by rw [hws0]; exact h hk
      · rw [if_neg hk] at he
        obtain ⟨c1, c2, _⟩ := into_ok (B := B) (T := S) hol hxv.1 hxv.2 hw0 (by omega) (by omega) hb (fun h => absurd h hk) he
        obtain ⟨t1, t2⟩ := into_TI hT (fun r hr => ⟨hol.1 r hr, Int.le_trans (hb r hr).1 (by omega)⟩) (late_w hj hw0) he
        have e2 : stepTT j m x w l T = intoT m x.key x.v w l T := by unfold stepTT; rw [if_neg hk]
        rw [← e2] at t2
        have hs := (into_sum (B := 900) hol.2.1 (by omega) (fun r hr => ⟨(rowOk_n (hol.1 r hr)).1, Int.le_trans (hb r hr).1 (by omega)⟩) he).1
        obtain ⟨P, L, K1, i1, i2, i3, i4, i5, i6, i7, i8⟩ := ih q.1 (a ++ q.2) c _ _ (B + 1) (S + 1) c1 hws h3' (by omega) (by omega) (by omega) (by omega) c2 (by omega) t2 s1 s2 (by omega)
        refine ⟨⟨x, w⟩ :: P, L, K1, i1, ?_, i3, i4, ?_, fun h => ?_, fun h => ?_, ?_⟩
        · rw [List.map_cons]; exact i2.cons _
        · rw [i5, s3]; show _ = tCnt K + ((P.length + 1 : Nat) : Int); omega
        · rw [i6 h, List.foldl_cons, s4 (fun h => absurd h hk)]
        · obtain ⟨a1, a2⟩ := i7 h
          exact ⟨a1, by rw [a2]; rfl⟩
        · exact i8.cons_cons _
/-! ## A log -/
def mkF (l : List ItmT) : Int := l.foldl (fun m x => if x.kind = 2 then (if m < x.t then x.t else m) else m) 0
theorem mkF_snoc (l : List ItmT) (x : ItmT) : mkF (l ++ [x]) = if x.kind = 2 then (if mkF l < x.t then x.t else mkF l) else mkF l := by unfold mkF; rw [List.foldl_append]; rfl
def PuncP (late : Int) (l : List ItmT) : Prop := ∀ l1 x l2, l = l1 ++ x :: l2 → x.kind = 1 → ¬ x.t + late < mkF l1
theorem punc_snoc {late : Int} {l : List ItmT} {x : ItmT} (h : PuncP late (l ++ [x])) : PuncP late l ∧ (x.kind = 1 → ¬ x.t + late < mkF l) := ⟨fun l1 y l2 e => h l1 y (l2 ++ [x]) (by rw [e]; simp), h l x [] rfl⟩
theorem fed_mark (j : JobT) : ∀ l, (fedL j l).1 = mkF l := by
  refine snocInd rfl fun l x ih => ?_
  rw [fedL_snoc, mkF_snoc, ← ih]
  unfold fedS
  split
  · show (markL j (fedL j l).1 (fedL j l).2.1 x.t).1 = _
    unfold markL
    split
    · rw [if_neg (by omega)]
    · rw [if_pos (by omega)]
  · rfl
def recsK (l : List ItmT) : List ItmT := l.filter fun x => decide (x.kind = 1)
theorem recsK_snoc (l : List ItmT) (x : ItmT) : recsK (l ++ [x]) = recsK l ++ if x.kind = 1 then [x] else [] := by
  unfold recsK
  rw [List.filter_append]
  congr 1
  by_cases h : x.kind = 1
  · rw [if_pos h, List.filter_cons_of_pos (by simpa using h)]; rfl
  · rw [if_neg h, List.filter_cons_of_neg (by simpa using h)]; rfl
theorem pairsOf_snoc (j : JobT) (l : List ItmT) (x : ItmT) : pairsOf j (l ++ [x]) = pairsOf j l ++ (winsL j x.t).map fun w => (⟨x, w⟩ : LatT) := by
  unfold pairsOf
  rw [List.flatMap_append, List.flatMap_cons, List.flatMap_nil, List.append_nil]
/-- What is known behind a log. -/
structure Known (j : JobT) (l : List ItmT) (P : List LatT) (K : List TabT) : Prop where
  inv : KInv j.late (fedL j l).1 (fedL j l).2.1 (ofL j.piece (fedL j l).2.2.1) K
  pos : Pos K
  perm : (pairsOf j (recsK l)).Perm (P ++ (fedL j l).2.2.2)
  cnt : tCnt K = (P.length : Int)
  tab : (j.kind = 3 → PuncP j.late l) → K = P.foldl (stepS j.kind) []
  punc : PuncP j.late l → (fedL j l).2.2.2 = [] ∧ P = pairsOf j (recsK l)
theorem pairs_len {j : JobT} (hj : JobOkP j) : ∀ l : List ItmT, (∀ x, x ∈ l → RecP x) → (pairsOf j l).length ≤ 4 * l.length := by
  refine snocInd (fun _ => Nat.le_refl _) fun l x ih h => ?_
  rw [pairsOf_snoc, List.length_append, List.length_append, List.length_map]
  have := ih fun y hy => h y (List.mem_append_left _ hy)
  have := winsL_len4 hj (recP_t (h x (by simp)))
  simp only [List.length_singleton]
  omega
theorem recsK_rec {l : List ItmT} (h : ∀ x, x ∈ l → LogX x) : ∀ x, x ∈ recsK l → RecP x := fun x hx => by
  obtain ⟨h1, h2⟩ := List.mem_filter.1 hx
  rcases logX_kind (h x h1) with ⟨hk, _⟩ | ⟨_, hr⟩
  · have := of_decide_eq_true h2
    omega
  · exact hr
theorem recsK_len (l : List ItmT) : (recsK l).length ≤ l.length := List.length_filter_le _ _
theorem fed_K {j : JobT} (hj : JobOkP j) : ∀ (l : List ItmT), (∀ x, x ∈ l → LogX x) → l.length ≤ 60 → ∃ P K, Known j l P K := by
  refine snocInd (fun _ _ => ⟨[], [], kinv_nil _ _, fun t ht => absurd ht (by simp), List.Perm.refl _, rfl, fun _ => rfl, fun _ => ⟨rfl, rfl⟩⟩) fun l x ih h hl => ?_
  rw [List.length_append] at hl
  have hl : l.length + 1 ≤ 60 := hl
  have hxs := fun y hy => h y (List.mem_append_left [x] hy)
  obtain ⟨P, K, hi⟩ := ih hxs (by omega)
  have hfi := fi_fed hj l hxs (by omega)
  have hTI := fed_TI hj l hxs (by omega)
  have hx := h x (by simp)
  have hst := (fed_TI_step hj hfi (by omega) hx hTI).1
  have hinv := hi.inv
  rw [← fedL_snoc] at hst
  unfold fedT at hst
  rcases logX_kind hx with ⟨hk, ht⟩ | ⟨hk, hr⟩
  · rw [if_pos hk] at hst
    have hM := mark_K (m := x.t) hj hfi.ok hTI hinv
    have e : fedL j (l ++ [x]) = ((markL j (fedL j l).1 (fedL j l).2.1 x.t).1, (markL j (fedL j l).1 (fedL j l).2.1 x.t).2.1, (fedL j l).2.2.1 ++ (markL j (fedL j l).1 (fedL j l).2.1 x.t).2.2, (fedL j l).2.2.2) := by
      rw [fedL_snoc]; unfold fedS; rw [if_pos hk]
    have er : recsK (l ++ [x]) = recsK l := by rw [recsK_snoc, if_neg (by omega), List.append_nil]
    refine ⟨P, K, ?_, hi.pos, ?_, hi.cnt, fun hp => hi.tab fun h3 => (punc_snoc (hp h3)).1, fun hp => ?_⟩
    · rw [hst]
      rw [show (fedL j (l ++ [x])).1 = (markL j (fedL j l).1 (fedL j l).2.1 x.t).1 by rw [e], show (fedL j (l ++ [x])).2.1 = (markL j (fedL j l).1 (fedL j l).2.1 x.t).2.1 by rw [e]]
      exact hM
    · rw [er, show (fedL j (l ++ [x])).2.2.2 = (fedL j l).2.2.2 by rw [e]]; exact hi.perm
    · rw [er, show (fedL j (l ++ [x])).2.2.2 = (fedL j l).2.2.2 by rw [e]]; exact hi.punc (punc_snoc hp).1
  · rw [if_neg hk] at hst
    have hr' := recP_t hr
    have hw4 := winsL_len4 hj hr'
    have hbd := hfi.bd
    have hnn : ∀ r, r ∈ (fedL j l).2.1 → 0 ≤ r.all.n := fun r hr => (hbd.2 r hr).1
    have hlen := pairs_len hj (recsK l) (recsK_rec hxs)
    have hrl := recsK_len l
    have hPl : P.length ≤ 4 * l.length := by
      have := hi.perm.length_eq
      rw [List.length_append] at this
      omega
    obtain ⟨P1, L1, K1, t1, t2, t3, t4, t5, t6, t7, t8⟩ := take_K (m := (fedL j l).1) hj hr (winsL j x.t) (fedL j l).2.1 [] [] (ofL j.piece (fedL j l).2.2.1) K (4 * (l.length : Int)) (4 * (l.length : Int)) hfi.ok
      (fun w hw => ⟨winsL_ok hj hr' hw, by obtain ⟨_, h2, h3, _⟩ := winsL_mem hw; omega⟩)
      (fun h3 => by
        rw [winsL_sess h3 (by unfold JobOkP at hj; omega) hr'.1 hr'.2]
        exact ⟨Nat.le_refl _, fun w hw => by simp at hw; rw [hw]⟩)
      (by omega) (by omega) (by omega) (by omega) (fun r hr => ⟨Int.le_trans (sumN_mem hnn hr) hbd.1, (hbd.2 r hr).2⟩) (by have := hbd.1; omega) hTI hinv hi.pos (by have := hi.cnt; omega)
    rw [List.nil_append] at t1
    have e : fedL j (l ++ [x]) = ((fedL j l).1, (takeL j (fedL j l).1 x (winsL j x.t) (fedL j l).2.1).1, (fedL j l).2.2.1 ++ (takeL j (fedL j l).1 x (winsL j x.t) (fedL j l).2.1).2.1, (fedL j l).2.2.2 ++ (takeL j (fedL j l).1 x (winsL j x.t) (fedL j l).2.1).2.2) := by
      rw [fedL_snoc]; unfold fedS; rw [if_neg hk]
    have hk1 : x.kind = 1 := hr.1
    have er : pairsOf j (recsK (l ++ [x])) = pairsOf j (recsK l) ++ (winsL j x.t).map fun w => (⟨x, w⟩ : LatT) := by rw [recsK_snoc, if_pos hk1, pairsOf_snoc]
    have eL : (fedL j (l ++ [x])).2.2.2 = (fedL j l).2.2.2 ++ L1 := by rw [e]; show (fedL j l).2.2.2 ++ (takeL j (fedL j l).1 x (winsL j x.t) (fedL j l).2.1).2.2 = _; rw [show (takeL j (fedL j l).1 x (winsL j x.t) (fedL j l).2.1).2.2 = L1 from t1]
    refine ⟨P ++ P1, K1, ?_, t4, ?_, ?_, fun hp => ?_, fun hp => ?_⟩
    · rw [hst]
      rw [show (fedL j (l ++ [x])).1 = (fedL j l).1 by rw [e], show (fedL j (l ++ [x])).2.1 = (takeL j (fedL j l).1 x (winsL j x.t) (fedL j l).2.1).1 by rw [e]]
      exact t3
    · rw [er, eL]
      refine (hi.perm.append t2).trans ?_
      rw [List.append_assoc, List.append_assoc]
      refine List.Perm.append_left _ ?_
      rw [← List.append_assoc, ← List.append_assoc]
      exact List.Perm.append_right _ List.perm_append_comm
    · rw [t5, hi.cnt, List.length_append]; omega
    · rw [t6 (fun h3 => by have := (punc_snoc (hp h3)).2 hk1; rw [← fed_mark j] at this; exact this), hi.tab fun h3 => (punc_snoc (hp h3)).1, List.foldl_append]
    · obtain ⟨p1, p2⟩ := punc_snoc hp
      obtain ⟨a1, a2⟩ := hi.punc p1
      obtain ⟨b1, b2⟩ := t7 (by have := p2 hk1; rw [← fed_mark j] at this; exact this)
      rw [eL, er, a1, b1, a2, b2]
      exact ⟨rfl, rfl⟩
end Go.Rk
/- Records taken away, and logs in time: plain words. -/
namespace Go.Rk
set_option linter.unusedSimpArgs false
set_option linter.unusedVariables false
noncomputable instance itmDec : DecidableEq ItmT := fun _ _ => Classical.propDecidable _
/-- Without one record, taken away once. -/
noncomputable def lessI (l : List ItmT) (x : ItmT) : List ItmT := l.erase x
noncomputable def lessL (l m : List ItmT) : List ItmT := m.foldl lessI l
theorem lessL_snoc (l m : List ItmT) (x : ItmT) : lessL l (m ++ [x]) = lessI (lessL l m) x := by unfold lessL; rw [List.foldl_append]; rfl
theorem lessI_len (l : List ItmT) (x : ItmT) : (lessI l x).length ≤ l.length := List.erase_sublist.length_le
theorem lessL_len (l : List ItmT) : ∀ m : List ItmT, (lessL l m).length ≤ l.length := by
  refine snocInd (Nat.le_refl _) fun m x ih => ?_
  rw [lessL_snoc]
  exact Nat.le_trans (lessI_len _ _) ih
/-- The first that is as asked, or none. -/
def FirstE (n : Nat) (g : Nat → ItmT) (it : ItmT) (x : Int) : Prop := (x = -1 ∧ ∀ k, k < n → g k ≠ it) ∨ ∃ i : Nat, x = (i : Int) ∧ i < n ∧ g i = it ∧ ∀ k, k < i → g k ≠ it
theorem firstE_ex (n : Nat) (g : Nat → ItmT) (it : ItmT) : ∃ x, FirstE n g it x := by
  induction n with
  | zero => exact ⟨-1, .inl ⟨rfl, fun k hk => absurd hk (Nat.not_lt_zero k)⟩⟩
  | succ n ih =>
    obtain ⟨x, hx⟩ := ih
    rcases hx with ⟨rfl, h⟩ | ⟨i, rfl, h1, h2, h3⟩
    · by_cases hc : g n = it
      · exact ⟨(n : Int), .inr ⟨n, rfl, Nat.lt_succ_self n, hc, h⟩⟩
      · refine ⟨-1, .inl ⟨rfl, fun k hk => ?_⟩⟩
        by_cases hkn : k = n
        · rw [hkn]; exact hc
        · exact h k (by omega)
    · exact ⟨(i : Int), .inr ⟨i, rfl, by omega, h2, h3⟩⟩
theorem lst_erase_no {z : ItmT} {l : List ItmT} {n : Nat} {g : Nat → ItmT} (h : Lst z l n g) {it : ItmT} (hn : ∀ k, k < n → g k ≠ it) : lessI l it = l := by
  unfold lessI
  refine List.erase_of_not_mem fun hm => ?_
  obtain ⟨k, hk, e⟩ := List.mem_iff_getElem.1 hm
  have hkn : k < n := by rw [h.1]; exact hk
  refine hn k hkn ?_
  rw [h.2 k hkn, List.getD_eq_getElem?_getD, List.getElem?_eq_getElem hk]
  exact e
theorem erase_at : ∀ (l : List ItmT) (it : ItmT) (i : Nat), l[i]? = some it → (∀ k, k < i → l[k]? ≠ some it) → l.erase it = l.eraseIdx i
  | [], it, i, h, _ => by simp at h
  | a :: l, it, 0, h, _ => by
    simp at h
    subst h
    simp
  | a :: l, it, i + 1, h, hb => by
    have ha : a ≠ it := fun e => hb 0 (by omega) (by simp [e])
    rw [List.erase_cons_tail (by simpa using ha), List.eraseIdx_cons_succ, erase_at l it i (by simpa using h) fun k hk => by
      have := hb (k + 1) (by omega)
      simpa using this]
theorem lst_erase {z : ItmT} {l : List ItmT} {n i : Nat} {g : Nat → ItmT} (h : Lst z l n g) {it : ItmT} (hi : i < n) (hg : g i = it) (hb : ∀ k, k < i → g k ≠ it) : Lst z (lessI l it) (n - 1) (fun k => if k < i then g k else g (k + 1)) := by
  have hget : ∀ k, k < n → l[k]? = some (g k) := fun k hk => by
    have hl : k < l.length := h.1 ▸ hk
    rw [h.2 k hk, List.getD_eq_getElem?_getD, List.getElem?_eq_getElem hl]; rfl
  have e : lessI l it = l.eraseIdx i := by
    unfold lessI
    refine erase_at l it i (by rw [hget i hi, hg]) fun k hk => ?_
    rw [hget k (by omega)]
    exact fun e => hb k hk (Option.some.inj e)
  rw [e]
  refine ⟨by rw [List.length_eraseIdx_of_lt (by rw [← h.1]; exact hi), ← h.1], fun k hk => ?_⟩
  rw [List.getD_eq_getElem?_getD, List.getElem?_eraseIdx]
  by_cases hki : k < i
  · rw [if_pos hki, hget k (by omega)]; exact if_pos hki
  · rw [if_neg hki, hget (k + 1) (by omega)]; exact if_neg hki
/-! ## Logs in time, by their numbers -/
theorem punc_iff {z : ItmT} {late : Int} {l : List ItmT} {n : Nat} {g : Nat → ItmT} (h : Lst z l n g) : PuncP late l ↔ ∀ k, k < n → (g k).kind = 1 → ¬ (g k).t + late < mkF (l.take k) := by
  have hget : ∀ k, k < n → l[k]? = some (g k) := fun k hk => by
    have hl : k < l.length := h.1 ▸ hk
    rw [h.2 k hk, List.getD_eq_getElem?_getD, List.getElem?_eq_getElem hl]; rfl
  constructor
  · intro hp k hk
    have hl : k < l.length := h.1 ▸ hk
    have e : l = l.take k ++ l[k] :: l.drop (k + 1) := by rw [← List.drop_eq_getElem_cons hl, List.take_append_drop]
    have e2 : l[k] = g k := by
      have := hget k hk
      rw [List.getElem?_eq_getElem hl] at this
      exact Option.some.inj this
    rw [e2] at e
    exact hp _ _ _ e
  · intro hp l1 x l2 e
    have hl : l1.length < n := by rw [h.1, e, List.length_append, List.length_cons]; omega
    have e1 : l.take l1.length = l1 := by rw [e, List.take_left]
    have e2 : g l1.length = x := by
      have := hget _ hl
      rw [e, List.getElem?_append_right (Nat.le_refl _), Nat.sub_self] at this
      simpa using this.symm
    have := hp _ hl
    rw [e1, e2] at this
    exact this
theorem mkF_bd {l : List ItmT} (h : ∀ x, x ∈ l → LogX x) : 0 ≤ mkF l ∧ mkF l ≤ 1000 := by
  revert h
  refine snocInd (P := fun l => (∀ x, x ∈ l → LogX x) → 0 ≤ mkF l ∧ mkF l ≤ 1000) (fun _ => ⟨Int.le_refl _, by decide⟩) (fun l x ih h => ?_) l
  have h1 := ih fun y hy => h y (List.mem_append_left _ hy)
  rw [mkF_snoc]
  split
  · rename_i hk
    rcases logX_kind (h x (by simp)) with ⟨_, ht⟩ | ⟨hb, _⟩
    · split <;> omega
    · exact absurd hk hb
  · exact h1
end Go.Rk
/- Records: clone. -/
namespace Go.Rk
set_option linter.unusedSimpArgs false
set_option linter.unusedVariables false
open Go.Proofs
set_option maxRecDepth 100000
set_option maxHeartbeats 1000000
theorem c_CloneItm (n : Nat) (hn : n ≤ 1080000) (g : Nat → ItmT) : Meets Try.prog 76 [.c (.d (.sl 5 n fun i => eItm (g i)))] ⟨.one (.c (.own 5 n fun i => eItm (g i))), [none]⟩ := by
  refine meets_slice (fun h0 ad cap => ?_) (fun h1 => ?_)
  · subst h0
    cases ad with
    | none =>
      refine meets_up (res := .one (.c (.d (.v nilS)))) (UpV.nil 5 fun i => eItm (g i)) ?_
      refine meets_of (H := []) (EX := EXA) ttok mixed Try.func76 rfl (by kernel_rfl) (by decide) ?_
      generalize hA : real = A
      generalize hM : MeetsB Try.prog = M
      cbv
      repeat' first
        | exact absurd (show true = false by assumption) (by decide)
        | exact absurd (show false = true by assumption) (by decide)
        | apply And.intro
        | exact True.intro
        | with_reducible rfl
        | exact same_of hA rfl
        | refine br_of hA (fun _ => ?_) (fun _ => ?_)
        | exact imp_of hA id
        | (refine imp_of hA ?_; subst hA; simp only [real, Bool.true_and]; exact id)
        | (refine ind_of hA ?_; decide +kernel)
        | fail
    | some ad =>
      refine meets_up (res := .one (.c (.own 5 0 fun i => (real.rep ([0,0,0,0,0].map eI) i)))) (UpV.row fun i hi => absurd hi (Nat.not_lt_zero i)) ?_
      refine meets_of (H := []) (EX := EXA) ttok mixed Try.func76 rfl (by kernel_rfl) (by decide) ?_
      generalize hA : real = A
      generalize hM : MeetsB Try.prog = M
      cbv
      repeat' first
        | exact absurd (show true = false by assumption) (by decide)
        | exact absurd (show false = true by assumption) (by decide)
        | apply And.intro
        | exact True.intro
        | with_reducible rfl
        | exact same_of hA rfl
        | refine br_of hA (fun _ => ?_) (fun _ => ?_)
        | exact imp_of hA id
        | (refine imp_of hA ?_; subst hA; simp only [real, Bool.true_and]; exact id)
        | (refine ind_of hA ?_; decide +kernel)
        | exact room_z hA (by omega) (by decide)
        | fail
      exact own_cp hA (by subst hA; rfl)
  · skip
    refine meets_of (H := []) (EX := EXA) ttok mixed Try.func76 rfl (by kernel_rfl) (by decide) ?_
    generalize hA : real = A
    generalize hM : MeetsB Try.prog = M
    cbv
    repeat' first
      | exact absurd (show true = false by assumption) (by decide)
      | exact absurd (show false = true by assumption) (by decide)
      | apply And.intro
      | exact True.intro
      | with_reducible rfl
      | exact same_of hA rfl
      | refine br_of hA (fun _ => ?_) (fun _ => ?_)
      | exact imp_of hA id
      | (refine imp_of hA ?_; subst hA; simp only [real, Bool.true_and]; exact id)
      | (refine ind_of hA ?_; decide +kernel)
      | exact room_z hA (by omega) (by decide)
      | (refine inb_of hA (fun _ => ⟨by omega, by omega⟩))
      | (rename_i hb; cases hb; done)
      | fail
    exact own_cp hA rfl
end Go.Rk
/- Records: index. -/
namespace Go.Rk
set_option linter.unusedSimpArgs false
set_option linter.unusedVariables false
open Go.Proofs
set_option maxRecDepth 100000
set_option maxHeartbeats 1000000
def st_ixi (n : Nat) (g : Nat → ItmT) (it : ItmT) (i : Nat) : St := ⟨[(8, .c (.d (eI i))), (7, .c (.d (eI n))), (0, .c (.d (.sl 5 n fun i => eItm (g i)))), (3, .c (.bp 192 1 0))], [(192, 1, .box ((eItm it).map .d))]⟩
theorem c_IndexItm (n : Nat) (hn : n ≤ 1080000) (g : Nat → ItmT) (it : ItmT) (x : Int) (hx : FirstE n g it x) : Meets Try.prog 77 [.c (.d (.sl 5 n fun i => eItm (g i))), xd (eItm it)] ⟨.one (.c (.d (eI x))), [none, none]⟩ := by
  have hnL : n ≤ maxLen := Nat.le_trans hn (by decide)
  refine meets_of (H := []) (EX := EXA) ttok mixed Try.func77 rfl (by kernel_rfl) (by decide) ?_
  generalize hA : real = A
  generalize hM : MeetsB Try.prog = M
  cbv
  repeat' first
    | apply And.intro
    | exact True.intro
    | with_reducible rfl
    | exact same_of hA rfl
    | refine br_of hA (fun _ => ?_) (fun _ => ?_)
    | exact imp_of hA id
    | (refine imp_of hA ?_; subst hA; simp only [real, Bool.true_and]; exact id)
    | (refine ind_of hA ?_; decide +kernel)
    | fail
  refine loop_of hA (α := { i : Nat // i ≤ n ∧ ∀ k, k < i → g k ≠ it }) (fun y => st_ixi n g it y.1) (fun y => n - y.1) ⟨0, Nat.zero_le _, fun k hk => absurd hk (Nat.not_lt_zero k)⟩ ?_ ?_
  · refine cov_of ?_ ?_ ?_
    · cbv; try (subst hA; repeat' first | apply And.intro | exact True.intro | rfl | fail)
    · cbv; try (subst hA; repeat' first | apply And.intro | exact True.intro | rfl | (intro _ _; rfl) | (intro k hk; exact absurd hk (Nat.not_lt_zero k)) | fail)
    · cbv; try (subst hA; repeat' first | apply And.intro | exact True.intro | rfl | exact .inr trivial | exact .inl trivial)
  rintro ⟨i, hi, hb⟩
  have hi : i ≤ n := hi
  have hb : ∀ k, k < i → g k ≠ it := hb
  cbv
  repeat' first
    | apply And.intro
    | exact True.intro
    | with_reducible rfl
    | exact same_of hA rfl
    | refine br_of hA (fun _ => ?_) (fun _ => ?_)
    | exact imp_of hA id
    | (refine imp_of hA ?_; subst hA; simp only [real, Bool.true_and]; exact id)
    | (refine ind_of hA ?_; decide +kernel)
    | (refine inb_lt hA ?_; first | exact lt2_of hA (by assumption) | exact lt_of hA (by assumption))
    | fail
  · rename_i hlt he
    have hlt' : i < n := by first | exact lt2_of hA hlt | exact lt_of hA hlt
    have he' : g i = it := by
      subst hA
      have he : (it.kind == (g i).kind && (it.t == (g i).t && (it.key == (g i).key && (it.v == (g i).v && (it.n == (g i).n && true))))) = true := he
      simp only [Bool.and_eq_true, beq_iff_eq, and_true] at he
      obtain ⟨a1, a2, a3, a4, a5⟩ := he
      cases it; cases hgi : g i; rw [hgi] at a1 a2 a3 a4 a5; simp only at a1 a2 a3 a4 a5; subst a1; subst a2; subst a3; subst a4; subst a5; rfl
    subst hA
    refine congrArg (fun z => XA.one (.c (.d (eI z)))) ?_
    show (i : Int) = x
    rcases hx with ⟨_, h⟩ | ⟨i0, e, h1, h2, h3⟩
    · exact absurd he' (h i hlt')
    · have a1 : ¬ i < i0 := fun h => h3 i h he'
      have a2 : ¬ i0 < i := fun h => hb i0 h h2
      omega
  · rename_i hlt he
    have hlt' : i < n := by first | exact lt2_of hA hlt | exact lt_of hA hlt
    have he' : g i ≠ it := fun e => by
      subst hA
      have he : (it.kind == (g i).kind && (it.t == (g i).t && (it.key == (g i).key && (it.v == (g i).v && (it.n == (g i).n && true))))) = false := he
      rw [e] at he
      simp at he
    refine ⟨⟨i + 1, hlt', fun k hk => ?_⟩, by simp only; omega, cov_of ?_ ?_ ?_⟩
    · by_cases h : k = i
      · rw [h]; exact he'
      · exact hb k (by omega)
    · cbv; subst hA; repeat' first | apply And.intro | exact True.intro | exact congrArg (fun x => DV.v (.int .i64 x)) (up64 hlt' hnL) | rfl
    · cbv; try (subst hA; repeat' first | apply And.intro | exact True.intro | rfl | (intro _ _; rfl))
    · cbv; try (subst hA; repeat' first | apply And.intro | exact True.intro | rfl | exact .inr trivial | exact .inl trivial)
  · rename_i hge
    have hin : i = n := by first | (have := ge2_of hA hge; omega) | (have := ge_of hA hge; omega)
    subst hin
    subst hA
    refine congrArg (fun z => XA.one (.c (.d (eI z)))) ?_
    rcases hx with ⟨e, _⟩ | ⟨i0, _, h1, h2, _⟩
    · exact e.symm
    · exact absurd h2 (hb i0 h1)
end Go.Rk
/- Records: lat. -/
namespace Go.Rk
set_option linter.unusedSimpArgs false
set_option linter.unusedVariables false
open Go.Proofs
set_option maxRecDepth 100000
set_option maxHeartbeats 1000000
def st_lrr (n : Nat) (g : Nat → LatT) (i : Nat) (G : Nat → ItmT) : St := ⟨[(8, .c (.d (eI i))), (7, .c (.d (eI n))), (6, .c (.d (.sl 7 n fun i => eLat (g i)))), (3, .c (.own 1024 0 i 1))], [(1024, 1, .arr 5 i fun q => eItm (G q))]⟩
theorem c_LatRecs (n : Nat) (hn : n ≤ 1080000) (g : Nat → LatT) : Meets Try.prog 30 [.c (.d (.sl 7 n fun i => eLat (g i)))] ⟨.one (.c (.own 5 n fun i => eItm (g i).itm)), [none]⟩ := by
  have hnL : n ≤ maxLen := Nat.le_trans hn (by decide)
  refine meets_of (H := [7]) (EX := EXA) ttok mixed Try.func30 rfl (by kernel_rfl) (by decide) ?_
  generalize hA : real = A
  generalize hM : MeetsB Try.prog = M
  cbv
  repeat' first
    | apply And.intro
    | exact True.intro
    | with_reducible rfl
    | exact same_of hA rfl
    | refine br_of hA (fun _ => ?_) (fun _ => ?_)
    | exact imp_of hA id
    | (refine imp_of hA ?_; subst hA; simp only [real, Bool.true_and]; exact id)
    | (refine ind_of hA ?_; decide +kernel)
    | fail
  refine loop_of hA (α := { q : Nat × (Nat → ItmT) // q.1 ≤ n ∧ ∀ k, k < q.1 → q.2 k = (g k).itm }) (fun y => st_lrr n g y.1.1 y.1.2) (fun y => n - y.1.1) ⟨(0, fun _ => endE), Nat.zero_le _, fun k hk => absurd hk (Nat.not_lt_zero k)⟩ ?_ ?_
  · refine cov_prom 3 1024 1 5 (fun _ => []) rfl rfl (cov_of ?_ ?_ ?_)
    · cbv; try (subst hA; repeat' first | apply And.intro | exact True.intro | rfl | fail)
    · cbv; try (subst hA; repeat' first | apply And.intro | exact True.intro | rfl | (intro _ _; rfl) | (intro k hk; exact absurd hk (Nat.not_lt_zero k)) | fail)
    · cbv; try (subst hA; repeat' first | apply And.intro | exact True.intro | rfl | exact .inr trivial | exact .inl trivial)
  rintro ⟨⟨i, G⟩, hi, hG⟩
  have hi : i ≤ n := hi
  have hG : ∀ k, k < i → G k = (g k).itm := hG
  cbv
  repeat' first
    | apply And.intro
    | exact True.intro
    | with_reducible rfl
    | exact same_of hA rfl
    | refine br_of hA (fun _ => ?_) (fun _ => ?_)
    | exact imp_of hA id
    | (refine imp_of hA ?_; subst hA; simp only [real, Bool.true_and]; exact id)
    | (refine ind_of hA ?_; decide +kernel)
    | (refine inb_lt hA ?_; first | exact lt2_of hA (by assumption) | exact lt_of hA (by assumption))
    | exact room_add2 hA (by omega) (by decide)
    | fail
  · rename_i hlt
    have hlt' : i < n := by first | exact lt2_of hA hlt | exact lt_of hA hlt
    refine ⟨⟨(i + 1, fun q => if q < i then G q else (g i).itm), hlt', fun k hk => ?_⟩, by simp only; omega, cov_of ?_ ?_ ?_⟩
    · by_cases h : k < i
      · simp only [if_pos h]; exact hG k h
      · have : k = i := by simp only at hk; omega
        subst this; simp only [if_neg h]
    · cbv; subst hA; repeat' first | apply And.intro | exact True.intro | exact congrArg (fun x => DV.v (.int .i64 x)) (up64 hlt' hnL) | rfl
    · cbv
      subst hA
      repeat' first | apply And.intro | exact True.intro | rfl | (intro _ _; rfl) | (intro q hq; exact push_if eItm rfl _ _ _ _ q hq)
    · cbv; try (subst hA; repeat' first | apply And.intro | exact True.intro | rfl | exact .inr trivial | exact .inl trivial)
  · rename_i hge
    have hin : i = n := by first | (have := ge2_of hA hge; omega) | (have := ge_of hA hge; omega)
    subst hin
    refine stop_of hA ⟨[(3, .c (.own 1024 0 i 1))], [(1024, 1, .arr 5 i fun q => eItm (g q).itm)]⟩ (cov_of ?_ ?_ ?_) ?_
    · cbv
    · cbv
      exact ⟨fun q hq => congrArg eItm (hG q hq), trivial⟩
    · cbv
    · cbv
      repeat' first
        | apply And.intro
        | exact True.intro
        | with_reducible rfl
        | exact same_of hA rfl
        | refine br_of hA (fun _ => ?_) (fun _ => ?_)
        | exact imp_of hA id
        | (refine imp_of hA ?_; subst hA; simp only [real, Bool.true_and]; exact id)
        | (refine ind_of hA ?_; decide +kernel)
        | fail
end Go.Rk
/- Records: log. -/
namespace Go.Rk
set_option linter.unusedSimpArgs false
set_option linter.unusedVariables false
open Go.Proofs
set_option maxRecDepth 100000
set_option maxHeartbeats 1000000
def st_lgr (n : Nat) (g : Nat → ItmT) (i c : Nat) (G : Nat → ItmT) : St := ⟨[(10, .c (.d (eI i))), (9, .c (.d (eI n))), (8, .c (.d (.sl 5 n fun i => eItm (g i)))), (1, .c (.d (eI (-9)))), (5, .c (.own 1664 0 c 1))], [(1664, 1, .arr 5 c fun q => eItm (G q))]⟩
theorem c_LogRecs (l : List ItmT) (n : Nat) (g : Nat → ItmT) (hl : Lst endE l n g) (hn : n ≤ 1080000) (hv : ∀ x, x ∈ l → x.kind = 1 → -9 ≤ x.v) (n0 : Nat) (G0 : Nat → ItmT) (h0 : Lst endE (recsK l) n0 G0) : Meets Try.prog 33 [.c (.d (.sl 5 n fun i => eItm (g i))), .c (.d (eI (-9)))] ⟨.one (.c (.own 5 n0 fun i => eItm (G0 i))), [none, none]⟩ := by
  have hnL : n ≤ maxLen := Nat.le_trans hn (by decide)
  refine meets_of (H := [8]) (EX := EXA) ttok mixed Try.func33 rfl (by kernel_rfl) (by decide) ?_
  generalize hA : real = A
  generalize hM : MeetsB Try.prog = M
  cbv
  repeat' first
    | apply And.intro
    | exact True.intro
    | with_reducible rfl
    | exact same_of hA rfl
    | refine br_of hA (fun _ => ?_) (fun _ => ?_)
    | exact imp_of hA id
    | (refine imp_of hA ?_; subst hA; simp only [real, Bool.true_and]; exact id)
    | (refine ind_of hA ?_; decide +kernel)
    | fail
  refine loop_of hA (α := { q : Nat × Nat × (Nat → ItmT) // q.1 ≤ n ∧ Lst endE (recsK (l.take q.1)) q.2.1 q.2.2 }) (fun y => st_lgr n g y.1.1 y.1.2.1 y.1.2.2) (fun y => n - y.1.1) ⟨(0, 0, fun _ => endE), Nat.zero_le _, rfl, fun k hk => absurd hk (Nat.not_lt_zero k)⟩ ?_ ?_
  · refine cov_prom 5 1664 1 5 (fun _ => []) rfl rfl (cov_of ?_ ?_ ?_)
    · cbv; try (subst hA; repeat' first | apply And.intro | exact True.intro | rfl | fail)
    · cbv; try (subst hA; repeat' first | apply And.intro | exact True.intro | rfl | (intro _ _; rfl) | (intro k hk; exact absurd hk (Nat.not_lt_zero k)) | fail)
    · cbv; try (subst hA; repeat' first | apply And.intro | exact True.intro | rfl | exact .inr trivial | exact .inl trivial)
  rintro ⟨⟨i, c, G⟩, hi, hG⟩
  have hi : i ≤ n := hi
  have hG : Lst endE (recsK (l.take i)) c G := hG
  have hc : c ≤ 1080000 := by
    rw [hG.1]
    exact Nat.le_trans (List.length_filter_le _ _) (by rw [List.length_take]; omega)
  cbv
  repeat' first
    | apply And.intro
    | exact True.intro
    | with_reducible rfl
    | exact same_of hA rfl
    | refine br_of hA (fun _ => ?_) (fun _ => ?_)
    | exact imp_of hA id
    | (refine imp_of hA ?_; subst hA; simp only [real, Bool.true_and]; exact id)
    | (refine ind_of hA ?_; decide +kernel)
    | (refine inb_lt hA ?_; first | exact lt2_of hA (by assumption) | exact lt_of hA (by assumption))
    | exact room_add2 hA (by omega) (by decide)
    | fail
  · rename_i hlt hk
    have hlt' : i < n := by first | exact lt2_of hA hlt | exact lt_of hA hlt
    have hk : (g i).kind = 1 := by
      subst hA
      have hk : (bif (g i).kind == 1 then decide ((g i).v ≥ -9) else false) = true := hk
      cases h : ((g i).kind == 1) with
      | true => exact eq_of_beq h
      | false => rw [h] at hk; cases hk
    refine ⟨⟨(i + 1, c + 1, fun q => if q < c then G q else g i), hlt', ?_⟩, by simp only; omega, cov_of ?_ ?_ ?_⟩
    · simp only
      rw [lst_take hl hlt', recsK_snoc, if_pos hk]; exact lst_snoc hG
    · cbv; subst hA; repeat' first | apply And.intro | exact True.intro | exact congrArg (fun x => DV.v (.int .i64 x)) (up64 hlt' hnL) | rfl
    · cbv
      subst hA
      repeat' first | apply And.intro | exact True.intro | rfl | (intro _ _; rfl) | (intro q hq; exact push_if eItm rfl _ _ _ _ q hq)
    · cbv; try (subst hA; repeat' first | apply And.intro | exact True.intro | rfl | exact .inr trivial | exact .inl trivial)
  · rename_i hlt hk
    have hlt' : i < n := by first | exact lt2_of hA hlt | exact lt_of hA hlt
    have hk : ¬ (g i).kind = 1 := fun h => by
      subst hA
      have hk : (bif (g i).kind == 1 then decide ((g i).v ≥ -9) else false) = false := hk
      have h9 := hv (g i) (lst_in hl hlt') h
      rw [show ((g i).kind == 1) = true by rw [h]; rfl] at hk
      have hk : decide ((g i).v ≥ -9) = false := hk
      have := of_decide_eq_false hk
      omega
    refine ⟨⟨(i + 1, c, G), hlt', ?_⟩, by simp only; omega, cov_of ?_ ?_ ?_⟩
    · simp only
      rw [lst_take hl hlt', recsK_snoc, if_neg hk, List.append_nil]; exact hG
    · cbv; subst hA; repeat' first | apply And.intro | exact True.intro | exact congrArg (fun x => DV.v (.int .i64 x)) (up64 hlt' hnL) | rfl
    · cbv
      subst hA
      repeat' first | apply And.intro | exact True.intro | rfl | (intro _ _; rfl) | (intro q hq; exact push_if eItm rfl _ _ _ _ q hq)
    · cbv; try (subst hA; repeat' first | apply And.intro | exact True.intro | rfl | exact .inr trivial | exact .inl trivial)
  · rename_i hge
    have hin : i = n := by first | (have := ge2_of hA hge; omega) | (have := ge_of hA hge; omega)
    subst hin
    rw [lst_all hl] at hG
    have hcc : c = n0 := hG.1.trans h0.1.symm
    subst hcc
    refine stop_of hA ⟨[(5, .c (.own 1664 0 c 1))], [(1664, 1, .arr 5 c fun q => eItm (G0 q))]⟩ (cov_of ?_ ?_ ?_) ?_
    · cbv
    · cbv
      exact ⟨fun q hq => congrArg eItm ((hG.2 q hq).trans (h0.2 q hq).symm), trivial⟩
    · cbv
    · cbv
      repeat' first
        | apply And.intro
        | exact True.intro
        | with_reducible rfl
        | exact same_of hA rfl
        | refine br_of hA (fun _ => ?_) (fun _ => ?_)
        | exact imp_of hA id
        | (refine imp_of hA ?_; subst hA; simp only [real, Bool.true_and]; exact id)
        | (refine ind_of hA ?_; decide +kernel)
        | fail
end Go.Rk
/- Records: punc. -/
namespace Go.Rk
set_option linter.unusedSimpArgs false
set_option linter.unusedVariables false
open Go.Proofs
set_option maxRecDepth 100000
set_option maxHeartbeats 1000000
def st_lpn (n : Nat) (g : Nat → ItmT) (late : Int) (i : Nat) (mk : Int) : St := ⟨[(13, .c (.d (eI i))), (12, .c (.d (eI n))), (11, .c (.d (.sl 5 n fun i => eItm (g i)))), (1, .c (.d (eI late))), (5, .c (.d (eI mk)))], []⟩
theorem c_LogPunctual (l : List ItmT) (n : Nat) (g : Nat → ItmT) (hl : Lst endE l n g) (hn : n ≤ 1080000) (hx : ∀ x, x ∈ l → LogX x) (late : Int) (hlate : 0 ≤ late ∧ late ≤ 20) : ∃ b, (b = true ↔ PuncP late l) ∧ Meets Try.prog 29 [.c (.d (.sl 5 n fun i => eItm (g i))), .c (.d (eI late))] ⟨.one (.c (.d (eB b))), [none, none]⟩ := by
  have hnL : n ≤ maxLen := Nat.le_trans hn (by decide)
  obtain ⟨b, hb⟩ : ∃ b : Bool, (b = true ↔ PuncP late l) := by
    by_cases h : PuncP late l
    · exact ⟨true, by simp [h]⟩
    · exact ⟨false, by simp [h]⟩
  refine ⟨b, hb, ?_⟩
  obtain ⟨bt, hbt, hT⟩ := c_isTime late
  have hbt : bt = true := by rw [hbt, decide_eq_true (show 0 ≤ late ∧ late ≤ 1000 by omega)]
  subst hbt
  refine meets_of (H := []) (EX := EXA) ttok mixed Try.func29 rfl (by kernel_rfl) (by decide) ?_
  generalize hA : real = A
  generalize hM : MeetsB Try.prog = M
  cbv
  repeat' first
    | apply And.intro
    | exact True.intro
    | with_reducible rfl
    | exact same_of hA rfl
    | refine br_of hA (fun _ => ?_) (fun _ => ?_)
    | exact imp_of hA id
    | (refine imp_of hA ?_; subst hA; simp only [real, Bool.true_and]; exact id)
    | (refine ind_of hA ?_; decide +kernel)
    | (refine call_of hA hM _ hT ?_; cbv)
    | (exfalso; rename_i h; subst hA; simp [real] at h; done)
    | fail
  refine loop_of hA (α := { i : Nat // i ≤ n ∧ ∀ k, k < i → (g k).kind = 1 → ¬ (g k).t + late < mkF (l.take k) }) (fun y => st_lpn n g late y.1 (mkF (l.take y.1))) (fun y => n - y.1) ⟨0, Nat.zero_le _, fun k hk => absurd hk (Nat.not_lt_zero k)⟩ ?_ ?_
  · refine cov_of ?_ ?_ ?_
    · cbv; try (subst hA; repeat' first | apply And.intro | exact True.intro | rfl | fail)
    · cbv; try (subst hA; repeat' first | apply And.intro | exact True.intro | rfl | (intro _ _; rfl) | (intro k hk; exact absurd hk (Nat.not_lt_zero k)) | fail)
    · cbv; try (subst hA; repeat' first | apply And.intro | exact True.intro | rfl | exact .inr trivial | exact .inl trivial)
  rintro ⟨i, hi, hp⟩
  have hi : i ≤ n := hi
  have hp : ∀ k, k < i → (g k).kind = 1 → ¬ (g k).t + late < mkF (l.take k) := hp
  obtain ⟨mk, hmk⟩ : ∃ mk, mk = mkF (l.take i) := ⟨_, rfl⟩
  have hmb := mkF_bd (l := l.take i) fun x h => hx x (List.mem_of_mem_take h)
  rw [← hmk] at hmb
  rw [← hmk]
  have hw : IntKind.i64.wrap (mk - late) = mk - late := IntWalk.i64_in _ (by omega)
  have hns : i < n → mkF (l.take (i + 1)) = if (g i).kind = 2 then (if mk < (g i).t then (g i).t else mk) else mk := fun h => by rw [lst_take hl h, mkF_snoc, ← hmk]
  cbv
  repeat' first
    | apply And.intro
    | exact True.intro
    | with_reducible rfl
    | exact same_of hA rfl
    | refine br_of hA (fun _ => ?_) (fun _ => ?_)
    | exact imp_of hA id
    | (refine imp_of hA ?_; subst hA; simp only [real, Bool.true_and]; exact id)
    | (refine ind_of hA ?_; decide +kernel)
    | (refine inb_lt hA ?_; first | exact lt2_of hA (by assumption) | exact lt_of hA (by assumption))
    | fail
  · rename_i hlt hk
    have hlt' : i < n := by first | exact lt2_of hA hlt | exact lt_of hA hlt
    have hk : (g i).kind = 2 := by subst hA; exact of_decide_eq_true (show decide ((g i).kind = 2) = true from hk)
    have emx : real.mx mk (g i).t = if mk < (g i).t then (g i).t else mk := by
      show (if (g i).t > mk then (g i).t else mk) = _
      rfl
    obtain ⟨z, hz⟩ : ∃ z, z = real.mx mk (g i).t := ⟨_, rfl⟩
    rw [← hz] at emx
    refine ⟨⟨i + 1, hlt', fun k hk => ?_⟩, by simp only; omega, ?_⟩
    · by_cases h : k < i
      · exact hp k h
      · have : k = i := by omega
        subst this
        intro h1
        rw [← hmk]
        exact absurd h1 (by omega)
    refine Eq.mpr (congrArg (fun z => Cov _ _ (st_lpn n g late (i + 1) z)) (by rw [hns hlt', if_pos hk, ← emx])) ?_
    refine cov_of ?_ ?_ ?_
    · cbv; subst hA; repeat' first | apply And.intro | exact True.intro | exact congrArg (fun x => DV.v (.int .i64 x)) (up64 hlt' hnL) | exact congrArg (fun x => DV.v (.int .i64 x)) hz.symm | rfl
    · cbv; try (subst hA; repeat' first | apply And.intro | exact True.intro | rfl | (intro _ _; rfl))
    · cbv; try (subst hA; repeat' first | apply And.intro | exact True.intro | rfl | exact .inr trivial | exact .inl trivial)
  · rename_i hlt hk hc
    have hlt' : i < n := by first | exact lt2_of hA hlt | exact lt_of hA hlt
    subst hA
    refine congrArg (fun z => XA.one (.c (.d (eB z)))) ?_
    have hc : (bif (g i).kind == 1 then decide ((g i).t < IntKind.i64.wrap (mk - late)) else false) = true := hc
    cases h : ((g i).kind == 1) with
    | false => rw [h] at hc; cases hc
    | true =>
      rw [h] at hc
      have hc := of_decide_eq_true (show decide ((g i).t < IntKind.i64.wrap (mk - late)) = true from hc)
      rw [hw] at hc
      symm
      refine Bool.eq_false_iff.2 fun hbb => ?_
      have := (punc_iff hl).1 (hb.1 hbb) i hlt' (eq_of_beq h)
      rw [← hmk] at this
      omega
  · rename_i hlt hk hc
    have hlt' : i < n := by first | exact lt2_of hA hlt | exact lt_of hA hlt
    have hk : (g i).kind ≠ 2 := by subst hA; exact of_decide_eq_false (show decide ((g i).kind = 2) = false from hk)
    have hc : (g i).kind = 1 → ¬ (g i).t + late < mk := fun h => by
      subst hA
      have hc : (bif (g i).kind == 1 then decide ((g i).t < IntKind.i64.wrap (mk - late)) else false) = false := hc
      rw [show ((g i).kind == 1) = true by rw [h]; rfl] at hc
      have hc := of_decide_eq_false (show decide ((g i).t < IntKind.i64.wrap (mk - late)) = false from hc)
      rw [hw] at hc
      omega
    refine ⟨⟨i + 1, hlt', fun k hk => ?_⟩, by simp only; omega, ?_⟩
    · by_cases h : k < i
      · exact hp k h
      · have : k = i := by omega
        subst this
        intro h1
        rw [← hmk]
        exact hc h1
    refine Eq.mpr (congrArg (fun z => Cov _ _ (st_lpn n g late (i + 1) z)) (by rw [hns hlt', if_neg hk])) ?_
    refine cov_of ?_ ?_ ?_
    · cbv; subst hA; repeat' first | apply And.intro | exact True.intro | exact congrArg (fun x => DV.v (.int .i64 x)) (up64 hlt' hnL) | fail | rfl
    · cbv; try (subst hA; repeat' first | apply And.intro | exact True.intro | rfl | (intro _ _; rfl))
    · cbv; try (subst hA; repeat' first | apply And.intro | exact True.intro | rfl | exact .inr trivial | exact .inl trivial)
  · rename_i hge
    have hin : i = n := by first | (have := ge2_of hA hge; omega) | (have := ge_of hA hge; omega)
    subst hin
    subst hA
    refine congrArg (fun z => XA.one (.c (.d (eB z)))) ?_
    exact (hb.2 ((punc_iff hl).2 hp)).symm
end Go.Rk
/- slices.Delete of one record: the model's own walk. -/
namespace Go.Rk
set_option linter.unusedSimpArgs false
set_option linter.unusedVariables false
open Go Go.Proofs Go.RowKit Go.Lib
set_option maxHeartbeats 4000000 in
set_option maxRecDepth 100000 in
theorem del_calls (b off n c i : Nat) (cs : List Value) (w : World) (hi : i < n) (hnc : n ≤ c) (hn63 : n ≤ 1100000)
    (hcl : cs.length = n * 5)
    (hcs : ∀ j v, cs[j]? = some v → w.cell? ⟨b, off + j, none⟩ = some v) (hfz : ∀ j, j < n * 5 → w.frozen? ⟨b, off + j, none⟩ = false) (h1c : ∀ v ∈ cs, v.oneCell' = true) :
    ∃ Z : List Value, Z.length = 5 ∧
    Calls Try.prog 78 #[.slice (some ⟨b, off, none⟩) n c, .int .i64 i, .int .i64 ((i : Int) + 1)] w fun e w' =>
      e = .returned (.slice (some ⟨b, off, none⟩) (n - 1) c) ∧ w' = (w.drew.setCells b (off + i * 5) (cs.drop ((i + 1) * 5))).setCells b (off + (n - 1) * 5) Z := by
  have hi0 : Try.prog.info? 62 = some Try.t62 := by kernel_rfl
  have hzs : Try.t62.size = 5 := rfl
  obtain ⟨zv, hz0, hz5, hz1⟩ : ∃ zv : Value, Try.t62.zero = some zv ∧ zv.cells.size = 5 ∧ ∀ v ∈ zv.cells.toList, v.oneCell' = true := ⟨_, rfl, rfl, by decide⟩
  obtain ⟨Z, hZ⟩ : ∃ Z, Z = (Builtin.zeroCells zv.cells 1).toList := ⟨_, rfl⟩
  have hZl : Z.length = 5 := by rw [hZ, Array.length_toList, size_zeroCells, hz5]
  have hZ1 : ∀ v ∈ Z, v.oneCell' = true := fun v hv => by
    rw [hZ] at hv
    obtain ⟨k, hk, rfl⟩ := List.mem_iff_getElem.1 hv
    rw [Array.length_toList, size_zeroCells, hz5] at hk
    have e1 : zv.cells[k % 5]? = some zv.cells[k % 5] := Array.getElem?_eq_getElem (by rw [hz5]; omega)
    have e2 : zv.cells[k % 5]! = zv.cells[k % 5] := by rw [getElem!_def, e1]
    refine hz1 _ ?_
    simp [Builtin.zeroCells, hz5, e2]
  refine ⟨Z, hZl, ?_⟩
  obtain ⟨news, hnews⟩ : ∃ news, news = cs.drop ((i + 1) * 5) := ⟨_, rfl⟩
  have hlen : news.length = (n - (i + 1)) * 5 := by rw [hnews, List.length_drop, hcl]; omega
  have hsome : ∀ j, j < n * 5 → (w.cell? ⟨b, off + j, none⟩).isSome = true := fun j hj => by
    rw [hcs j cs[j] (List.getElem?_eq_getElem (by omega))]; rfl
  obtain ⟨A, hA, hsrc⟩ : ∃ A : Addr, (if c = i + 1 then some (⟨b, off, none⟩ : Addr) else some ⟨b, off + (i + 1) * 5, none⟩) = some A ∧ (∀ t u, news[t]? = some u → w.drew.cell? (A.add t) = some u) := by
    by_cases h : c = i + 1
    · refine ⟨⟨b, off, none⟩, by simp [h], fun t u hu => ?_⟩
      have h0 : news.length = 0 := by rw [hlen]; omega
      rw [List.length_eq_zero_iff.1 h0] at hu
      simp at hu
    · refine ⟨⟨b, off + (i + 1) * 5, none⟩, by simp [h], fun t u hu => ?_⟩
      rw [Addr.add_lit, Nat.add_assoc]
      rw [hnews, List.getElem?_drop] at hu
      exact hcs _ u hu
  have s1 : news.length = (n - (i + 1)) * 5 := hlen
  have s2 : ∀ u ∈ news, u.oneCell' = true := fun u hu => h1c u (List.mem_of_mem_drop (by rw [hnews] at hu; exact hu))
  have s3 : ∀ t, t < news.length → (w.drew.cell? ⟨b, off + i * 5 + t, none⟩).isSome = true ∧ w.drew.frozen? ⟨b, off + i * 5 + t, none⟩ = false := fun t ht => by
    rw [hlen] at ht
    rw [Nat.add_assoc]
    exact ⟨hsome _ (by omega), hfz _ (by omega)⟩
  obtain ⟨W1, hW1⟩ : ∃ W1, W1 = w.drew.setCells b (off + i * 5) news := ⟨_, rfl⟩
  have hcl : ∀ ty, (Builtin.clear_ #[25] ty #[.slice (some ⟨b, off + (n - 1) * 5, none⟩) 1 (c - (n - 1))]).run Try.prog W1 = .ok (.tuple #[]) (W1.setCells b (off + (n - 1) * 5) Z) := fun ty => by
    have hst := run_storeCells_cells (P := Try.prog) b (off + (n - 1) * 5) Z 0 W1 (fun j hj => by
        rw [hW1]
        refine isSome_setCells b _ _ _ (fun t ht => (s3 t ht).1) _ ?_
        rw [Nat.add_zero, Nat.add_assoc]
        exact hsome _ (by rw [hZl] at hj; omega)) (fun j hj => by rw [hW1, World.frozen?_setCells, Nat.add_zero, Nat.add_assoc]; exact hfz _ (by rw [hZl] at hj; omega)) hZ1
    simp [Builtin.clear_, run_underlying Try.underlying25, zeroValue, typeInfo, hi0, hz0, ← hZ, hst]
  rw [← hnews, ← hW1]
  have hW : Hid (W1 = w.drew.setCells b (off + i * 5) news) := hW1
  have s1 : Hid (news.length = (n - (i + 1)) * 5) := s1
  have hsrc : Hid (∀ t u, news[t]? = some u → w.drew.cell? (A.add t) = some u) := hsrc
  have s2 : Hid (∀ u ∈ news, u.oneCell' = true) := s2
  have s3 : Hid (∀ t, t < news.length → (w.drew.cell? ⟨b, off + i * 5 + t, none⟩).isSome = true ∧ w.drew.frozen? ⟨b, off + i * 5 + t, none⟩ = false) := s3
  clear hnews hW1 hZ hlen
  have mixed := mixed
  have hic : i ≤ c := by omega
  have hjc : i + 1 ≤ c := by omega
  have hne : ¬ ((i : Int) = (i : Int) + 1) := by omega
  have htn : ((i : Int) + 1).toNat = i + 1 := by omega
  have hb1 : (0 : Int) ≤ (i : Int) + 1 := by omega
  have hb2 : (i : Int) + 1 ≤ (n : Int) := by omega
  have hb3 : i + (n - (i + 1)) = n - 1 := by omega
  have hb4 : n - (n - 1) = 1 := by omega
  go_enter Try.func78, Try.ntmps78
  go_wp2_with fail
  go_region_law_o (refine step_append_room rfl (.tmp 22) (.tmp 25) 25 rfl 62 Try.t62 5 Try.underlying25 hi0 hzs b off i c (by simp [Act.eval, Act.put]) A (n - (i + 1)) (c - (i + 1)) news (by simp [Act.eval, Act.put, hA]) s1.out hsrc.out s2.out (by omega) s3.out ?_; rw [← hW.out])
  go_wp2
  go_ret
  exact ⟨rfl, rfl⟩
theorem del_rows {w : World} {N : Nat → Prop} {n i base : Nat} {A C : Array Value} {row R : Nat → List DV}
    (hi : i < n) (hl : ∀ k, k < n → (row k).length = 5)
    (hA : ∀ k j x, k < n → (row k)[j]? = some x → ∃ u, A[base + k * 5 + j]? = some u ∧ DRep w N x u)
    (c1 : ∀ k j, k < i → j < 5 → C[base + k * 5 + j]? = A[base + k * 5 + j]?)
    (c3 : ∀ k j, i ≤ k → k + 1 < n → j < 5 → C[base + k * 5 + j]? = A[base + (k + 1) * 5 + j]?)
    (hR : ∀ k, k < n - 1 → R k = if k < i then row k else row (k + 1)) :
    (∀ k, k < n - 1 → (R k).length = 5) ∧ ∀ k j x, k < n - 1 → (R k)[j]? = some x → ∃ u, C[base + k * 5 + j]? = some u ∧ DRep w N x u := by
  have hlen : ∀ k, k < n - 1 → (R k).length = 5 := fun k hk => by
    rw [hR k hk]
    split
    · exact hl k (by omega)
    · exact hl (k + 1) (by omega)
  refine ⟨hlen, fun k j x hk hj => ?_⟩
  have hj7 : j < 5 := by rw [← hlen k hk]; exact (List.getElem?_eq_some_iff.1 hj).1
  rw [hR k hk] at hj
  split at hj
  · rename_i h
    rw [c1 k j h hj7]
    exact hA k j x (by omega) hj
  · rw [c3 k j (by omega) (by omega) hj7]
    exact hA (k + 1) j x (by omega) hj
theorem c_Delete (n i : Nat) (hn : n ≤ 1100000) (hi : i < n) (row R : Nat → List DV) (hR : ∀ k, k < n - 1 → R k = if k < i then row k else row (k + 1)) :
    Meets Try.prog 78 [.c (.own 5 n row), .c (.d (eI i)), .c (.d (eI ((i : Int) + 1)))] ⟨.one (.c (.own 5 (n - 1) R)), [none, none, none]⟩ := by
  refine ⟨by kernel_rfl, fun w vals F N hx hF hFN hN => ?_⟩
  obtain ⟨v0, vals, rfl⟩ : ∃ v0 r, vals = v0 :: r := by cases vals with | nil => exact hx.elim | cons a r => exact ⟨a, r, rfl⟩
  obtain ⟨v1, vals, rfl⟩ : ∃ v0 r, vals = v0 :: r := by cases vals with | nil => obtain ⟨_, _, _, _, h⟩ := hx; exact h.elim | cons a r => exact ⟨a, r, rfl⟩
  obtain ⟨v2, vals, rfl⟩ : ∃ v0 r, vals = v0 :: r := by cases vals with | nil => obtain ⟨_, _, _, _, _, _, _, _, h⟩ := hx; exact h.elim | cons a r => exact ⟨a, r, rfl⟩
  obtain ⟨F1, F', rfl, h0, F2, F'', rfl, h1, F3, F4, rfl, h2, h3⟩ := hx
  obtain rfl : vals = [] := by cases vals with | nil => rfl | cons a r => exact h3.elim
  have h3 : F4 = [] := h3
  subst h3
  obtain ⟨h1a, h1⟩ := h1
  subst h1a
  obtain ⟨h2a, h2⟩ := h2
  subst h2a
  obtain ⟨hl, h0⟩ := h0
  rcases h0 with ⟨h0, _⟩ | ⟨b, base, cap, A, e, rfl, rfl, hcp, hnc, hb, hsz, hA⟩
  · omega
  cases h1
  cases h2
  simp only [List.nil_append, List.append_nil, List.cons_append] at hF hFN ⊢
  have hbN : ∀ x, N x → x ≠ b := fun x hx h => (hFN b (by simp)).2 (h ▸ hx)
  have hbw : b < w.heap.size := (hFN b (by simp)).1
  have hsA : base + n * 5 ≤ A.size := Nat.le_trans (Nat.add_le_add_left (Nat.mul_le_mul_right 5 hnc) base) hsz
  obtain ⟨cs, hcs⟩ : ∃ cs, cs = cutOf A base (n * 5) := ⟨_, rfl⟩
  have hcl : cs.length = n * 5 := by rw [hcs]; exact cutOf_len hsA
  have hca : ∀ j v, cs[j]? = some v → w.cell? ⟨b, base + j, none⟩ = some v := fun j v h => by
    rw [hcs, cutOf_at] at h
    split at h
    · rw [cell_of hb]; exact h
    · cases h
  have h1A : ∀ v ∈ cs, v.oneCell' = true := fun v hv => by
    obtain ⟨j, hj⟩ := List.mem_iff_getElem?.1 hv
    rw [hcs, cutOf_at] at hj
    split at hj
    · rename_i hjn
      have hk : j / 5 < n := Nat.div_lt_of_lt_mul (by omega)
      have hr := hl (j / 5) hk
      obtain ⟨x, hx⟩ : ∃ x, (row (j / 5))[j % 5]? = some x := ⟨_, List.getElem?_eq_getElem (by rw [hr]; exact Nat.mod_lt _ (by decide))⟩
      obtain ⟨u, hu, hd⟩ := hA (j / 5) (j % 5) x hk hx
      rw [show base + j / 5 * 5 + j % 5 = base + j by omega, hj] at hu
      cases hu
      exact hd.one
    · cases hj
  have hcsA : ∀ j, j < n * 5 → cs[j]? = A[base + j]? := fun j hj => by rw [hcs, cutOf_at, if_pos hj]
  obtain ⟨Z, hZ, hc⟩ := del_calls b base n cap i cs w hi hnc hn hcl hca (fun j hj => frozen_of hb _) h1A
  refine hc.mono ?_
  rintro ee w' ⟨rfl, rfl⟩
  have hdl : (cs.drop ((i + 1) * 5)).length = (n - (i + 1)) * 5 := by rw [List.length_drop, hcl]; omega
  have hbd : w.drew.heap[b]? = some (.cells A e (0, 0)) := hb
  obtain ⟨C1, g1, g2, g3, g4, g5⟩ := setCells_at b (cs.drop ((i + 1) * 5)) (base + i * 5) w.drew A e (0, 0) hbd (by rw [hdl]; omega)
  obtain ⟨C, k1, k2, k3, k4, k5⟩ := setCells_at b Z (base + (n - 1) * 5) _ C1 e (0, 0) g1 (by rw [hZ, g2]; omega)
  have hoth : ∀ x, x ≠ b → ((w.drew.setCells b (base + i * 5) (cs.drop ((i + 1) * 5))).setCells b (base + (n - 1) * 5) Z).heap[x]? = w.heap[x]? := fun x hx => by
    rw [setCells_other b _ _ _ x hx, setCells_other b _ _ _ x hx]; rfl
  have hsize : ((w.drew.setCells b (base + i * 5) (cs.drop ((i + 1) * 5))).setCells b (base + (n - 1) * 5) Z).heap.size = w.heap.size := by rw [setCells_size, setCells_size]; rfl
  obtain ⟨q1, q2⟩ := del_rows (w := w) (N := N) (n := n) (i := i) (base := base) (A := A) (C := C) hi hl hA
    (fun k j hk hj => by rw [k3 _ (by omega), g3 _ (by omega)])
    (fun k j hk1 hk2 hj => by
      rw [k3 _ (by omega), show base + k * 5 + j = base + i * 5 + ((k - i) * 5 + j) by omega, g4 _ (by rw [hdl]; omega), List.getElem?_drop, hcsA _ (by omega)]
      congr 1
      omega) hR
  refine ⟨_, [b], [], rfl, ?_, by rw [hsize]; exact Nat.le_refl _, fun x hx hxF => hoth x fun h => hxF (by rw [h]; simp), fun x xs xe xf hx => ?_, fun x hx => ?_, by simp, ?_, ?_⟩
  · have e1 := setCells_env b Z (base + (n - 1) * 5) (w.drew.setCells b (base + i * 5) (cs.drop ((i + 1) * 5)))
    have e2 := setCells_env b (cs.drop ((i + 1) * 5)) (base + i * 5) w.drew
    exact ⟨e1.1.trans e2.1, e1.2.1.trans e2.2.1, e1.2.2.trans e2.2.2⟩
  · by_cases hxb : x = b
    · subst hxb
      rw [hb] at hx
      cases hx
      exact ⟨C, k1, by rw [k2, g2]⟩
    · exact ⟨xs, by rw [hoth x hxb]; exact hx, rfl⟩
  · have hx : x = b := by simpa using hx
    subst hx
    exact ⟨by rw [hsize]; exact hbw, .inl (by simp)⟩
  · refine ⟨q1, .inr ⟨b, base, cap, C, e, rfl, rfl, hcp, by omega, k1, by rw [k2, g2]; exact hsz, fun k j x hk hj => ?_⟩⟩
    obtain ⟨u, hu, hd⟩ := q2 k j x hk hj
    exact ⟨u, hu, hd.carry fun x hx => ⟨hoth x (hbN x hx), by rw [hsize]; exact hN x hx, by simpa using hbN x hx, .inl hx⟩⟩
  · rfl
end Go.Rk
/- Records: without. -/
namespace Go.Rk
set_option linter.unusedSimpArgs false
set_option linter.unusedVariables false
open Go.Proofs
set_option maxRecDepth 100000
set_option maxHeartbeats 1000000
def st_wti (n2 : Nat) (g2 : Nat → ItmT) (i c : Nat) (G : Nat → ItmT) : St := ⟨[(13, .c (.d (eI i))), (12, .c (.d (eI n2))), (11, .c (.d (.sl 5 n2 fun i => eItm (g2 i)))), (5, .c (.own 640 0 c 1))], [(640, 1, .arr 5 c fun q => eItm (G q))]⟩
def EXDel : FuncId → List Nat × Bool := fun f => (if f = 78 then [0] else [], false)
theorem c_SpcWithout (l : List ItmT) (n : Nat) (g : Nat → ItmT) (hl : Lst endE l n g) (hn : n ≤ 1080000) (l2 : List ItmT) (n2 : Nat) (g2 : Nat → ItmT) (hl2 : Lst endE l2 n2 g2) (hn2 : n2 ≤ 1080000) (n0 : Nat) (G0 : Nat → ItmT) (h0 : Lst endE (lessL l l2) n0 G0) : Meets Try.prog 31 [.c (.d (.sl 5 n fun i => eItm (g i))), .c (.d (.sl 5 n2 fun i => eItm (g2 i)))] ⟨.one (.c (.own 5 n0 fun i => eItm (G0 i))), [none, none]⟩ := by
  have hnL : n2 ≤ maxLen := Nat.le_trans hn2 (by decide)
  have hC := c_CloneItm n hn g
  refine meets_of (H := [9]) (EX := EXDel) ttok mixed Try.func31 rfl (by kernel_rfl) (by decide) ?_
  generalize hA : real = A
  generalize hM : MeetsB Try.prog = M
  cbv
  repeat' first
    | apply And.intro
    | exact True.intro
    | with_reducible rfl
    | exact same_of hA rfl
    | refine br_of hA (fun _ => ?_) (fun _ => ?_)
    | exact imp_of hA id
    | (refine imp_of hA ?_; subst hA; simp only [real, Bool.true_and]; exact id)
    | (refine ind_of hA ?_; decide +kernel)
    | (refine call_of hA hM _ hC ?_; cbv)
    | fail
  refine loop_of hA (α := { q : Nat × Nat × (Nat → ItmT) // q.1 ≤ n2 ∧ Lst endE (lessL l (l2.take q.1)) q.2.1 q.2.2 }) (fun y => st_wti n2 g2 y.1.1 y.1.2.1 y.1.2.2) (fun y => n2 - y.1.1) ⟨(0, n, g), Nat.zero_le _, hl⟩ ?_ ?_
  · refine cov_of ?_ ?_ ?_
    · cbv; try (subst hA; repeat' first | apply And.intro | exact True.intro | rfl | fail)
    · cbv; try (subst hA; repeat' first | apply And.intro | exact True.intro | rfl | (intro _ _; rfl) | (intro k hk; exact absurd hk (Nat.not_lt_zero k)) | fail)
    · cbv; try (subst hA; repeat' first | apply And.intro | exact True.intro | rfl | exact .inr trivial | exact .inl trivial)
  rintro ⟨⟨i, c, G⟩, hi, hG⟩
  have hi : i ≤ n2 := hi
  have hG : Lst endE (lessL l (l2.take i)) c G := hG
  have hc : c ≤ 1080000 := by
    rw [hG.1]
    exact Nat.le_trans (lessL_len _ _) (by rw [← hl.1]; exact hn)
  obtain ⟨x, hx⟩ := firstE_ex c G (g2 i)
  have cI := c_IndexItm c hc G (g2 i) x hx
  have hnext : i < n2 → lessL l (l2.take (i + 1)) = lessI (lessL l (l2.take i)) (g2 i) := fun h => by rw [lst_take hl2 h, lessL_snoc]
  have hw : 0 ≤ x → IntKind.i64.wrap (x + 1) = x + 1 := fun h => IntWalk.i64_in _ (by rcases hx with ⟨e, _⟩ | ⟨i0, e, h1, _⟩ <;> omega)
  cbv
  repeat' first
    | apply And.intro
    | exact True.intro
    | with_reducible rfl
    | exact same_of hA rfl
    | refine br_of hA (fun _ => ?_) (fun _ => ?_)
    | exact imp_of hA id
    | (refine imp_of hA ?_; subst hA; simp only [real, Bool.true_and]; exact id)
    | (refine ind_of hA ?_; decide +kernel)
    | (refine inb_lt hA ?_; first | exact lt2_of hA (by assumption) | exact lt_of hA (by assumption))
    | exact flat_itm hA _ _
    | (refine call_of2 hA hM _ cI (by (subst hA; first | rfl | (simp only [sub0r]; try rfl))) ?_; cbv)
    | fail
  · rename_i hlt hx0
    have hlt' : i < n2 := by first | exact lt2_of hA hlt | exact lt_of hA hlt
    have hx0 : 0 ≤ x := by subst hA; exact of_decide_eq_true (show decide (x ≥ 0) = true from hx0)
    rcases hx with ⟨e, _⟩ | ⟨i0, e, h1, h2, h3⟩
    · omega
    subst e
    have hD := c_Delete c i0 (by omega) h1 (fun k => eItm (G k)) (fun k => eItm (if k < i0 then G k else G (k + 1))) (fun k _ => apply_ite eItm (k < i0) (G k) (G (k + 1)))
    obtain ⟨c1, hc1⟩ : ∃ c1, c1 = c - 1 := ⟨_, rfl⟩
    rw [← hc1] at hD
    have hw := hw (by omega)
    refine call_of2 hA hM _ hD (by subst hA; show [_, _, XT.c (.d (eI (IntKind.i64.wrap ((i0 : Int) + 1))))] = _; rw [hw]; try (simp only [sub0r]; try rfl)) ?_
    cbv
    repeat' first
      | apply And.intro
      | exact True.intro
      | with_reducible rfl
      | exact same_of hA rfl
      | refine br_of hA (fun _ => ?_) (fun _ => ?_)
      | exact imp_of hA id
      | (refine imp_of hA ?_; subst hA; simp only [real, Bool.true_and]; exact id)
      | (refine ind_of hA ?_; decide +kernel)
      | (refine inb_lt hA ?_; first | exact lt2_of hA (by assumption) | exact lt_of hA (by assumption))
      | exact flat_itm hA _ _
      | fail
    refine ⟨⟨(i + 1, c1, fun k => if k < i0 then G k else G (k + 1)), hlt', ?_⟩, by simp only; omega, cov_rel 640 3 (k := 5) (l := 1664) (sz := 5) rfl rfl rfl rfl (cov_of ?_ ?_ ?_)⟩
    · simp only
      rw [hnext hlt', hc1]; exact lst_erase hG h1 h2 h3
    · cbv; subst hA; repeat' first | apply And.intro | exact True.intro | exact congrArg (fun x => DV.v (.int .i64 x)) (up64 hlt' hnL) | rfl
    · cbv
      subst hA
      repeat' first | apply And.intro | exact True.intro | rfl | (intro _ _; rfl) | (intro q hq; exact push_if eItm rfl _ _ _ _ q hq)
    · cbv; try (subst hA; repeat' first | apply And.intro | exact True.intro | rfl | exact .inr trivial | exact .inl trivial)
  · rename_i hlt hx0
    have hlt' : i < n2 := by first | exact lt2_of hA hlt | exact lt_of hA hlt
    have hx0 : ¬ 0 ≤ x := by subst hA; exact of_decide_eq_false (show decide (x ≥ 0) = false from hx0)
    have hno : ∀ k, k < c → G k ≠ g2 i := by
      rcases hx with ⟨_, h⟩ | ⟨i0, e, _⟩
      · exact h
      · omega
    refine ⟨⟨(i + 1, c, G), hlt', ?_⟩, by simp only; omega, cov_of ?_ ?_ ?_⟩
    · simp only
      rw [hnext hlt', lst_erase_no hG hno]; exact hG
    · cbv; subst hA; repeat' first | apply And.intro | exact True.intro | exact congrArg (fun x => DV.v (.int .i64 x)) (up64 hlt' hnL) | rfl
    · cbv
      subst hA
      repeat' first | apply And.intro | exact True.intro | rfl | (intro _ _; rfl) | (intro q hq; exact push_if eItm rfl _ _ _ _ q hq)
    · cbv; try (subst hA; repeat' first | apply And.intro | exact True.intro | rfl | exact .inr trivial | exact .inl trivial)
  · rename_i hge
    have hin : i = n2 := by first | (have := ge2_of hA hge; omega) | (have := ge_of hA hge; omega)
    subst hin
    rw [lst_all hl2] at hG
    have hcc : c = n0 := hG.1.trans h0.1.symm
    subst hcc
    refine stop_of hA ⟨[(5, .c (.own 640 0 c 1))], [(640, 1, .arr 5 c fun q => eItm (G0 q))]⟩ (cov_of ?_ ?_ ?_) ?_
    · cbv
    · cbv
      exact ⟨fun q hq => congrArg eItm ((hG.2 q hq).trans (h0.2 q hq).symm), trivial⟩
    · cbv
    · cbv
      repeat' first
        | apply And.intro
        | exact True.intro
        | with_reducible rfl
        | exact same_of hA rfl
        | refine br_of hA (fun _ => ?_) (fun _ => ?_)
        | exact imp_of hA id
        | (refine imp_of hA ?_; subst hA; simp only [real, Bool.true_and]; exact id)
        | (refine ind_of hA ?_; decide +kernel)
        | fail
end Go.Rk
/- Tables: pan. -/
namespace Go.Rk
set_option linter.unusedSimpArgs false
set_option linter.unusedVariables false
open Go.Proofs
set_option maxRecDepth 100000
set_option maxHeartbeats 1000000
open Classical in
set_option maxRecDepth 100000 in
theorem c_PanOk (p : PaneT) : ∃ b, (b = true ↔ PaneOkP p) ∧ Meets Try.prog 52 [xd (ePane p)] ⟨.one (.c (.d (eB b))), [none]⟩ := by
  obtain ⟨b, hb⟩ : ∃ b, b = decide (PaneOkP p) := ⟨_, rfl⟩
  refine ⟨b, by rw [hb, decide_eq_true_eq], ?_⟩
  refine meets_of (H := []) (EX := EXA) ttok mixed Try.func52 rfl (by kernel_rfl) (by decide) ?_
  generalize hA : real = A
  generalize hM : MeetsB Try.prog = M
  cbv
  repeat' first
    | apply And.intro
    | exact True.intro
    | with_reducible rfl
    | exact same_of hA rfl
    | refine br_of hA (fun _ => ?_) (fun _ => ?_)
    | exact imp_of hA id
    | (refine imp_of hA ?_; subst hA; simp only [real, Bool.true_and]; exact id)
    | (refine ind_of hA ?_; decide +kernel)
    | (refine call_ex hA hM (c_in _ _ _) (fun _ _ => ?_); cbv)
    | (refine call_ex hA hM (c_isKey _) (fun _ _ => ?_); cbv)
    | (refine call_ex hA hM (c_WinOk _ _) (fun _ _ => ?_); cbv)
    | (refine call_ex hA hM (c_AggOk _ _ _ _) (fun _ _ => ?_); cbv)
    | (refine call_ex hA hM (c_isRec _) (fun _ _ => ?_); cbv)
  all_goals obtain ⟨key, ⟨s, e⟩, no, kind, ⟨n, sum, least, most⟩⟩ := p
  all_goals subst hA
  all_goals refine congrArg (fun b => XA.one (.c (.d (eB b)))) (Bool.eq_iff_iff.2 ?_)
  all_goals subst_vars
  all_goals simp only [real, bifA, bifB, bifC, bifD, beqB, decide_eq_true_eq, decide_eq_false_iff_not, beqI, bneI, beqIF, bneIF, ne_eq, Bool.and_eq_true, Bool.or_eq_true, Bool.not_eq_true', Bool.not_eq_false', Bool.and_eq_false_iff, Bool.or_eq_false_iff, Bool.false_eq_true, and_false, false_and, or_false, false_or, and_true, true_and, not_true_eq_false, not_false_eq_true, true_iff, false_iff, IntKind.wrap_i64, PaneOkP, WinOkP, AggOkP] at *
  all_goals omega
end Go.Rk
