/- Pairs of records and windows. -/
import Derived.Test.YtbkpfnddpnccmaaTA5
namespace Go.Rk
set_option linter.unusedSimpArgs false
set_option linter.unusedVariables false
open Go.Proofs
def st_l4 (j : JobT) (t sp f : Int) (n : Nat) (row : Nat → List DV) : St := ⟨[(6, .c (.d (eI f))), (1, .c (.d (eI t))), (2, .c (.bp 128 1 0)), (5, .c (.own 2368 0 n 1))], [(128, 1, .box ((eJob j).map .d)), (2368, 1, .arr 2 n row)]⟩
set_option maxRecDepth 100000 in
theorem m_l4Of1 (j : JobT) (t : Int) (hs : 1 ≤ j.size) (hk : j.kind = 1) (row : Nat → List DV) (hrow : row = real.app 1 (real.rep [eI (IntKind.i64.wrap (t - t.tmod j.size)), eI (IntKind.i64.wrap (IntKind.i64.wrap (t - t.tmod j.size) + j.size))]) (real.rep [eI 0, eI 0])) : Meets Try.prog 80 [xd (eJob j), .c (.d (eI t))] ⟨.one (.c (.own 2 1 row)), [none, none]⟩ := by
  refine meets_of (H := []) (EX := EXA) ttok mixed Try.func80 rfl (by kernel_rfl) (by decide) ?_
  generalize hA : real = A
  generalize hM : Meets Try.prog = M
  cbv
  repeat' first
    | apply And.intro
    | exact True.intro
    | with_reducible rfl
    | exact same_of hA rfl
    | refine br_of hA (fun _ => ?_) (fun _ => ?_)
    | exact imp_of hA id
    | (refine imp_of hA ?_; subst hA; simp only [real, Bool.true_and]; exact id)
    | (refine ind_of hA ?_; decide +kernel)
    | exact nz_of hA (show j.size ≠ 0 by omega)
  · subst hA; rw [hrow]; rfl
  · exfalso
    rename_i h1 h2
    subst hA
    have h : (j.kind == 1) = false := h1
    rw [hk] at h
    cases h
  · exfalso
    rename_i h1 h2
    subst hA
    have h : (j.kind == 1) = false := h1
    rw [hk] at h
    cases h
set_option maxRecDepth 100000 in
theorem m_l4Of3 (j : JobT) (t : Int) (hs : 1 ≤ j.size) (hk : j.kind = 3) (row : Nat → List DV) (hrow : row = real.app 1 (real.rep [eI t, eI (IntKind.i64.wrap (t + j.size))]) (real.rep [eI 0, eI 0])) : Meets Try.prog 80 [xd (eJob j), .c (.d (eI t))] ⟨.one (.c (.own 2 1 row)), [none, none]⟩ := by
  refine meets_of (H := []) (EX := EXA) ttok mixed Try.func80 rfl (by kernel_rfl) (by decide) ?_
  generalize hA : real = A
  generalize hM : Meets Try.prog = M
  cbv
  repeat' first
    | apply And.intro
    | exact True.intro
    | with_reducible rfl
    | exact same_of hA rfl
    | refine br_of hA (fun _ => ?_) (fun _ => ?_)
    | exact imp_of hA id
    | (refine imp_of hA ?_; subst hA; simp only [real, Bool.true_and]; exact id)
    | (refine ind_of hA ?_; decide +kernel)
    | exact nz_of hA (show j.size ≠ 0 by omega)
  · exfalso
    rename_i h1
    subst hA
    have h : (j.kind == 1) = true := h1
    rw [hk] at h
    cases h
  · subst hA; rw [hrow]; rfl
  · exfalso
    rename_i h1 h2
    subst hA
    have h : (j.kind == 3) = false := h2
    rw [hk] at h
    cases h
set_option maxRecDepth 100000 in
theorem m_l4Of2 (j : JobT) (t : Int) (hsz : 1 ≤ j.size ∧ j.size ≤ 20) (hsp : 1 ≤ j.step) (hsp2 : j.step ≤ 20) (hk : j.kind = 2) (ht : 0 ≤ t ∧ t ≤ 60) (n : Nat) (g : Nat → WinT) (hl : Tells zWin eWin (winsL j t) n (fun i => eWin (g i))) : Meets Try.prog 80 [xd (eJob j), .c (.d (eI t))] ⟨.one (.c (.own 2 n fun i => eWin (g i))), [none, none]⟩ := by
  refine meets_of (H := [12]) (EX := EXA) ttok mixed Try.func80 rfl (by kernel_rfl) (by decide) ?_
  generalize hA : real = A
  generalize hM : Meets Try.prog = M
  cbv
  repeat' first
    | apply And.intro
    | exact True.intro
    | with_reducible rfl
    | exact same_of hA rfl
    | refine br_of hA (fun _ => ?_) (fun _ => ?_)
    | exact imp_of hA id
    | (refine imp_of hA ?_; subst hA; simp only [real, Bool.true_and]; exact id)
    | (refine ind_of hA ?_; decide +kernel)
    | exact nz_of hA (show j.size ≠ 0 by omega)
  · exfalso
    rename_i h1
    subst hA
    have h : (j.kind == 1) = true := h1
    rw [hk] at h
    cases h
  · exfalso
    rename_i h1 h2
    subst hA
    have h : (j.kind == 3) = true := h2
    rw [hk] at h
    cases h
  have hf0 : (0 : Int) = 0 := rfl
  have hs0 : j.step = j.step := rfl
  have hall : [] ++ slideF j.size j.step t 100 0 = winsL j t := by unfold winsL winStep winFrom; rw [if_neg (by omega), if_pos hk, if_neg (by omega), if_pos hk]; rfl
  refine loop_of hA (α := { q : Int × Nat × (Nat → List DV) × List WinT // (0 ≤ q.1 ∧ q.1 ≤ 80) ∧ Tells zWin eWin q.2.2.2 q.2.1 q.2.2.1 ∧ q.2.2.2 ++ slideF j.size j.step t 100 q.1 = winsL j t }) (fun y => st_l4 j t j.step y.1.1 y.1.2.1 y.1.2.2.1) (fun y => (61 - y.1.1).toNat) ⟨(0, 0, fun _ => [], []), ⟨by simp only; omega, by simp only; omega⟩, ⟨rfl, fun k h => absurd h (Nat.not_lt_zero k)⟩, hall⟩ ?_ ?_
  · refine cov_of ?_ ?_ ?_
    · cbv; try (subst hA; repeat' first | apply And.intro | exact True.intro | exact congrArg (fun x => DV.v (.int .i64 x)) hf0 | exact congrArg (fun x => DV.v (.int .i64 x)) hs0 | rfl)
    · cbv; try (subst hA; repeat' first | apply And.intro | exact True.intro | rfl | exact (fun _ _ => rfl) | (intro k hk; exact absurd hk (Nat.not_lt_zero k)))
    · cbv
  rintro ⟨⟨f, n1, row, l⟩, hf, hT, hw⟩
  have hf : 0 ≤ f ∧ f ≤ 80 := hf
  have hT : Tells zWin eWin l n1 row := hT
  have hw : l ++ slideF j.size j.step t 100 f = winsL j t := hw
  have hn1 : n1 ≤ 100 := by
    have := congrArg List.length hw
    rw [List.length_append] at this
    have := winsL_len j t
    have := hT.1
    omega
  have hws : IntKind.i64.wrap (f + j.size) = f + j.size := IntWalk.i64_in _ (by omega)
  have hwp : IntKind.i64.wrap (f + j.step) = f + j.step := IntWalk.i64_in _ (by omega)
  cbv
  repeat' first
    | apply And.intro
    | exact True.intro
    | with_reducible rfl
    | exact same_of hA rfl
    | refine br_of hA (fun _ => ?_) (fun _ => ?_)
    | exact imp_of hA id
    | (refine imp_of hA ?_; subst hA; simp only [real, Bool.true_and]; exact id)
    | (refine ind_of hA ?_; decide +kernel)
    | exact room_add hA (by omega) (by decide)
  · rename_i hlt hin
    have hlt : f ≤ t := by subst hA; exact of_decide_eq_true hlt
    have hin : t < f + j.size := by
      subst hA
      have h : t < IntKind.i64.wrap (f + j.size) := of_decide_eq_true hin
      rw [hws] at h; exact h
    have hg := slideF_go (size := j.size) (step := j.step) (t := t) (f := f) hsp hf.1 ht.2 hlt
    rw [if_pos hin] at hg
    refine ⟨⟨(f + j.step, n1 + 1, fun k => if k < n1 then row k else eWin ⟨f, f + j.size⟩, l ++ [⟨f, f + j.size⟩]), ⟨by simp only; omega, by simp only; omega⟩, tells_snoc hT (fun k _ => rfl), by rw [List.append_assoc, ← hw, hg]⟩, by simp only; omega, cov_of ?_ ?_ ?_⟩
    · cbv
      subst hA
      repeat' first | apply And.intro | exact True.intro | exact congrArg (fun x => DV.v (.int .i64 x)) hwp | rfl | (intro k hk; exact push_at rfl _ _ _ _ k hk)
    · cbv
      subst hA
      repeat' first | apply And.intro | exact True.intro | rfl | (intro k hk; exact (push_at rfl _ _ _ _ k hk).trans (congrArg (fun x => if k < n1 then row k else [eI f, eI x]) hws))
    · cbv
  · rename_i hlt hin
    have hlt : f ≤ t := by subst hA; exact of_decide_eq_true hlt
    have hin : ¬ t < f + j.size := by
      subst hA
      have h : ¬ t < IntKind.i64.wrap (f + j.size) := of_decide_eq_false hin
      rw [hws] at h; exact h
    have hg := slideF_go (size := j.size) (step := j.step) (t := t) (f := f) hsp hf.1 ht.2 hlt
    rw [if_neg hin] at hg
    refine ⟨⟨(f + j.step, n1, row, l), ⟨by simp only; omega, by simp only; omega⟩, hT, by rw [← hw, hg]; rfl⟩, by simp only; omega, cov_of ?_ ?_ ?_⟩
    · cbv
      subst hA
      repeat' first | apply And.intro | exact True.intro | exact congrArg (fun x => DV.v (.int .i64 x)) hwp | rfl | (intro k hk; exact push_at rfl _ _ _ _ k hk)
    · cbv; try (subst hA; repeat' first | apply And.intro | exact True.intro | rfl | (intro _ _; rfl))
    · cbv
  · rename_i hlt
    have hlt : ¬ f ≤ t := by subst hA; exact of_decide_eq_false hlt
    rw [slideF_end hlt, List.append_nil] at hw
    subst hw
    have hnn : n1 = n := hT.1.trans hl.1.symm
    subst hnn
    refine stop_of hA ⟨[(5, .c (.own 2368 0 n1 1))], [(2368, 1, .arr 2 n1 fun i => eWin (g i))]⟩ (cov_of ?_ ?_ ?_) ?_
    · cbv
    · cbv
      exact ⟨fun q hq => (hT.2 q hq).trans (hl.2 q hq).symm, trivial⟩
    · cbv
    · cbv
      repeat' first
        | apply And.intro
        | exact True.intro
        | with_reducible rfl
        | exact same_of hA rfl
        | refine br_of hA (fun _ => ?_) (fun _ => ?_)
        | exact imp_of hA id
        | (refine imp_of hA ?_; subst hA; simp only [real, Bool.true_and]; exact id)
        | (refine ind_of hA ?_; decide +kernel)
theorem c_l4Of (j : JobT) (t : Int) (hj : JobOkP j) (ht : 0 ≤ t ∧ t ≤ 60) (n : Nat) (g : Nat → WinT) (hl : Tells zWin eWin (winsL j t) n (fun i => eWin (g i))) : Meets Try.prog 80 [xd (eJob j), .c (.d (eI t))] ⟨.one (.c (.own 2 n fun i => eWin (g i))), [none, none]⟩ := by
  have hsz : 1 ≤ j.size ∧ j.size ≤ 20 := hj.2.2.2.1
  have hst := hj.2.2.2.2.1
  have hkk : 1 ≤ j.kind ∧ j.kind ≤ 3 := hj.2.2.1
  by_cases k2 : j.kind = 2
  · exact m_l4Of2 j t hsz (by omega) (by omega) k2 ht n g hl
  have a := Int.tmod_nonneg j.size ht.1
  have b := Int.tmod_lt_of_pos t (show 0 < j.size by omega)
  by_cases k1 : j.kind = 1
  · have e := winsL_fixed k1 hsz.1 ht.1 ht.2
    rw [e] at hl
    have hn : n = 1 := hl.1
    subst hn
    refine meets_rows (fun i hi => ?_) (m_l4Of1 j t hsz.1 k1 _ rfl)
    have hi0 : i = 0 := Nat.lt_one_iff.1 hi
    subst hi0
    refine Eq.trans ?_ (hl.2 0 hi).symm
    show [eI (IntKind.i64.wrap (t - t.tmod j.size)), eI (IntKind.i64.wrap (IntKind.i64.wrap (t - t.tmod j.size) + j.size))] = [eI (t - t.tmod j.size), eI (t - t.tmod j.size + j.size)]
    rw [IntWalk.i64_in (t - t.tmod j.size) (by omega), IntWalk.i64_in (t - t.tmod j.size + j.size) (by omega)]
  · have k3 : j.kind = 3 := by omega
    have e := winsL_sess k3 hsz.1 ht.1 ht.2
    rw [e] at hl
    have hn : n = 1 := hl.1
    subst hn
    refine meets_rows (fun i hi => ?_) (m_l4Of3 j t hsz.1 k3 _ rfl)
    have hi0 : i = 0 := Nat.lt_one_iff.1 hi
    subst hi0
    refine Eq.trans ?_ (hl.2 0 hi).symm
    show [eI t, eI (IntKind.i64.wrap (t + j.size))] = [eI t, eI (t + j.size)]
    rw [IntWalk.i64_in (t + j.size) (by omega)]
set_option maxRecDepth 100000 in
theorem c_isRec (kind t key v n : Int) : ∃ b, b = decide (kind = 1 ∧ (0 ≤ t ∧ t ≤ 60) ∧ (0 ≤ key ∧ key ≤ 3) ∧ (-9 ≤ v ∧ v ≤ 9) ∧ n = 0) ∧ Meets Try.prog 77 [.agg [.d (eI kind), .d (eI t), .d (eI key), .d (eI v), .d (eI n)]] ⟨.one (.c (.d (eB b))), [none]⟩ := by
  obtain ⟨b, hb⟩ : ∃ b, b = decide (kind = 1 ∧ (0 ≤ t ∧ t ≤ 60) ∧ (0 ≤ key ∧ key ≤ 3) ∧ (-9 ≤ v ∧ v ≤ 9) ∧ n = 0) := ⟨_, rfl⟩
  refine ⟨b, hb, ?_⟩
  refine meets_of (H := []) (EX := EXA) ttok mixed Try.func77 rfl (by kernel_rfl) (by decide) ?_
  generalize hA : real = A
  generalize hM : Meets Try.prog = M
  cbv
  repeat' first
    | apply And.intro
    | exact True.intro
    | with_reducible rfl
    | exact same_of hA rfl
    | refine br_of hA (fun _ => ?_) (fun _ => ?_)
    | exact imp_of hA id
    | (refine imp_of hA ?_; subst hA; simp only [real, Bool.true_and]; exact id)
    | (refine ind_of hA ?_; decide +kernel)
    | (refine call_ex hA hM (c_ItmOk _ _ _ _ _) (fun _ _ => ?_); cbv)
  all_goals subst hA
  all_goals refine congrArg (fun b => XA.one (.c (.d (eB b)))) (Bool.eq_iff_iff.2 ?_)
  all_goals subst_vars
  all_goals try simp only [real, bifA, bifB, bifC, bifD, decide_eq_true_eq, decide_eq_false_iff_not, beq_iff_eq, bne_iff_ne, beq_eq_false_iff_ne, bne_eq_false_iff_eq, ne_eq, Bool.and_eq_true, Bool.or_eq_true, Bool.not_eq_true', Bool.not_eq_false', Bool.and_eq_false_iff, Bool.or_eq_false_iff, Bool.false_eq_true, and_false, false_and, or_false, false_or, and_true, true_and, not_true_eq_false, not_false_eq_true, true_iff, false_iff, IntKind.wrap_i64] at *
  all_goals first
    | omega
    | skip
open Classical in
set_option maxRecDepth 100000 in
theorem c_notRec (x : ItmT) : ∃ b, (b = true ↔ ¬ RecP x) ∧ Meets Try.prog 76 [xd (eItm x)] ⟨.one (.c (.d (eB b))), [none]⟩ := by
  obtain ⟨b, hb⟩ : ∃ b : Bool, (b = true ↔ ¬ RecP x) := ⟨decide (¬ RecP x), by rw [decide_eq_true_eq]⟩
  refine ⟨b, hb, ?_⟩
  obtain ⟨kind, t, key, v, n⟩ := x
  refine meets_of (H := []) (EX := EXA) ttok mixed Try.func76 rfl (by kernel_rfl) (by decide) ?_
  generalize hA : real = A
  generalize hM : Meets Try.prog = M
  cbv
  repeat' first
    | apply And.intro
    | exact True.intro
    | with_reducible rfl
    | exact same_of hA rfl
    | refine br_of hA (fun _ => ?_) (fun _ => ?_)
    | exact imp_of hA id
    | (refine imp_of hA ?_; subst hA; simp only [real, Bool.true_and]; exact id)
    | (refine ind_of hA ?_; decide +kernel)
    | (refine call_ex hA hM (c_isRec _ _ _ _ _) (fun _ _ => ?_); cbv)
  rename_i b1 hb1
  refine congrArg (fun b => XA.one (.c (.d (eB b)))) (Bool.eq_iff_iff.2 ?_)
  subst hA; subst hb1
  rw [hb]
  simp only [real, bifA, bifB, bifC, bifD, beqB, decide_eq_true_eq, decide_eq_false_iff_not, beqI, bneI, beqIF, bneIF, ne_eq, Bool.and_eq_true, Bool.or_eq_true, Bool.not_eq_true', Bool.not_eq_false', Bool.and_eq_false_iff, Bool.or_eq_false_iff, Bool.false_eq_true, and_false, false_and, or_false, false_or, and_true, true_and, not_true_eq_false, not_false_eq_true, true_iff, false_iff, Int.ofNat_eq_natCast, Int.toNat_natCast]
  unfold RecP ItmOkP
  simp only
  omega
def st_l6 (m : Nat) (g : Nat → ItmT) (i : Nat) : St := ⟨[(3, .c (.d (eI i))), (0, .c (.d (.sl 5 m fun i => eItm (g i))))], []⟩
open Classical in
set_option maxRecDepth 100000 in
theorem c_l6Recs (m : Nat) (hm : m ≤ maxLen) (g : Nat → ItmT) : ∃ b, (b = true ↔ m ≤ 120 ∧ ∀ i, i < m → RecP (g i)) ∧ Meets Try.prog 79 [.c (.d (.sl 5 m fun i => eItm (g i)))] ⟨.one (.c (.d (eB b))), [none]⟩ := by
  obtain ⟨b, hb⟩ : ∃ b : Bool, (b = true ↔ m ≤ 120 ∧ ∀ i, i < m → RecP (g i)) := ⟨decide (m ≤ 120 ∧ ∀ i, i < m → RecP (g i)), by rw [decide_eq_true_eq]⟩
  refine ⟨b, hb, ?_⟩
  refine meets_of (H := []) (EX := EXA) ttok mixed Try.func79 rfl (by kernel_rfl) (by decide) ?_
  generalize hA : real = A
  generalize hM : Meets Try.prog = M
  cbv
  repeat' first
    | apply And.intro
    | exact True.intro
    | with_reducible rfl
    | exact same_of hA rfl
    | refine br_of hA (fun _ => ?_) (fun _ => ?_)
    | exact imp_of hA id
    | (refine imp_of hA ?_; subst hA; simp only [real, Bool.true_and]; exact id)
    | (refine ind_of hA ?_; decide +kernel)
  · rename_i hbad
    refine congrArg (fun b => XA.one (.c (.d (eB b)))) ?_
    subst hA
    have hbad : (m : Int) > 120 := of_decide_eq_true hbad
    cases b with
    | false => rfl
    | true => exact absurd (hb.1 rfl).1 (by omega)
  rename_i hgood
  have hgood : m ≤ 120 := by
    subst hA
    have h : ¬ (m : Int) > 120 := of_decide_eq_false hgood
    omega
  refine loop_of hA (α := { i : Nat // i ≤ m ∧ ∀ k, k < i → RecP (g k) }) (fun x => st_l6 m g x.1) (fun x => m - x.1) ⟨0, Nat.zero_le _, fun k h => absurd h (Nat.not_lt_zero k)⟩ ?_ ?_
  · refine cov_of ?_ ?_ ?_
    · cbv; try (subst hA; repeat' first | apply And.intro | exact True.intro | rfl)
    · cbv; try (subst hA; repeat' first | apply And.intro | exact True.intro | rfl)
    · cbv
  rintro ⟨i, hi, hk⟩
  cbv
  repeat' first
    | apply And.intro
    | exact True.intro
    | with_reducible rfl
    | exact same_of hA rfl
    | refine br_of hA (fun _ => ?_) (fun _ => ?_)
    | exact imp_of hA id
    | (refine imp_of hA ?_; subst hA; simp only [real, Bool.true_and]; exact id)
    | (refine ind_of hA ?_; decide +kernel)
    | (refine call_ex hA hM (c_sItmOkP (g (A.nat (Int.ofNat i)))) (fun _ _ => ?_); cbv)
    | (refine inb_of hA fun _ => ?_; subst hA; simp only [real, Bool.and_eq_true, Bool.not_eq_true', Bool.not_eq_false', decide_eq_true_eq, Int.ofNat_eq_natCast, IntKind.wrap_i64] at *; omega)
  · rename_i hlt b1 hb1 hc
    have hlt' : i < m := by subst hA; simp only [real, decide_eq_true_eq, Int.ofNat_eq_natCast] at hlt; omega
    have hq : ¬ (RecP (g i)) := by
      subst hA
      have hb1 : b1 = true ↔ ItmOkP (g i) := hb1
      simp only [real, bifA, bifB, bifC, bifD, beqB, decide_eq_true_eq, decide_eq_false_iff_not, beqI, bneI, beqIF, bneIF, ne_eq, Classical.not_not, Bool.and_eq_true, Bool.or_eq_true, Bool.not_eq_true', Bool.not_eq_false', Bool.and_eq_false_iff, Bool.or_eq_false_iff, Bool.false_eq_true, and_false, false_and, or_false, false_or, and_true, true_and, not_true_eq_false, not_false_eq_true, true_iff, false_iff, Int.ofNat_eq_natCast, Int.toNat_natCast] at hc
      have hc : ¬ (g i).kind = 1 ∨ b1 = false := hc
      rintro ⟨h1, h2⟩
      rcases hc with h | h
      · exact h h1
      · have := hb1.2 h2
        rw [h] at this; cases this
    refine congrArg (fun b => XA.one (.c (.d (eB b)))) ?_
    cases b with
    | false => rfl
    | true =>
      exfalso
      exact hq ((hb.1 rfl).2 i hlt')
  · rename_i hlt b1 hb1 hc
    have hlt' : i < m := by subst hA; simp only [real, decide_eq_true_eq, Int.ofNat_eq_natCast] at hlt; omega
    have hq : RecP (g i) := by
      subst hA
      have hb1 : b1 = true ↔ ItmOkP (g i) := hb1
      simp only [real, bifA, bifB, bifC, bifD, beqB, decide_eq_true_eq, decide_eq_false_iff_not, beqI, bneI, beqIF, bneIF, ne_eq, Classical.not_not, Bool.and_eq_true, Bool.or_eq_true, Bool.not_eq_true', Bool.not_eq_false', Bool.and_eq_false_iff, Bool.or_eq_false_iff, Bool.false_eq_true, and_false, false_and, or_false, false_or, and_true, true_and, not_true_eq_false, not_false_eq_true, true_iff, false_iff, Int.ofNat_eq_natCast, Int.toNat_natCast] at hc
      have hc : (g i).kind = 1 ∧ b1 = true := hc
      exact ⟨hc.1, hb1.1 hc.2⟩
    refine ⟨⟨i + 1, by omega, fun k hk' => ?_⟩, by simp only; omega, cov_of ?_ ?_ ?_⟩
    · by_cases e : k = i
      · rw [e]; exact hq
      · exact hk k (by omega)
    · cbv
      subst hA
      repeat' first | apply And.intro | exact True.intro | exact congrArg (fun x => DV.v (.int .i64 x)) (up64 hlt' hm) | rfl | (intro k hk; exact push_at rfl _ _ _ _ k hk)
    · cbv; try (subst hA; repeat' first | apply And.intro | exact True.intro | rfl)
    · cbv
  rename_i hge
  have hall : ∀ k, k < m → RecP (g k) := fun k hk' => hk k (by subst hA; simp only [real, decide_eq_false_iff_not, Int.ofNat_eq_natCast] at hge; omega)
  clear hk hi hge
  exact congrArg (fun b => XA.one (.c (.d (eB b)))) (hb.2 ⟨hgood, hall⟩).symm
def st_sSpco (j : JobT) (m : Nat) (g : Nat → ItmT) (i n : Nat) (row : Nat → List DV) : St := ⟨[(6, .c (.d (eI i))), (1, .c (.d (.sl 5 m fun i => eItm (g i)))), (2, .c (.bp 128 1 0)), (5, .c (.own 576 0 n 1))], [(128, 1, .box ((eJob j).map .d)), (576, 1, .arr 7 n row)]⟩
def st_sSpci (j : JobT) (m : Nat) (g : Nat → ItmT) (i nw : Nat) (gw : Nat → WinT) (k n : Nat) (row : Nat → List DV) : St := ⟨[(8, .c (.d (eI k))), (7, .c (.own 1984 0 nw 1)), (6, .c (.d (eI i))), (1, .c (.d (.sl 5 m fun i => eItm (g i)))), (2, .c (.bp 128 1 0)), (5, .c (.own 576 0 n 1))], [(1984, 1, .arr 2 nw fun i => eWin (gw i)), (128, 1, .box ((eJob j).map .d)), (576, 1, .arr 7 n row)]⟩
set_option maxRecDepth 100000 in
theorem m_sSpc (j : JobT) (m : Nat) (hm : m ≤ maxLen) (g : Nat → ItmT) (hok : SpcOkP j m g) (n0 : Nat) (G : Nat → LatT) (hl : Tells zLat eLat (pairsL j g m) n0 (fun i => eLat (G i))) : Meets Try.prog 25 [xd (eJob j), .c (.d (.sl 5 m fun i => eItm (g i)))] ⟨.one (.c (.own 7 n0 fun i => eLat (G i))), [none, none]⟩ := by
  refine meets_of (H := [12]) (EX := EXA) ttok mixed Try.func25 rfl (by kernel_rfl) (by decide) ?_
  generalize hA : real = A
  generalize hM : Meets Try.prog = M
  cbv
  repeat' first
    | apply And.intro
    | exact True.intro
    | with_reducible rfl
    | exact same_of hA rfl
    | refine br_of hA (fun _ => ?_) (fun _ => ?_)
    | exact imp_of hA id
    | (refine imp_of hA ?_; subst hA; simp only [real, Bool.true_and]; exact id)
    | (refine ind_of hA ?_; decide +kernel)
    | (refine call_ex hA hM (c_sJobOkP j) (fun _ _ => ?_); cbv)
    | (refine call_ex hA hM (c_l6Recs m hm g) (fun _ _ => ?_); cbv)
  · exfalso
    rename_i b1 hb1 b2 hb2 hbad
    subst hA
    simp only [real, bifA, bifB, bifC, bifD, beqB, decide_eq_true_eq, decide_eq_false_iff_not, beqI, bneI, beqIF, bneIF, ne_eq, Classical.not_not, Bool.and_eq_true, Bool.or_eq_true, Bool.not_eq_true', Bool.not_eq_false', Bool.and_eq_false_iff, Bool.or_eq_false_iff, Bool.false_eq_true, and_false, false_and, or_false, false_or, and_true, true_and, not_true_eq_false, not_false_eq_true, true_iff, false_iff, Int.ofNat_eq_natCast, Int.toNat_natCast] at hbad
    rcases hbad with h | h
    · have := hb1.2 hok.1
      rw [h] at this; cases this
    · have := hb2.2 hok.2
      rw [h] at this; cases this
  refine loop_of hA (α := { q : Nat × Nat × (Nat → List DV) // q.1 ≤ m ∧ Tells zLat eLat (pairsL j g q.1) q.2.1 q.2.2 }) (fun y => st_sSpco j m g y.1.1 y.1.2.1 y.1.2.2) (fun y => m - y.1.1) ⟨(0, 0, fun _ => []), Nat.zero_le _, rfl, fun k h => absurd h (Nat.not_lt_zero k)⟩ ?_ ?_
  · refine cov_of ?_ ?_ ?_
    · cbv; try (subst hA; repeat' first | apply And.intro | exact True.intro | rfl)
    · cbv; try (subst hA; repeat' first | apply And.intro | exact True.intro | rfl | (intro k hk; exact absurd hk (Nat.not_lt_zero k)))
    · cbv
  rintro ⟨⟨i, n, row⟩, hi, hT⟩
  have hi : i ≤ m := hi
  have hT : Tells zLat eLat (pairsL j g i) n row := hT
  obtain ⟨gw, hgw⟩ : ∃ gw : Nat → WinT, gw = fun k => (winsL j (g i).t).getD k zWin := ⟨_, rfl⟩
  obtain ⟨nw, hnw⟩ : ∃ nw, nw = (winsL j (g i).t).length := ⟨_, rfl⟩
  have hTw : Tells zWin eWin (winsL j (g i).t) nw (fun i => eWin (gw i)) := ⟨hnw, fun k _ => by rw [hgw]⟩
  have hw100 : nw ≤ 100 := by rw [hnw]; exact winsL_len _ _
  have hn100 : n ≤ 100 * i := by rw [hT.1]; exact pairsL_len _ _ _
  have hm120 := hok.2.1
  cbv
  repeat' first
    | apply And.intro
    | exact True.intro
    | with_reducible rfl
    | exact same_of hA rfl
    | refine br_of hA (fun _ => ?_) (fun _ => ?_)
    | exact imp_of hA id
    | (refine imp_of hA ?_; subst hA; simp only [real, Bool.true_and]; exact id)
    | (refine ind_of hA ?_; decide +kernel)
    | (refine call_of hA hM _ (show Meets Try.prog 80 [xd (eJob j), .c (.d (eI (g (A.nat (Int.ofNat i))).t))] ⟨.one (.c (.own 2 nw fun i => eWin (gw i))), [none, none]⟩ from (by rename_i hlt; have hlt2 : i < m := (by subst hA; simp only [real, decide_eq_true_eq, Int.ofNat_eq_natCast] at hlt; omega); have hc := c_l4Of j (g i).t hok.1 (recP_t (hok.2.2 i hlt2)) nw gw hTw; subst hA; exact hc)) ?_; cbv)
    | (refine inb_of hA fun _ => ?_; subst hA; simp only [real, Bool.and_eq_true, Bool.not_eq_true', Bool.not_eq_false', decide_eq_true_eq, Int.ofNat_eq_natCast, IntKind.wrap_i64] at *; omega)
  · rename_i hlt
    have hlt' : i < m := by subst hA; simp only [real, decide_eq_true_eq, Int.ofNat_eq_natCast] at hlt; omega
    refine loop_of hA (α := { q : Nat × Nat × (Nat → List DV) // q.1 ≤ nw ∧ Tells zLat eLat (pairsL j g i ++ ((winsL j (g i).t).take q.1).map (fun w => ⟨g i, w⟩)) q.2.1 q.2.2 }) (fun y => st_sSpci j m g i nw gw y.1.1 y.1.2.1 y.1.2.2) (fun y => nw - y.1.1) ⟨(0, n, row), Nat.zero_le _, by simpa using hT⟩ ?_ ?_
    · refine cov_of ?_ ?_ ?_
      · cbv; try (subst hA; repeat' first | apply And.intro | exact True.intro | rfl)
      · cbv; try (subst hA; repeat' first | apply And.intro | exact True.intro | rfl | (intro _ _; rfl))
      · cbv
    rintro ⟨⟨k, n1, row1⟩, hk, hT1⟩
    have hk : k ≤ nw := hk
    have hT1 : Tells zLat eLat (pairsL j g i ++ ((winsL j (g i).t).take k).map (fun w => ⟨g i, w⟩)) n1 row1 := hT1
    have hn1 : n1 ≤ 100 * i + 100 := by
      have h1 := hT1.1
      rw [List.length_append, List.length_map, List.length_take] at h1
      have := pairsL_len j g i
      omega
    cbv
    repeat' first
      | apply And.intro
      | exact True.intro
      | with_reducible rfl
      | exact same_of hA rfl
      | refine br_of hA (fun _ => ?_) (fun _ => ?_)
      | exact imp_of hA id
      | (refine imp_of hA ?_; subst hA; simp only [real, Bool.true_and]; exact id)
      | (refine ind_of hA ?_; decide +kernel)
      | exact room_add hA (by omega) (by decide)
      | (refine inb_of hA fun _ => ?_; subst hA; simp only [real, Bool.and_eq_true, Bool.not_eq_true', Bool.not_eq_false', decide_eq_true_eq, Int.ofNat_eq_natCast, IntKind.wrap_i64] at *; omega)
    · rename_i hlk
      have hlk' : k < nw := by subst hA; simp only [real, decide_eq_true_eq, Int.ofNat_eq_natCast] at hlk; omega
      have e := take_succ_getD (z := zWin) (l := winsL j (g i).t) (k := k) (by rw [← hnw]; exact hlk')
      refine ⟨⟨(k + 1, n1 + 1, fun q => if q < n1 then row1 q else eLat ⟨g i, gw k⟩), by simp only; omega, ?_⟩, by simp only; omega, cov_of ?_ ?_ ?_⟩
      · simp only
        rw [e, List.map_append, ← List.append_assoc]
        exact tells_snoc hT1 (fun q _ => by rw [hgw])
      · cbv
        subst hA
        repeat' first | apply And.intro | exact True.intro | exact congrArg (fun x => DV.v (.int .i64 x)) (up64 hlk' (Nat.le_trans hw100 (by decide))) | rfl
      · cbv
        subst hA
        repeat' first | apply And.intro | exact True.intro | rfl | (intro _ _; rfl) | (intro q hq; exact push_at rfl _ _ _ _ q hq) | (intro q hq; have e0 : real.add 0 (real.nat (Int.ofNat k)) = k := Nat.zero_add k; rw [e0]; exact push_at rfl _ _ _ _ q hq)
      · cbv
    · rename_i hgk
      have hkn : k = nw := by subst hA; simp only [real, decide_eq_false_iff_not, Int.ofNat_eq_natCast] at hgk; omega
      refine ⟨⟨(i + 1, n1, row1), by simp only; omega, ?_⟩, by simp only; omega, cov_of ?_ ?_ ?_⟩
      · simp only
        unfold pairsL
        rw [hkn, hnw, List.take_of_length_le (Nat.le_refl _)] at hT1
        exact hT1
      · cbv
        subst hA
        repeat' first | apply And.intro | exact True.intro | exact congrArg (fun x => DV.v (.int .i64 x)) (up64 hlt' hm) | rfl
      · cbv; try (subst hA; repeat' first | apply And.intro | exact True.intro | rfl | (intro _ _; rfl))
      · cbv
  · rename_i hge
    have hin : i = m := by
      subst hA
      simp only [real, decide_eq_false_iff_not, Int.ofNat_eq_natCast] at hge
      omega
    subst hin
    have hnn : n = n0 := hT.1.trans hl.1.symm
    subst hnn
    refine stop_of hA ⟨[(5, .c (.own 576 0 n 1))], [(576, 1, .arr 7 n fun i => eLat (G i))]⟩ (cov_of ?_ ?_ ?_) ?_
    · cbv
    · cbv
      exact ⟨fun q hq => (hT.2 q hq).trans (hl.2 q hq).symm, trivial⟩
    · cbv
    · cbv
      repeat' first
        | apply And.intro
        | exact True.intro
        | with_reducible rfl
        | exact same_of hA rfl
        | refine br_of hA (fun _ => ?_) (fun _ => ?_)
        | exact imp_of hA id
        | (refine imp_of hA ?_; subst hA; simp only [real, Bool.true_and]; exact id)
        | (refine ind_of hA ?_; decide +kernel)
set_option maxRecDepth 100000 in
theorem m_sSpc0 (j : JobT) (m : Nat) (hm : m ≤ maxLen) (g : Nat → ItmT) (hok : ¬ SpcOkP j m g) (row : Nat → List DV) (hrow : row = real.rep [eI 0, eI 0, eI 0, eI 0, eI 0, eI 0, eI 0]) : Meets Try.prog 25 [xd (eJob j), .c (.d (.sl 5 m fun i => eItm (g i)))] ⟨.one (.c (.own 7 0 row)), [none, none]⟩ := by
  refine meets_of (H := []) (EX := EXA) ttok mixed Try.func25 rfl (by kernel_rfl) (by decide) ?_
  generalize hA : real = A
  generalize hM : Meets Try.prog = M
  cbv
  repeat' first
    | apply And.intro
    | exact True.intro
    | with_reducible rfl
    | exact same_of hA rfl
    | refine br_of hA (fun _ => ?_) (fun _ => ?_)
    | exact imp_of hA id
    | (refine imp_of hA ?_; subst hA; simp only [real, Bool.true_and]; exact id)
    | (refine ind_of hA ?_; decide +kernel)
    | (refine call_ex hA hM (c_sJobOkP j) (fun _ _ => ?_); cbv)
    | (refine call_ex hA hM (c_l6Recs m hm g) (fun _ _ => ?_); cbv)
  · subst hA; rw [hrow]
  exfalso
  rename_i b1 hb1 b2 hb2 hgood
  subst hA
  simp only [real, bifA, bifB, bifC, bifD, beqB, decide_eq_true_eq, decide_eq_false_iff_not, beqI, bneI, beqIF, bneIF, ne_eq, Classical.not_not, Bool.and_eq_true, Bool.or_eq_true, Bool.not_eq_true', Bool.not_eq_false', Bool.and_eq_false_iff, Bool.or_eq_false_iff, Bool.false_eq_true, and_false, false_and, or_false, false_or, and_true, true_and, not_true_eq_false, not_false_eq_true, true_iff, false_iff, Int.ofNat_eq_natCast, Int.toNat_natCast] at hgood
  exact hok ⟨hb1.1 hgood.1, hb2.1 hgood.2⟩
theorem c_sSpc (j : JobT) (m : Nat) (hm : m ≤ maxLen) (g : Nat → ItmT) (n0 : Nat) (G : Nat → LatT) (hl : Tells zLat eLat (spcL j m g) n0 (fun i => eLat (G i))) : Meets Try.prog 25 [xd (eJob j), .c (.d (.sl 5 m fun i => eItm (g i)))] ⟨.one (.c (.own 7 n0 fun i => eLat (G i))), [none, none]⟩ := by
  unfold spcL at hl
  by_cases hok : SpcOkP j m g
  · rw [if_pos hok] at hl
    exact m_sSpc j m hm g hok n0 G hl
  · rw [if_neg hok] at hl
    have hn : n0 = 0 := hl.1
    subst hn
    exact meets_rows (fun i hi => absurd hi (Nat.not_lt_zero i)) (m_sSpc0 j m hm g hok _ rfl)
def st_Spco (j : JobT) (m : Nat) (g : Nat → ItmT) (i n : Nat) (row : Nat → List DV) : St := ⟨[(24, .c (.d (eI i))), (23, .c (.d (eI m))), (22, .c (.d (.sl 5 m fun i => eItm (g i)))), (2, .c (.bp 128 1 0)), (5, .c (.own 2688 0 n 1))], [(128, 1, .box ((eJob j).map .d)), (2688, 1, .arr 7 n row)]⟩
def st_Spci (j : JobT) (m : Nat) (g : Nat → ItmT) (i nw : Nat) (gw : Nat → WinT) (k n : Nat) (row : Nat → List DV) : St := ⟨[(33, .c (.d (eI k))), (32, .c (.d (eI nw))), (31, .c (.own 1984 0 nw 1)), (7, .c (.bp 448 1 0)), (24, .c (.d (eI i))), (23, .c (.d (eI m))), (22, .c (.d (.sl 5 m fun i => eItm (g i)))), (2, .c (.bp 128 1 0)), (5, .c (.own 2688 0 n 1))], [(1984, 1, .arr 2 nw fun i => eWin (gw i)), (448, 1, .box ((eItm (g i)).map .d)), (128, 1, .box ((eJob j).map .d)), (2688, 1, .arr 7 n row)]⟩
set_option maxRecDepth 100000 in
theorem m_Spc (j : JobT) (m : Nat) (hm : m ≤ maxLen) (g : Nat → ItmT) (hok : SpcOkP j m g) (n0 : Nat) (G : Nat → LatT) (hl : Tells zLat eLat (pairsL j g m) n0 (fun i => eLat (G i))) : Meets Try.prog 23 [xd (eJob j), .c (.d (.sl 5 m fun i => eItm (g i)))] ⟨.one (.c (.own 7 n0 fun i => eLat (G i))), [none, none]⟩ := by
  have hcon := c_ContainsItm0 m hm g 76 _ c_notRec
  refine meets_of (H := [13]) (EX := EXA) ttok mixed Try.func23 rfl (by kernel_rfl) (by decide) ?_
  generalize hA : real = A
  generalize hM : Meets Try.prog = M
  cbv
  repeat' first
    | apply And.intro
    | exact True.intro
    | with_reducible rfl
    | exact same_of hA rfl
    | refine br_of hA (fun _ => ?_) (fun _ => ?_)
    | exact imp_of hA id
    | (refine imp_of hA ?_; subst hA; simp only [real, Bool.true_and]; exact id)
    | (refine ind_of hA ?_; decide +kernel)
    | (refine call_ex hA hM (c_JobOkP j) (fun _ _ => ?_); cbv)
    | (refine call_ex hA hM hcon (fun _ _ => ?_); cbv)
  · exfalso
    rename_i b1 hb1 b2 hb2 hbad
    subst hA
    simp only [real, bifA, bifB, bifC, bifD, beqB, decide_eq_true_eq, decide_eq_false_iff_not, beqI, bneI, beqIF, bneIF, ne_eq, Classical.not_not, Bool.and_eq_true, Bool.or_eq_true, Bool.not_eq_true', Bool.not_eq_false', Bool.and_eq_false_iff, Bool.or_eq_false_iff, Bool.false_eq_true, and_false, false_and, or_false, false_or, and_true, true_and, not_true_eq_false, not_false_eq_true, true_iff, false_iff, Int.ofNat_eq_natCast, Int.toNat_natCast] at hbad
    rcases hbad with (h | h) | h
    · have := hb1.2 hok.1
      rw [h] at this; cases this
    · have h : (m : Int) > 120 := h
      have := hok.2.1
      omega
    · obtain ⟨i, hi, hh⟩ := hb2.1 h
      exact hh (hok.2.2 i hi)
  refine loop_of hA (α := { q : Nat × Nat × (Nat → List DV) // q.1 ≤ m ∧ Tells zLat eLat (pairsL j g q.1) q.2.1 q.2.2 }) (fun y => st_Spco j m g y.1.1 y.1.2.1 y.1.2.2) (fun y => m - y.1.1) ⟨(0, 0, fun _ => []), Nat.zero_le _, rfl, fun k h => absurd h (Nat.not_lt_zero k)⟩ ?_ ?_
  · refine cov_prom 5 2688 1 7 (fun _ => []) (by cbv) (by cbv) (cov_of ?_ ?_ ?_)
    · cbv; try (subst hA; repeat' first | apply And.intro | exact True.intro | rfl)
    · cbv; try (subst hA; repeat' first | apply And.intro | exact True.intro | rfl | (intro k hk; exact absurd hk (Nat.not_lt_zero k)))
    · cbv
  rintro ⟨⟨i, n, row⟩, hi, hT⟩
  have hi : i ≤ m := hi
  have hT : Tells zLat eLat (pairsL j g i) n row := hT
  obtain ⟨gw, hgw⟩ : ∃ gw : Nat → WinT, gw = fun k => (winsL j (g i).t).getD k zWin := ⟨_, rfl⟩
  obtain ⟨nw, hnw⟩ : ∃ nw, nw = (winsL j (g i).t).length := ⟨_, rfl⟩
  have hTw : Tells zWin eWin (winsL j (g i).t) nw (fun i => eWin (gw i)) := ⟨hnw, fun k _ => by rw [hgw]⟩
  have hw100 : nw ≤ 100 := by rw [hnw]; exact winsL_len _ _
  have hn100 : n ≤ 100 * i := by rw [hT.1]; exact pairsL_len _ _ _
  have hm120 := hok.2.1
  cbv
  repeat' first
    | apply And.intro
    | exact True.intro
    | with_reducible rfl
    | exact same_of hA rfl
    | refine br_of hA (fun _ => ?_) (fun _ => ?_)
    | exact imp_of hA id
    | (refine imp_of hA ?_; subst hA; simp only [real, Bool.true_and]; exact id)
    | (refine ind_of hA ?_; decide +kernel)
    | (refine call_of hA hM _ (show Meets Try.prog 26 [xd (eJob j), .c (.d (eI (g (A.nat (Int.ofNat i))).t))] ⟨.one (.c (.own 2 nw fun i => eWin (gw i))), [none, none]⟩ from (by rename_i hlt; have hlt2 : i < m := (by subst hA; simp only [real, decide_eq_true_eq, Int.ofNat_eq_natCast] at hlt; omega); have hc := c_WinOf j (g i).t hok.1 (recP_t (hok.2.2 i hlt2)) nw gw hTw; subst hA; exact hc)) ?_; cbv)
    | (refine inb_of hA fun _ => ?_; subst hA; simp only [real, Bool.and_eq_true, Bool.not_eq_true', Bool.not_eq_false', decide_eq_true_eq, Int.ofNat_eq_natCast, IntKind.wrap_i64] at *; omega)
  · rename_i hlt
    have hlt' : i < m := by subst hA; simp only [real, decide_eq_true_eq, Int.ofNat_eq_natCast] at hlt; omega
    refine loop_of hA (α := { q : Nat × Nat × (Nat → List DV) // q.1 ≤ nw ∧ Tells zLat eLat (pairsL j g i ++ ((winsL j (g i).t).take q.1).map (fun w => ⟨g i, w⟩)) q.2.1 q.2.2 }) (fun y => st_Spci j m g i nw gw y.1.1 y.1.2.1 y.1.2.2) (fun y => nw - y.1.1) ⟨(0, n, row), Nat.zero_le _, by simpa using hT⟩ ?_ ?_
    · refine cov_of ?_ ?_ ?_
      · cbv; try (subst hA; repeat' first | apply And.intro | exact True.intro | rfl)
      · cbv; try (subst hA; repeat' first | apply And.intro | exact True.intro | rfl | (intro _ _; rfl))
      · cbv
    rintro ⟨⟨k, n1, row1⟩, hk, hT1⟩
    have hk : k ≤ nw := hk
    have hT1 : Tells zLat eLat (pairsL j g i ++ ((winsL j (g i).t).take k).map (fun w => ⟨g i, w⟩)) n1 row1 := hT1
    have hn1 : n1 ≤ 100 * i + 100 := by
      have h1 := hT1.1
      rw [List.length_append, List.length_map, List.length_take] at h1
      have := pairsL_len j g i
      omega
    cbv
    repeat' first
      | apply And.intro
      | exact True.intro
      | with_reducible rfl
      | exact same_of hA rfl
      | refine br_of hA (fun _ => ?_) (fun _ => ?_)
      | exact imp_of hA id
      | (refine imp_of hA ?_; subst hA; simp only [real, Bool.true_and]; exact id)
      | (refine ind_of hA ?_; decide +kernel)
      | exact room_add hA (by omega) (by decide)
      | (refine inb_of hA fun _ => ?_; subst hA; simp only [real, Bool.and_eq_true, Bool.not_eq_true', Bool.not_eq_false', decide_eq_true_eq, Int.ofNat_eq_natCast, IntKind.wrap_i64] at *; omega)
    · rename_i hlk
      have hlk' : k < nw := by subst hA; simp only [real, decide_eq_true_eq, Int.ofNat_eq_natCast] at hlk; omega
      have e := take_succ_getD (z := zWin) (l := winsL j (g i).t) (k := k) (by rw [← hnw]; exact hlk')
      refine ⟨⟨(k + 1, n1 + 1, fun q => if q < n1 then row1 q else eLat ⟨g i, gw k⟩), by simp only; omega, ?_⟩, by simp only; omega, cov_of ?_ ?_ ?_⟩
      · simp only
        rw [e, List.map_append, ← List.append_assoc]
        exact tells_snoc hT1 (fun q _ => by rw [hgw])
      · cbv
        subst hA
        repeat' first | apply And.intro | exact True.intro | exact congrArg (fun x => DV.v (.int .i64 x)) (up64 hlk' (Nat.le_trans hw100 (by decide))) | rfl
      · cbv
        subst hA
        repeat' first | apply And.intro | exact True.intro | rfl | (intro _ _; rfl) | (intro q hq; exact push_at rfl _ _ _ _ q hq) | (intro q hq; have e0 : real.add 0 (real.nat (Int.ofNat k)) = k := Nat.zero_add k; rw [e0]; exact push_at rfl _ _ _ _ q hq)
      · cbv
    · rename_i hgk
      have hkn : k = nw := by subst hA; simp only [real, decide_eq_false_iff_not, Int.ofNat_eq_natCast] at hgk; omega
      refine ⟨⟨(i + 1, n1, row1), by simp only; omega, ?_⟩, by simp only; omega, cov_of ?_ ?_ ?_⟩
      · simp only
        unfold pairsL
        rw [hkn, hnw, List.take_of_length_le (Nat.le_refl _)] at hT1
        exact hT1
      · cbv
        subst hA
        repeat' first | apply And.intro | exact True.intro | exact congrArg (fun x => DV.v (.int .i64 x)) (up64 hlt' hm) | rfl
      · cbv; try (subst hA; repeat' first | apply And.intro | exact True.intro | rfl | (intro _ _; rfl))
      · cbv
  · rename_i hge
    have hin : i = m := by
      subst hA
      simp only [real, decide_eq_false_iff_not, Int.ofNat_eq_natCast] at hge
      omega
    subst hin
    have hnn : n = n0 := hT.1.trans hl.1.symm
    subst hnn
    refine stop_of hA ⟨[(5, .c (.own 2688 0 n 1))], [(2688, 1, .arr 7 n fun i => eLat (G i))]⟩ (cov_of ?_ ?_ ?_) ?_
    · cbv
    · cbv
      exact ⟨fun q hq => (hT.2 q hq).trans (hl.2 q hq).symm, trivial⟩
    · cbv
    · cbv
      repeat' first
        | apply And.intro
        | exact True.intro
        | with_reducible rfl
        | exact same_of hA rfl
        | refine br_of hA (fun _ => ?_) (fun _ => ?_)
        | exact imp_of hA id
        | (refine imp_of hA ?_; subst hA; simp only [real, Bool.true_and]; exact id)
        | (refine ind_of hA ?_; decide +kernel)
set_option maxRecDepth 100000 in
theorem m_Spc0 (j : JobT) (m : Nat) (hm : m ≤ maxLen) (g : Nat → ItmT) (hok : ¬ SpcOkP j m g) : Meets Try.prog 23 [xd (eJob j), .c (.d (.sl 5 m fun i => eItm (g i)))] ⟨.one (.c (.d (.v nilS))), [none, none]⟩ := by
  have hcon := c_ContainsItm0 m hm g 76 _ c_notRec
  refine meets_of (H := []) (EX := EXA) ttok mixed Try.func23 rfl (by kernel_rfl) (by decide) ?_
  generalize hA : real = A
  generalize hM : Meets Try.prog = M
  cbv
  repeat' first
    | apply And.intro
    | exact True.intro
    | with_reducible rfl
    | exact same_of hA rfl
    | refine br_of hA (fun _ => ?_) (fun _ => ?_)
    | exact imp_of hA id
    | (refine imp_of hA ?_; subst hA; simp only [real, Bool.true_and]; exact id)
    | (refine ind_of hA ?_; decide +kernel)
    | (refine call_ex hA hM (c_JobOkP j) (fun _ _ => ?_); cbv)
    | (refine call_ex hA hM hcon (fun _ _ => ?_); cbv)
  exfalso
  rename_i b1 hb1 b2 hb2 hgood
  have e2 := nex hb2
  subst hA
  simp only [real, bifA, bifB, bifC, bifD, beqB, decide_eq_true_eq, decide_eq_false_iff_not, beqI, bneI, beqIF, bneIF, ne_eq, Classical.not_not, Bool.and_eq_true, Bool.or_eq_true, Bool.not_eq_true', Bool.not_eq_false', Bool.and_eq_false_iff, Bool.or_eq_false_iff, Bool.false_eq_true, and_false, false_and, or_false, false_or, and_true, true_and, not_true_eq_false, not_false_eq_true, true_iff, false_iff, Int.ofNat_eq_natCast, Int.toNat_natCast] at hgood
  have h : ¬ (m : Int) > 120 := hgood.1.2
  exact hok ⟨hb1.1 hgood.1.1, by omega, e2.1 hgood.2⟩
theorem c_Spc (j : JobT) (m : Nat) (hm : m ≤ maxLen) (g : Nat → ItmT) (n0 : Nat) (G : Nat → LatT) (hl : Tells zLat eLat (spcL j m g) n0 (fun i => eLat (G i))) : Meets Try.prog 23 [xd (eJob j), .c (.d (.sl 5 m fun i => eItm (g i)))] ⟨.one (.c (.own 7 n0 fun i => eLat (G i))), [none, none]⟩ := by
  unfold spcL at hl
  by_cases hok : SpcOkP j m g
  · rw [if_pos hok] at hl
    exact m_Spc j m hm g hok n0 G hl
  · rw [if_neg hok] at hl
    have hn : n0 = 0 := hl.1
    subst hn
    exact meets_nil (m_Spc0 j m hm g hok)
end Go.Rk
