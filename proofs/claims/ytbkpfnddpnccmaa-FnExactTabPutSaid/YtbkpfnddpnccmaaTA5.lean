/- The windows of a time. -/
import Derived.Test.YtbkpfnddpnccmaaTA4
import Derived.Test.YtbkpfnddpnccmaaDSp
import Derived.Test.YtbkpfnddpnccmaaRk29
namespace Go.Rk
set_option linter.unusedSimpArgs false
set_option linter.unusedVariables false
open Go.Proofs
theorem beqB (a b : Bool) : ((a == b) = true) = (a = true ↔ b = true) := by cases a <;> cases b <;> simp
theorem beqI (a b : Int) : ((a == b) = true) = (a = b) := by simp
theorem bneI (a b : Int) : ((a != b) = true) = ¬ (a = b) := by simp
theorem beqIF (a b : Int) : ((a == b) = false) = ¬ (a = b) := by simp
theorem bneIF (a b : Int) : ((a != b) = false) = (a = b) := by simp
theorem c_JobOkP (j : JobT) : ∃ b, (b = true ↔ JobOkP j) ∧ Meets Try.prog 74 [xd (eJob j)] ⟨.one (.c (.d (eB b))), [none]⟩ := by
  obtain ⟨b, hb, hm⟩ := c_JobOk j.srcs j.tsks j.kind j.size j.step j.late j.tell j.piece j.least j.room
  exact ⟨b, by rw [hb, decide_eq_true_eq]; exact Iff.rfl, hm⟩
theorem c_sJobOkP (j : JobT) : ∃ b, (b = true ↔ JobOkP j) ∧ Meets Try.prog 78 [xd (eJob j)] ⟨.one (.c (.d (eB b))), [none]⟩ := by
  obtain ⟨b, hb, hm⟩ := c_sJobOk j.srcs j.tsks j.kind j.size j.step j.late j.tell j.piece j.least j.room
  exact ⟨b, by rw [hb, decide_eq_true_eq]; exact Iff.rfl, hm⟩
theorem c_ItmOkP (x : ItmT) : ∃ b, (b = true ↔ ItmOkP x) ∧ Meets Try.prog 114 [xd (eItm x)] ⟨.one (.c (.d (eB b))), [none]⟩ := by
  obtain ⟨b, hb, hm⟩ := c_ItmOk x.kind x.t x.key x.v x.n
  exact ⟨b, by rw [hb, decide_eq_true_eq]; exact Iff.rfl, hm⟩
theorem c_sItmOkP (x : ItmT) : ∃ b, (b = true ↔ ItmOkP x) ∧ Meets Try.prog 116 [xd (eItm x)] ⟨.one (.c (.d (eB b))), [none]⟩ := by
  obtain ⟨b, hb, hm⟩ := c_sItmOk x.kind x.t x.key x.v x.n
  exact ⟨b, by rw [hb, decide_eq_true_eq]; exact Iff.rfl, hm⟩
theorem nz_of {A : Ar} (hA : real = A) {g : Bool} {n : Int} (h : n ≠ 0) : A.nz g n := by subst hA; exact fun _ => h
def st_wo (j : JobT) (t sp f : Int) (n : Nat) (row : Nat → List DV) : St := ⟨[(5, .c (.d (eI f))), (6, .c (.d (eI sp))), (1, .c (.d (eI t))), (2, .c (.bp 128 1 0)), (7, .c (.own 3392 0 n 1))], [(128, 1, .box ((eJob j).map .d)), (3392, 1, .arr 2 n row)]⟩
set_option maxRecDepth 100000 in
theorem c_WinOf (j : JobT) (t : Int) (hj : JobOkP j) (ht : 0 ≤ t ∧ t ≤ 60) (n : Nat) (g : Nat → WinT) (hl : Tells zWin eWin (winsL j t) n (fun i => eWin (g i))) : Meets Try.prog 26 [xd (eJob j), .c (.d (eI t))] ⟨.one (.c (.own 2 n fun i => eWin (g i))), [none, none]⟩ := by
  have hsz : 1 ≤ j.size ∧ j.size ≤ 20 := hj.2.2.2.1
  have hst := hj.2.2.2.2.1
  have a := Int.tmod_nonneg j.size ht.1
  have b := Int.tmod_lt_of_pos t (show 0 < j.size by omega)
  have c : t.tmod j.size ≤ t := by
    rw [Int.tmod_eq_emod_of_nonneg ht.1]
    have := Int.emod_add_mul_ediv t j.size
    have := Int.mul_nonneg (show 0 ≤ j.size by omega) (Int.ediv_nonneg ht.1 (show 0 ≤ j.size by omega))
    omega
  refine meets_of (H := [14]) (EX := EXA) ttok mixed Try.func26 rfl (by kernel_rfl) (by decide) ?_
  generalize hA : real = A
  generalize hM : Meets Try.prog = M
  cbv
  repeat' first
    | apply And.intro
    | exact True.intro
    | with_reducible rfl
    | exact same_of hA rfl
    | refine br_of hA (fun _ => ?_) (fun _ => ?_)
    | exact imp_of hA id
    | (refine imp_of hA ?_; subst hA; simp only [real, Bool.true_and]; exact id)
    | (refine ind_of hA ?_; decide +kernel)
    | (refine call_ex hA hM (c_JobOkP j) (fun _ _ => ?_); cbv)
    | (refine call_ex hA hM (c_in _ _ _) (fun _ _ => ?_); cbv)
    | exact nz_of hA (show j.size ≠ 0 by omega)
  · exfalso
    rename_i b1 hb1 b2 hb2 hbad
    subst hA; subst hb2
    simp only [real, bifA, bifB, bifC, bifD, beqB, decide_eq_true_eq, decide_eq_false_iff_not, beqI, bneI, beqIF, bneIF, ne_eq, Classical.not_not, Bool.and_eq_true, Bool.or_eq_true, Bool.not_eq_true', Bool.not_eq_false', Bool.and_eq_false_iff, Bool.or_eq_false_iff, Bool.false_eq_true, and_false, false_and, or_false, false_or, and_true, true_and, not_true_eq_false, not_false_eq_true, true_iff, false_iff, Int.ofNat_eq_natCast, Int.toNat_natCast] at hbad
    rcases hbad with h | h
    · have := hb1.2 hj
      rw [h] at this; cases this
    · exact h ht
  · rename_i b1 hb1 b2 hb2 hgood hk1
    have hk : j.kind = 1 := by subst hA; have h : (j.kind == 1) = true := hk1; simpa using h
    have hsp : 1 ≤ j.size := hsz.1
    have hf0 : IntKind.i64.wrap (t - t.tmod j.size) = t - t.tmod j.size := IntWalk.i64_in _ (by omega)
    have hs0 : j.size = j.size := rfl
    have hall : [] ++ slideF j.size j.size t 100 (t - t.tmod j.size) = winsL j t := by unfold winsL winStep winFrom; rw [if_pos hk, if_pos hk]; rfl
    refine loop_of hA (α := { q : Int × Nat × (Nat → List DV) × List WinT // (0 ≤ q.1 ∧ q.1 ≤ 80) ∧ Tells zWin eWin q.2.2.2 q.2.1 q.2.2.1 ∧ q.2.2.2 ++ slideF j.size j.size t 100 q.1 = winsL j t }) (fun y => st_wo j t j.size y.1.1 y.1.2.1 y.1.2.2.1) (fun y => (61 - y.1.1).toNat) ⟨((t - t.tmod j.size), 0, fun _ => [], []), ⟨by simp only; omega, by simp only; omega⟩, ⟨rfl, fun k h => absurd h (Nat.not_lt_zero k)⟩, hall⟩ ?_ ?_
    · refine cov_prom 7 3392 1 2 (fun _ => []) (by cbv) (by cbv) (cov_of ?_ ?_ ?_)
      · cbv; try (subst hA; repeat' first | apply And.intro | exact True.intro | exact congrArg (fun x => DV.v (.int .i64 x)) hf0 | exact congrArg (fun x => DV.v (.int .i64 x)) hs0 | rfl)
      · cbv; try (subst hA; repeat' first | apply And.intro | exact True.intro | rfl | exact (fun _ _ => rfl) | (intro k hk; exact absurd hk (Nat.not_lt_zero k)))
      · cbv
    rintro ⟨⟨f, n1, row, l⟩, hf, hT, hw⟩
    have hf : 0 ≤ f ∧ f ≤ 80 := hf
    have hT : Tells zWin eWin l n1 row := hT
    have hw : l ++ slideF j.size j.size t 100 f = winsL j t := hw
    have hn1 : n1 ≤ 100 := by
      have := congrArg List.length hw
      rw [List.length_append] at this
      have := winsL_len j t
      have := hT.1
      omega
    have hws : IntKind.i64.wrap (f + j.size) = f + j.size := IntWalk.i64_in _ (by omega)
    have hwp : IntKind.i64.wrap (f + j.size) = f + j.size := IntWalk.i64_in _ (by omega)
    cbv
    repeat' first
      | apply And.intro
      | exact True.intro
      | with_reducible rfl
      | exact same_of hA rfl
      | refine br_of hA (fun _ => ?_) (fun _ => ?_)
      | exact imp_of hA id
      | (refine imp_of hA ?_; subst hA; simp only [real, Bool.true_and]; exact id)
      | (refine ind_of hA ?_; decide +kernel)
      | exact room_add hA (by omega) (by decide)
    · rename_i hlt hin
      have hlt : f ≤ t := by subst hA; exact of_decide_eq_true hlt
      have hin : t < f + j.size := by
        subst hA
        have h : t < IntKind.i64.wrap (f + j.size) := of_decide_eq_true hin
        rw [hws] at h; exact h
      have hg := slideF_go (size := j.size) (step := j.size) (t := t) (f := f) hsp hf.1 ht.2 hlt
      rw [if_pos hin] at hg
      refine ⟨⟨(f + j.size, n1 + 1, fun k => if k < n1 then row k else eWin ⟨f, f + j.size⟩, l ++ [⟨f, f + j.size⟩]), ⟨by simp only; omega, by simp only; omega⟩, tells_snoc hT (fun k _ => rfl), by rw [List.append_assoc, ← hw, hg]⟩, by simp only; omega, cov_of ?_ ?_ ?_⟩
      · cbv
        subst hA
        repeat' first | apply And.intro | exact True.intro | exact congrArg (fun x => DV.v (.int .i64 x)) hwp | rfl | (intro k hk; exact push_at rfl _ _ _ _ k hk)
      · cbv
        subst hA
        repeat' first | apply And.intro | exact True.intro | rfl | (intro k hk; exact (push_at rfl _ _ _ _ k hk).trans (congrArg (fun x => if k < n1 then row k else [eI f, eI x]) hws))
      · cbv
    · rename_i hlt hin
      have hlt : f ≤ t := by subst hA; exact of_decide_eq_true hlt
      have hin : ¬ t < f + j.size := by
        subst hA
        have h : ¬ t < IntKind.i64.wrap (f + j.size) := of_decide_eq_false hin
        rw [hws] at h; exact h
      have hg := slideF_go (size := j.size) (step := j.size) (t := t) (f := f) hsp hf.1 ht.2 hlt
      rw [if_neg hin] at hg
      refine ⟨⟨(f + j.size, n1, row, l), ⟨by simp only; omega, by simp only; omega⟩, hT, by rw [← hw, hg]; rfl⟩, by simp only; omega, cov_of ?_ ?_ ?_⟩
      · cbv
        subst hA
        repeat' first | apply And.intro | exact True.intro | exact congrArg (fun x => DV.v (.int .i64 x)) hwp | rfl | (intro k hk; exact push_at rfl _ _ _ _ k hk)
      · cbv; try (subst hA; repeat' first | apply And.intro | exact True.intro | rfl | (intro _ _; rfl))
      · cbv
    · rename_i hlt
      have hlt : ¬ f ≤ t := by subst hA; exact of_decide_eq_false hlt
      rw [slideF_end hlt, List.append_nil] at hw
      subst hw
      have hnn : n1 = n := hT.1.trans hl.1.symm
      subst hnn
      refine stop_of hA ⟨[(7, .c (.own 3392 0 n1 1))], [(3392, 1, .arr 2 n1 fun i => eWin (g i))]⟩ (cov_of ?_ ?_ ?_) ?_
      · cbv
      · cbv
        exact ⟨fun q hq => (hT.2 q hq).trans (hl.2 q hq).symm, trivial⟩
      · cbv
      · cbv
        repeat' first
          | apply And.intro
          | exact True.intro
          | with_reducible rfl
          | exact same_of hA rfl
          | refine br_of hA (fun _ => ?_) (fun _ => ?_)
          | exact imp_of hA id
          | (refine imp_of hA ?_; subst hA; simp only [real, Bool.true_and]; exact id)
          | (refine ind_of hA ?_; decide +kernel)
  · rename_i b1 hb1 b2 hb2 hgood hk1 hk2
    have hk : j.kind = 2 := by subst hA; have h : (j.kind == 2) = true := hk2; simpa using h
    have hsp : 1 ≤ j.step ∧ j.step ≤ 20 := by omega
    have hsp2 := hsp.2
    have hsp : 1 ≤ j.step := hsp.1
    have hf0 : (0 : Int) = 0 := rfl
    have hs0 : j.step = j.step := rfl
    have hall : [] ++ slideF j.size j.step t 100 0 = winsL j t := by unfold winsL winStep winFrom; rw [if_neg (by omega), if_pos hk, if_neg (by omega), if_pos hk]; rfl
    refine loop_of hA (α := { q : Int × Nat × (Nat → List DV) × List WinT // (0 ≤ q.1 ∧ q.1 ≤ 80) ∧ Tells zWin eWin q.2.2.2 q.2.1 q.2.2.1 ∧ q.2.2.2 ++ slideF j.size j.step t 100 q.1 = winsL j t }) (fun y => st_wo j t j.step y.1.1 y.1.2.1 y.1.2.2.1) (fun y => (61 - y.1.1).toNat) ⟨(0, 0, fun _ => [], []), ⟨by simp only; omega, by simp only; omega⟩, ⟨rfl, fun k h => absurd h (Nat.not_lt_zero k)⟩, hall⟩ ?_ ?_
    · refine cov_prom 7 3392 1 2 (fun _ => []) (by cbv) (by cbv) (cov_of ?_ ?_ ?_)
      · cbv; try (subst hA; repeat' first | apply And.intro | exact True.intro | exact congrArg (fun x => DV.v (.int .i64 x)) hf0 | exact congrArg (fun x => DV.v (.int .i64 x)) hs0 | rfl)
      · cbv; try (subst hA; repeat' first | apply And.intro | exact True.intro | rfl | exact (fun _ _ => rfl) | (intro k hk; exact absurd hk (Nat.not_lt_zero k)))
      · cbv
    rintro ⟨⟨f, n1, row, l⟩, hf, hT, hw⟩
    have hf : 0 ≤ f ∧ f ≤ 80 := hf
    have hT : Tells zWin eWin l n1 row := hT
    have hw : l ++ slideF j.size j.step t 100 f = winsL j t := hw
    have hn1 : n1 ≤ 100 := by
      have := congrArg List.length hw
      rw [List.length_append] at this
      have := winsL_len j t
      have := hT.1
      omega
    have hws : IntKind.i64.wrap (f + j.size) = f + j.size := IntWalk.i64_in _ (by omega)
    have hwp : IntKind.i64.wrap (f + j.step) = f + j.step := IntWalk.i64_in _ (by omega)
    cbv
    repeat' first
      | apply And.intro
      | exact True.intro
      | with_reducible rfl
      | exact same_of hA rfl
      | refine br_of hA (fun _ => ?_) (fun _ => ?_)
      | exact imp_of hA id
      | (refine imp_of hA ?_; subst hA; simp only [real, Bool.true_and]; exact id)
      | (refine ind_of hA ?_; decide +kernel)
      | exact room_add hA (by omega) (by decide)
    · rename_i hlt hin
      have hlt : f ≤ t := by subst hA; exact of_decide_eq_true hlt
      have hin : t < f + j.size := by
        subst hA
        have h : t < IntKind.i64.wrap (f + j.size) := of_decide_eq_true hin
        rw [hws] at h; exact h
      have hg := slideF_go (size := j.size) (step := j.step) (t := t) (f := f) hsp hf.1 ht.2 hlt
      rw [if_pos hin] at hg
      refine ⟨⟨(f + j.step, n1 + 1, fun k => if k < n1 then row k else eWin ⟨f, f + j.size⟩, l ++ [⟨f, f + j.size⟩]), ⟨by simp only; omega, by simp only; omega⟩, tells_snoc hT (fun k _ => rfl), by rw [List.append_assoc, ← hw, hg]⟩, by simp only; omega, cov_of ?_ ?_ ?_⟩
      · cbv
        subst hA
        repeat' first | apply And.intro | exact True.intro | exact congrArg (fun x => DV.v (.int .i64 x)) hwp | rfl | (intro k hk; exact push_at rfl _ _ _ _ k hk)
      · cbv
        subst hA
        repeat' first | apply And.intro | exact True.intro | rfl | (intro k hk; exact (push_at rfl _ _ _ _ k hk).trans (congrArg (fun x => if k < n1 then row k else [eI f, eI x]) hws))
      · cbv
    · rename_i hlt hin
      have hlt : f ≤ t := by subst hA; exact of_decide_eq_true hlt
      have hin : ¬ t < f + j.size := by
        subst hA
        have h : ¬ t < IntKind.i64.wrap (f + j.size) := of_decide_eq_false hin
        rw [hws] at h; exact h
      have hg := slideF_go (size := j.size) (step := j.step) (t := t) (f := f) hsp hf.1 ht.2 hlt
      rw [if_neg hin] at hg
      refine ⟨⟨(f + j.step, n1, row, l), ⟨by simp only; omega, by simp only; omega⟩, hT, by rw [← hw, hg]; rfl⟩, by simp only; omega, cov_of ?_ ?_ ?_⟩
      · cbv
        subst hA
        repeat' first | apply And.intro | exact True.intro | exact congrArg (fun x => DV.v (.int .i64 x)) hwp | rfl | (intro k hk; exact push_at rfl _ _ _ _ k hk)
      · cbv; try (subst hA; repeat' first | apply And.intro | exact True.intro | rfl | (intro _ _; rfl))
      · cbv
    · rename_i hlt
      have hlt : ¬ f ≤ t := by subst hA; exact of_decide_eq_false hlt
      rw [slideF_end hlt, List.append_nil] at hw
      subst hw
      have hnn : n1 = n := hT.1.trans hl.1.symm
      subst hnn
      refine stop_of hA ⟨[(7, .c (.own 3392 0 n1 1))], [(3392, 1, .arr 2 n1 fun i => eWin (g i))]⟩ (cov_of ?_ ?_ ?_) ?_
      · cbv
      · cbv
        exact ⟨fun q hq => (hT.2 q hq).trans (hl.2 q hq).symm, trivial⟩
      · cbv
      · cbv
        repeat' first
          | apply And.intro
          | exact True.intro
          | with_reducible rfl
          | exact same_of hA rfl
          | refine br_of hA (fun _ => ?_) (fun _ => ?_)
          | exact imp_of hA id
          | (refine imp_of hA ?_; subst hA; simp only [real, Bool.true_and]; exact id)
          | (refine ind_of hA ?_; decide +kernel)
  · rename_i b1 hb1 b2 hb2 hgood hk1 hk2
    have hk1 : ¬ j.kind = 1 := by subst hA; have h : (j.kind == 1) = false := hk1; simpa using h
    have hk2 : ¬ j.kind = 2 := by subst hA; have h : (j.kind == 2) = false := hk2; simpa using h
    have hsp : (1 : Int) ≤ 1 := Int.le_refl _
    have hf0 : t = t := rfl
    have hs0 : (1 : Int) = 1 := rfl
    have hall : [] ++ slideF j.size 1 t 100 t = winsL j t := by unfold winsL winStep winFrom; rw [if_neg hk1, if_neg hk2, if_neg hk1, if_neg hk2]; rfl
    refine loop_of hA (α := { q : Int × Nat × (Nat → List DV) × List WinT // (0 ≤ q.1 ∧ q.1 ≤ 80) ∧ Tells zWin eWin q.2.2.2 q.2.1 q.2.2.1 ∧ q.2.2.2 ++ slideF j.size 1 t 100 q.1 = winsL j t }) (fun y => st_wo j t 1 y.1.1 y.1.2.1 y.1.2.2.1) (fun y => (61 - y.1.1).toNat) ⟨(t, 0, fun _ => [], []), ⟨by simp only; omega, by simp only; omega⟩, ⟨rfl, fun k h => absurd h (Nat.not_lt_zero k)⟩, hall⟩ ?_ ?_
    · refine cov_prom 7 3392 1 2 (fun _ => []) (by cbv) (by cbv) (cov_of ?_ ?_ ?_)
      · cbv; try (subst hA; repeat' first | apply And.intro | exact True.intro | exact congrArg (fun x => DV.v (.int .i64 x)) hf0 | exact congrArg (fun x => DV.v (.int .i64 x)) hs0 | rfl)
      · cbv; try (subst hA; repeat' first | apply And.intro | exact True.intro | rfl | exact (fun _ _ => rfl) | (intro k hk; exact absurd hk (Nat.not_lt_zero k)))
      · cbv
    rintro ⟨⟨f, n1, row, l⟩, hf, hT, hw⟩
    have hf : 0 ≤ f ∧ f ≤ 80 := hf
    have hT : Tells zWin eWin l n1 row := hT
    have hw : l ++ slideF j.size 1 t 100 f = winsL j t := hw
    have hn1 : n1 ≤ 100 := by
      have := congrArg List.length hw
      rw [List.length_append] at this
      have := winsL_len j t
      have := hT.1
      omega
    have hws : IntKind.i64.wrap (f + j.size) = f + j.size := IntWalk.i64_in _ (by omega)
    have hwp : IntKind.i64.wrap (f + 1) = f + 1 := IntWalk.i64_in _ (by omega)
    cbv
    repeat' first
      | apply And.intro
      | exact True.intro
      | with_reducible rfl
      | exact same_of hA rfl
      | refine br_of hA (fun _ => ?_) (fun _ => ?_)
      | exact imp_of hA id
      | (refine imp_of hA ?_; subst hA; simp only [real, Bool.true_and]; exact id)
      | (refine ind_of hA ?_; decide +kernel)
      | exact room_add hA (by omega) (by decide)
    · rename_i hlt hin
      have hlt : f ≤ t := by subst hA; exact of_decide_eq_true hlt
      have hin : t < f + j.size := by
        subst hA
        have h : t < IntKind.i64.wrap (f + j.size) := of_decide_eq_true hin
        rw [hws] at h; exact h
      have hg := slideF_go (size := j.size) (step := 1) (t := t) (f := f) hsp hf.1 ht.2 hlt
      rw [if_pos hin] at hg
      refine ⟨⟨(f + 1, n1 + 1, fun k => if k < n1 then row k else eWin ⟨f, f + j.size⟩, l ++ [⟨f, f + j.size⟩]), ⟨by simp only; omega, by simp only; omega⟩, tells_snoc hT (fun k _ => rfl), by rw [List.append_assoc, ← hw, hg]⟩, by simp only; omega, cov_of ?_ ?_ ?_⟩
      · cbv
        subst hA
        repeat' first | apply And.intro | exact True.intro | exact congrArg (fun x => DV.v (.int .i64 x)) hwp | rfl | (intro k hk; exact push_at rfl _ _ _ _ k hk)
      · cbv
        subst hA
        repeat' first | apply And.intro | exact True.intro | rfl | (intro k hk; exact (push_at rfl _ _ _ _ k hk).trans (congrArg (fun x => if k < n1 then row k else [eI f, eI x]) hws))
      · cbv
    · rename_i hlt hin
      have hlt : f ≤ t := by subst hA; exact of_decide_eq_true hlt
      have hin : ¬ t < f + j.size := by
        subst hA
        have h : ¬ t < IntKind.i64.wrap (f + j.size) := of_decide_eq_false hin
        rw [hws] at h; exact h
      have hg := slideF_go (size := j.size) (step := 1) (t := t) (f := f) hsp hf.1 ht.2 hlt
      rw [if_neg hin] at hg
      refine ⟨⟨(f + 1, n1, row, l), ⟨by simp only; omega, by simp only; omega⟩, hT, by rw [← hw, hg]; rfl⟩, by simp only; omega, cov_of ?_ ?_ ?_⟩
      · cbv
        subst hA
        repeat' first | apply And.intro | exact True.intro | exact congrArg (fun x => DV.v (.int .i64 x)) hwp | rfl | (intro k hk; exact push_at rfl _ _ _ _ k hk)
      · cbv; try (subst hA; repeat' first | apply And.intro | exact True.intro | rfl | (intro _ _; rfl))
      · cbv
    · rename_i hlt
      have hlt : ¬ f ≤ t := by subst hA; exact of_decide_eq_false hlt
      rw [slideF_end hlt, List.append_nil] at hw
      subst hw
      have hnn : n1 = n := hT.1.trans hl.1.symm
      subst hnn
      refine stop_of hA ⟨[(7, .c (.own 3392 0 n1 1))], [(3392, 1, .arr 2 n1 fun i => eWin (g i))]⟩ (cov_of ?_ ?_ ?_) ?_
      · cbv
      · cbv
        exact ⟨fun q hq => (hT.2 q hq).trans (hl.2 q hq).symm, trivial⟩
      · cbv
      · cbv
        repeat' first
          | apply And.intro
          | exact True.intro
          | with_reducible rfl
          | exact same_of hA rfl
          | refine br_of hA (fun _ => ?_) (fun _ => ?_)
          | exact imp_of hA id
          | (refine imp_of hA ?_; subst hA; simp only [real, Bool.true_and]; exact id)
          | (refine ind_of hA ?_; decide +kernel)
end Go.Rk
