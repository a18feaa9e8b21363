/- The walk over this seat's functions, part 5: what each of them answers, at all data. -/
import Derived.Test.YtbkpfnddpnccmaaM1
import Derived.Test.YtbkpfnddpnccmaaM2
import Derived.Test.YtbkpfnddpnccmaaM3
import Derived.Test.YtbkpfnddpnccmaaM4
import Derived.Shelf.Spec.SlicesInsertGrow
/- The windows of a time. -/
namespace Go.Rk
set_option linter.unusedSimpArgs false
set_option linter.unusedVariables false
open Go.Proofs
theorem beqB (a b : Bool) : ((a == b) = true) = (a = true ↔ b = true) := by cases a <;> cases b <;> simp
theorem beqI (a b : Int) : ((a == b) = true) = (a = b) := by simp
theorem bneI (a b : Int) : ((a != b) = true) = ¬ (a = b) := by simp
theorem beqIF (a b : Int) : ((a == b) = false) = ¬ (a = b) := by simp
theorem bneIF (a b : Int) : ((a != b) = false) = (a = b) := by simp
theorem c_JobOkP (j : JobT) : ∃ b, (b = true ↔ JobOkP j) ∧ Meets Try.prog 74 [xd (eJob j)] ⟨.one (.c (.d (eB b))), [none]⟩ := by
  obtain ⟨b, hb, hm⟩ := c_JobOk j.srcs j.tsks j.kind j.size j.step j.late j.tell j.piece j.least j.room
  exact ⟨b, by rw [hb, decide_eq_true_eq]; exact Iff.rfl, hm⟩
theorem c_sJobOkP (j : JobT) : ∃ b, (b = true ↔ JobOkP j) ∧ Meets Try.prog 78 [xd (eJob j)] ⟨.one (.c (.d (eB b))), [none]⟩ := by
  obtain ⟨b, hb, hm⟩ := c_sJobOk j.srcs j.tsks j.kind j.size j.step j.late j.tell j.piece j.least j.room
  exact ⟨b, by rw [hb, decide_eq_true_eq]; exact Iff.rfl, hm⟩
theorem c_ItmOkP (x : ItmT) : ∃ b, (b = true ↔ ItmOkP x) ∧ Meets Try.prog 114 [xd (eItm x)] ⟨.one (.c (.d (eB b))), [none]⟩ := by
  obtain ⟨b, hb, hm⟩ := c_ItmOk x.kind x.t x.key x.v x.n
  exact ⟨b, by rw [hb, decide_eq_true_eq]; exact Iff.rfl, hm⟩
theorem c_sItmOkP (x : ItmT) : ∃ b, (b = true ↔ ItmOkP x) ∧ Meets Try.prog 116 [xd (eItm x)] ⟨.one (.c (.d (eB b))), [none]⟩ := by
  obtain ⟨b, hb, hm⟩ := c_sItmOk x.kind x.t x.key x.v x.n
  exact ⟨b, by rw [hb, decide_eq_true_eq]; exact Iff.rfl, hm⟩
theorem nz_of {A : Ar} (hA : real = A) {g : Bool} {n : Int} (h : n ≠ 0) : A.nz g n := by subst hA; exact fun _ => h
def st_wo (j : JobT) (t sp f : Int) (n : Nat) (row : Nat → List DV) : St := ⟨[(5, .c (.d (eI f))), (6, .c (.d (eI sp))), (1, .c (.d (eI t))), (2, .c (.bp 128 1 0)), (7, .c (.own 3392 0 n 1))], [(128, 1, .box ((eJob j).map .d)), (3392, 1, .arr 2 n row)]⟩
set_option maxRecDepth 100000 in
theorem c_WinOf (j : JobT) (t : Int) (hj : JobOkP j) (ht : 0 ≤ t ∧ t ≤ 60) (n : Nat) (g : Nat → WinT) (hl : Tells zWin eWin (winsL j t) n (fun i => eWin (g i))) : Meets Try.prog 26 [xd (eJob j), .c (.d (eI t))] ⟨.one (.c (.own 2 n fun i => eWin (g i))), [none, none]⟩ := by
  have hsz : 1 ≤ j.size ∧ j.size ≤ 20 := hj.2.2.2.1
  have hst := hj.2.2.2.2.1
  have a := Int.tmod_nonneg j.size ht.1
  have b := Int.tmod_lt_of_pos t (show 0 < j.size by omega)
  have c : t.tmod j.size ≤ t := by
    rw [Int.tmod_eq_emod_of_nonneg ht.1]
    have := Int.emod_add_mul_ediv t j.size
    have := Int.mul_nonneg (show 0 ≤ j.size by omega) (Int.ediv_nonneg ht.1 (show 0 ≤ j.size by omega))
    omega
  refine meets_of (H := [14]) (EX := EXA) ttok mixed Try.func26 rfl (by kernel_rfl) (by decide) ?_
  generalize hA : real = A
  generalize hM : Meets Try.prog = M
  cbv
  repeat' first
    | apply And.intro
    | exact True.intro
    | with_reducible rfl
    | exact same_of hA rfl
    | refine br_of hA (fun _ => ?_) (fun _ => ?_)
    | exact imp_of hA id
    | (refine imp_of hA ?_; subst hA; simp only [real, Bool.true_and]; exact id)
    | (refine ind_of hA ?_; decide +kernel)
    | (refine call_ex hA hM (c_JobOkP j) (fun _ _ => ?_); cbv)
    | (refine call_ex hA hM (c_in _ _ _) (fun _ _ => ?_); cbv)
    | exact nz_of hA (show j.size ≠ 0 by omega)
  · exfalso
    rename_i b1 hb1 b2 hb2 hbad
    subst hA; subst hb2
    simp only [real, bifA, bifB, bifC, bifD, beqB, decide_eq_true_eq, decide_eq_false_iff_not, beqI, bneI, beqIF, bneIF, ne_eq, Classical.not_not, Bool.and_eq_true, Bool.or_eq_true, Bool.not_eq_true', Bool.not_eq_false', Bool.and_eq_false_iff, Bool.or_eq_false_iff, Bool.false_eq_true, and_false, false_and, or_false, false_or, and_true, true_and, not_true_eq_false, not_false_eq_true, true_iff, false_iff, Int.ofNat_eq_natCast, Int.toNat_natCast] at hbad
    rcases hbad with h | h
    · have := hb1.2 hj
      rw [h] at this; cases this
    · exact h ht
  · rename_i b1 hb1 b2 hb2 hgood hk1
    have hk : j.kind = 1 := by subst hA; have h : (j.kind == 1) = true := hk1; simpa using h
    have hsp : 1 ≤ j.size := hsz.1
    have hf0 : IntKind.i64.wrap (t - t.tmod j.size) = t - t.tmod j.size := IntWalk.i64_in _ (by omega)
    have hs0 : j.size = j.size := rfl
    have hall : [] ++ slideF j.size j.size t 100 (t - t.tmod j.size) = winsL j t := by unfold winsL winStep winFrom; rw [if_pos hk, if_pos hk]; rfl
    refine loop_of hA (α := { q : Int × Nat × (Nat → List DV) × List WinT // (0 ≤ q.1 ∧ q.1 ≤ 80) ∧ Tells zWin eWin q.2.2.2 q.2.1 q.2.2.1 ∧ q.2.2.2 ++ slideF j.size j.size t 100 q.1 = winsL j t }) (fun y => st_wo j t j.size y.1.1 y.1.2.1 y.1.2.2.1) (fun y => (61 - y.1.1).toNat) ⟨((t - t.tmod j.size), 0, fun _ => [], []), ⟨by simp only; omega, by simp only; omega⟩, ⟨rfl, fun k h => absurd h (Nat.not_lt_zero k)⟩, hall⟩ ?_ ?_
    · refine cov_prom 7 3392 1 2 (fun _ => []) (by cbv) (by cbv) (cov_of ?_ ?_ ?_)
      · cbv; try (subst hA; repeat' first | apply And.intro | exact True.intro | exact congrArg (fun x => DV.v (.int .i64 x)) hf0 | exact congrArg (fun x => DV.v (.int .i64 x)) hs0 | rfl)
      · cbv; try (subst hA; repeat' first | apply And.intro | exact True.intro | rfl | exact (fun _ _ => rfl) | (intro k hk; exact absurd hk (Nat.not_lt_zero k)))
      · cbv
    rintro ⟨⟨f, n1, row, l⟩, hf, hT, hw⟩
    have hf : 0 ≤ f ∧ f ≤ 80 := hf
    have hT : Tells zWin eWin l n1 row := hT
    have hw : l ++ slideF j.size j.size t 100 f = winsL j t := hw
    have hn1 : n1 ≤ 100 := by
      have := congrArg List.length hw
      rw [List.length_append] at this
      have := winsL_len j t
      have := hT.1
      omega
    have hws : IntKind.i64.wrap (f + j.size) = f + j.size := IntWalk.i64_in _ (by omega)
    have hwp : IntKind.i64.wrap (f + j.size) = f + j.size := IntWalk.i64_in _ (by omega)
    cbv
    repeat' first
      | apply And.intro
      | exact True.intro
      | with_reducible rfl
      | exact same_of hA rfl
      | refine br_of hA (fun _ => ?_) (fun _ => ?_)
      | exact imp_of hA id
      | (refine imp_of hA ?_; subst hA; simp only [real, Bool.true_and]; exact id)
      | (refine ind_of hA ?_; decide +kernel)
      | exact room_add hA (by omega) (by decide)
    · rename_i hlt hin
      have hlt : f ≤ t := by subst hA; exact of_decide_eq_true hlt
      have hin : t < f + j.size := by
        subst hA
        have h : t < IntKind.i64.wrap (f + j.size) := of_decide_eq_true hin
        rw [hws] at h; exact h
      have hg := slideF_go (size := j.size) (step := j.size) (t := t) (f := f) hsp hf.1 ht.2 hlt
      rw [if_pos hin] at hg
      refine ⟨⟨(f + j.size, n1 + 1, fun k => if k < n1 then row k else eWin ⟨f, f + j.size⟩, l ++ [⟨f, f + j.size⟩]), ⟨by simp only; omega, by simp only; omega⟩, tells_snoc hT (fun k _ => rfl), by rw [List.append_assoc, ← hw, hg]⟩, by simp only; omega, cov_of ?_ ?_ ?_⟩
      · cbv
        subst hA
        repeat' first | apply And.intro | exact True.intro | exact congrArg (fun x => DV.v (.int .i64 x)) hwp | rfl | (intro k hk; exact push_at rfl _ _ _ _ k hk)
      · cbv
        subst hA
        repeat' first | apply And.intro | exact True.intro | rfl | (intro k hk; exact (push_at rfl _ _ _ _ k hk).trans (congrArg (fun x => if k < n1 then row k else [eI f, eI x]) hws))
      · cbv
    · rename_i hlt hin
      have hlt : f ≤ t := by subst hA; exact of_decide_eq_true hlt
      have hin : ¬ t < f + j.size := by
        subst hA
        have h : ¬ t < IntKind.i64.wrap (f + j.size) := of_decide_eq_false hin
        rw [hws] at h; exact h
      have hg := slideF_go (size := j.size) (step := j.size) (t := t) (f := f) hsp hf.1 ht.2 hlt
      rw [if_neg hin] at hg
      refine ⟨⟨(f + j.size, n1, row, l), ⟨by simp only; omega, by simp only; omega⟩, hT, by rw [← hw, hg]; rfl⟩, by simp only; omega, cov_of ?_ ?_ ?_⟩
      · cbv
        subst hA
        repeat' first | apply And.intro | exact True.intro | exact congrArg (fun x => DV.v (.int .i64 x)) hwp | rfl | (intro k hk; exact push_at rfl _ _ _ _ k hk)
      · cbv; try (subst hA; repeat' first | apply And.intro | exact True.intro | rfl | (intro _ _; rfl))
      · cbv
    · rename_i hlt
      have hlt : ¬ f ≤ t := by subst hA; exact of_decide_eq_false hlt
      rw [slideF_end hlt, List.append_nil] at hw
      subst hw
      have hnn : n1 = n := hT.1.trans hl.1.symm
      subst hnn
      refine stop_of hA ⟨[(7, .c (.own 3392 0 n1 1))], [(3392, 1, .arr 2 n1 fun i => eWin (g i))]⟩ (cov_of ?_ ?_ ?_) ?_
      · cbv
      · cbv
        exact ⟨fun q hq => (hT.2 q hq).trans (hl.2 q hq).symm, trivial⟩
      · cbv
      · cbv
        repeat' first
          | apply And.intro
          | exact True.intro
          | with_reducible rfl
          | exact same_of hA rfl
          | refine br_of hA (fun _ => ?_) (fun _ => ?_)
          | exact imp_of hA id
          | (refine imp_of hA ?_; subst hA; simp only [real, Bool.true_and]; exact id)
          | (refine ind_of hA ?_; decide +kernel)
  · rename_i b1 hb1 b2 hb2 hgood hk1 hk2
    have hk : j.kind = 2 := by subst hA; have h : (j.kind == 2) = true := hk2; simpa using h
    have hsp : 1 ≤ j.step ∧ j.step ≤ 20 := by omega
    have hsp2 := hsp.2
    have hsp : 1 ≤ j.step := hsp.1
    have hf0 : (0 : Int) = 0 := rfl
    have hs0 : j.step = j.step := rfl
    have hall : [] ++ slideF j.size j.step t 100 0 = winsL j t := by unfold winsL winStep winFrom; rw [if_neg (by omega), if_pos hk, if_neg (by omega), if_pos hk]; rfl
    refine loop_of hA (α := { q : Int × Nat × (Nat → List DV) × List WinT // (0 ≤ q.1 ∧ q.1 ≤ 80) ∧ Tells zWin eWin q.2.2.2 q.2.1 q.2.2.1 ∧ q.2.2.2 ++ slideF j.size j.step t 100 q.1 = winsL j t }) (fun y => st_wo j t j.step y.1.1 y.1.2.1 y.1.2.2.1) (fun y => (61 - y.1.1).toNat) ⟨(0, 0, fun _ => [], []), ⟨by simp only; omega, by simp only; omega⟩, ⟨rfl, fun k h => absurd h (Nat.not_lt_zero k)⟩, hall⟩ ?_ ?_
    · refine cov_prom 7 3392 1 2 (fun _ => []) (by cbv) (by cbv) (cov_of ?_ ?_ ?_)
      · cbv; try (subst hA; repeat' first | apply And.intro | exact True.intro | exact congrArg (fun x => DV.v (.int .i64 x)) hf0 | exact congrArg (fun x => DV.v (.int .i64 x)) hs0 | rfl)
      · cbv; try (subst hA; repeat' first | apply And.intro | exact True.intro | rfl | exact (fun _ _ => rfl) | (intro k hk; exact absurd hk (Nat.not_lt_zero k)))
      · cbv
    rintro ⟨⟨f, n1, row, l⟩, hf, hT, hw⟩
    have hf : 0 ≤ f ∧ f ≤ 80 := hf
    have hT : Tells zWin eWin l n1 row := hT
    have hw : l ++ slideF j.size j.step t 100 f = winsL j t := hw
    have hn1 : n1 ≤ 100 := by
      have := congrArg List.length hw
      rw [List.length_append] at this
      have := winsL_len j t
      have := hT.1
      omega
    have hws : IntKind.i64.wrap (f + j.size) = f + j.size := IntWalk.i64_in _ (by omega)
    have hwp : IntKind.i64.wrap (f + j.step) = f + j.step := IntWalk.i64_in _ (by omega)
    cbv
    repeat' first
      | apply And.intro
      | exact True.intro
      | with_reducible rfl
      | exact same_of hA rfl
      | refine br_of hA (fun _ => ?_) (fun _ => ?_)
      | exact imp_of hA id
      | (refine imp_of hA ?_; subst hA; simp only [real, Bool.true_and]; exact id)
      | (refine ind_of hA ?_; decide +kernel)
      | exact room_add hA (by omega) (by decide)
    · rename_i hlt hin
      have hlt : f ≤ t := by subst hA; exact of_decide_eq_true hlt
      have hin : t < f + j.size := by
        subst hA
        have h : t < IntKind.i64.wrap (f + j.size) := of_decide_eq_true hin
        rw [hws] at h; exact h
      have hg := slideF_go (size := j.size) (step := j.step) (t := t) (f := f) hsp hf.1 ht.2 hlt
      rw [if_pos hin] at hg
      refine ⟨⟨(f + j.step, n1 + 1, fun k => if k < n1 then row k else eWin ⟨f, f + j.size⟩, l ++ [⟨f, f + j.size⟩]), ⟨by simp only; omega, by simp only; omega⟩, tells_snoc hT (fun k _ => rfl), by rw [List.append_assoc, ← hw, hg]⟩, by simp only; omega, cov_of ?_ ?_ ?_⟩
      · cbv
        subst hA
        repeat' first | apply And.intro | exact True.intro | exact congrArg (fun x => DV.v (.int .i64 x)) hwp | rfl | (intro k hk; exact push_at rfl _ _ _ _ k hk)
      · cbv
        subst hA
        repeat' first | apply And.intro | exact True.intro | rfl | (intro k hk; exact (push_at rfl _ _ _ _ k hk).trans (congrArg (fun x => if k < n1 then row k else [eI f, eI x]) hws))
      · cbv
    · rename_i hlt hin
      have hlt : f ≤ t := by subst hA; exact of_decide_eq_true hlt
      have hin : ¬ t < f + j.size := by
        subst hA
        have h : ¬ t < IntKind.i64.wrap (f + j.size) := of_decide_eq_false hin
        rw [hws] at h; exact h
      have hg := slideF_go (size := j.size) (step := j.step) (t := t) (f := f) hsp hf.1 ht.2 hlt
      rw [if_neg hin] at hg
      refine ⟨⟨(f + j.step, n1, row, l), ⟨by simp only; omega, by simp only; omega⟩, hT, by rw [← hw, hg]; rfl⟩, by simp only; omega, cov_of ?_ ?_ ?_⟩
      · cbv
        subst hA
        repeat' first | apply And.intro | exact True.intro | exact congrArg (fun x => DV.v (.int .i64 x)) hwp | rfl | (intro k hk; exact push_at rfl _ _ _ _ k hk)
      · cbv; try (subst hA; repeat' first | apply And.intro | exact True.intro | rfl | (intro _ _; rfl))
      · cbv
    · rename_i hlt
      have hlt : ¬ f ≤ t := by subst hA; exact of_decide_eq_false hlt
      rw [slideF_end hlt, List.append_nil] at hw
      subst hw
      have hnn : n1 = n := hT.1.trans hl.1.symm
      subst hnn
      refine stop_of hA ⟨[(7, .c (.own 3392 0 n1 1))], [(3392, 1, .arr 2 n1 fun i => eWin (g i))]⟩ (cov_of ?_ ?_ ?_) ?_
      · cbv
      · cbv
        exact ⟨fun q hq => (hT.2 q hq).trans (hl.2 q hq).symm, trivial⟩
      · cbv
      · cbv
        repeat' first
          | apply And.intro
          | exact True.intro
          | with_reducible rfl
          | exact same_of hA rfl
          | refine br_of hA (fun _ => ?_) (fun _ => ?_)
          | exact imp_of hA id
          | (refine imp_of hA ?_; subst hA; simp only [real, Bool.true_and]; exact id)
          | (refine ind_of hA ?_; decide +kernel)
  · rename_i b1 hb1 b2 hb2 hgood hk1 hk2
    have hk1 : ¬ j.kind = 1 := by subst hA; have h : (j.kind == 1) = false := hk1; simpa using h
    have hk2 : ¬ j.kind = 2 := by subst hA; have h : (j.kind == 2) = false := hk2; simpa using h
    have hsp : (1 : Int) ≤ 1 := Int.le_refl _
    have hf0 : t = t := rfl
    have hs0 : (1 : Int) = 1 := rfl
    have hall : [] ++ slideF j.size 1 t 100 t = winsL j t := by unfold winsL winStep winFrom; rw [if_neg hk1, if_neg hk2, if_neg hk1, if_neg hk2]; rfl
    refine loop_of hA (α := { q : Int × Nat × (Nat → List DV) × List WinT // (0 ≤ q.1 ∧ q.1 ≤ 80) ∧ Tells zWin eWin q.2.2.2 q.2.1 q.2.2.1 ∧ q.2.2.2 ++ slideF j.size 1 t 100 q.1 = winsL j t }) (fun y => st_wo j t 1 y.1.1 y.1.2.1 y.1.2.2.1) (fun y => (61 - y.1.1).toNat) ⟨(t, 0, fun _ => [], []), ⟨by simp only; omega, by simp only; omega⟩, ⟨rfl, fun k h => absurd h (Nat.not_lt_zero k)⟩, hall⟩ ?_ ?_
    · refine cov_prom 7 3392 1 2 (fun _ => []) (by cbv) (by cbv) (cov_of ?_ ?_ ?_)
      · cbv; try (subst hA; repeat' first | apply And.intro | exact True.intro | exact congrArg (fun x => DV.v (.int .i64 x)) hf0 | exact congrArg (fun x => DV.v (.int .i64 x)) hs0 | rfl)
      · cbv; try (subst hA; repeat' first | apply And.intro | exact True.intro | rfl | exact (fun _ _ => rfl) | (intro k hk; exact absurd hk (Nat.not_lt_zero k)))
      · cbv
    rintro ⟨⟨f, n1, row, l⟩, hf, hT, hw⟩
    have hf : 0 ≤ f ∧ f ≤ 80 := hf
    have hT : Tells zWin eWin l n1 row := hT
    have hw : l ++ slideF j.size 1 t 100 f = winsL j t := hw
    have hn1 : n1 ≤ 100 := by
      have := congrArg List.length hw
      rw [List.length_append] at this
      have := winsL_len j t
      have := hT.1
      omega
    have hws : IntKind.i64.wrap (f + j.size) = f + j.size := IntWalk.i64_in _ (by omega)
    have hwp : IntKind.i64.wrap (f + 1) = f + 1 := IntWalk.i64_in _ (by omega)
    cbv
    repeat' first
      | apply And.intro
      | exact True.intro
      | with_reducible rfl
      | exact same_of hA rfl
      | refine br_of hA (fun _ => ?_) (fun _ => ?_)
      | exact imp_of hA id
      | (refine imp_of hA ?_; subst hA; simp only [real, Bool.true_and]; exact id)
      | (refine ind_of hA ?_; decide +kernel)
      | exact room_add hA (by omega) (by decide)
    · rename_i hlt hin
      have hlt : f ≤ t := by subst hA; exact of_decide_eq_true hlt
      have hin : t < f + j.size := by
        subst hA
        have h : t < IntKind.i64.wrap (f + j.size) := of_decide_eq_true hin
        rw [hws] at h; exact h
      have hg := slideF_go (size := j.size) (step := 1) (t := t) (f := f) hsp hf.1 ht.2 hlt
      rw [if_pos hin] at hg
      refine ⟨⟨(f + 1, n1 + 1, fun k => if k < n1 then row k else eWin ⟨f, f + j.size⟩, l ++ [⟨f, f + j.size⟩]), ⟨by simp only; omega, by simp only; omega⟩, tells_snoc hT (fun k _ => rfl), by rw [List.append_assoc, ← hw, hg]⟩, by simp only; omega, cov_of ?_ ?_ ?_⟩
      · cbv
        subst hA
        repeat' first | apply And.intro | exact True.intro | exact congrArg (fun x => DV.v (.int .i64 x)) hwp | rfl | (intro k hk; exact push_at rfl _ _ _ _ k hk)
      · cbv
        subst hA
        repeat' first | apply And.intro | exact True.intro | rfl | (intro k hk; exact (push_at rfl _ _ _ _ k hk).trans (congrArg (fun x => if k < n1 then row k else [eI f, eI x]) hws))
      · cbv
    · rename_i hlt hin
      have hlt : f ≤ t := by subst hA; exact of_decide_eq_true hlt
      have hin : ¬ t < f + j.size := by
        subst hA
        have h : ¬ t < IntKind.i64.wrap (f + j.size) := of_decide_eq_false hin
        rw [hws] at h; exact h
      have hg := slideF_go (size := j.size) (step := 1) (t := t) (f := f) hsp hf.1 ht.2 hlt
      rw [if_neg hin] at hg
      refine ⟨⟨(f + 1, n1, row, l), ⟨by simp only; omega, by simp only; omega⟩, hT, by rw [← hw, hg]; rfl⟩, by simp only; omega, cov_of ?_ ?_ ?_⟩
      · cbv
        subst hA
        repeat' first | apply And.intro | exact True.intro | exact congrArg (fun x => DV.v (.int .i64 x)) hwp | rfl | (intro k hk; exact push_at rfl _ _ _ _ k hk)
      · cbv; try (subst hA; repeat' first | apply And.intro | exact True.intro | rfl | (intro _ _; rfl))
      · cbv
    · rename_i hlt
      have hlt : ¬ f ≤ t := by subst hA; exact of_decide_eq_false hlt
      rw [slideF_end hlt, List.append_nil] at hw
      subst hw
      have hnn : n1 = n := hT.1.trans hl.1.symm
      subst hnn
      refine stop_of hA ⟨[(7, .c (.own 3392 0 n1 1))], [(3392, 1, .arr 2 n1 fun i => eWin (g i))]⟩ (cov_of ?_ ?_ ?_) ?_
      · cbv
      · cbv
        exact ⟨fun q hq => (hT.2 q hq).trans (hl.2 q hq).symm, trivial⟩
      · cbv
      · cbv
        repeat' first
          | apply And.intro
          | exact True.intro
          | with_reducible rfl
          | exact same_of hA rfl
          | refine br_of hA (fun _ => ?_) (fun _ => ?_)
          | exact imp_of hA id
          | (refine imp_of hA ?_; subst hA; simp only [real, Bool.true_and]; exact id)
          | (refine ind_of hA ?_; decide +kernel)
end Go.Rk
/- Pairs of records and windows. -/
namespace Go.Rk
set_option linter.unusedSimpArgs false
set_option linter.unusedVariables false
open Go.Proofs
def st_l4 (j : JobT) (t sp f : Int) (n : Nat) (row : Nat → List DV) : St := ⟨[(6, .c (.d (eI f))), (1, .c (.d (eI t))), (2, .c (.bp 128 1 0)), (5, .c (.own 2368 0 n 1))], [(128, 1, .box ((eJob j).map .d)), (2368, 1, .arr 2 n row)]⟩
set_option maxRecDepth 100000 in
theorem m_l4Of1 (j : JobT) (t : Int) (hs : 1 ≤ j.size) (hk : j.kind = 1) (row : Nat → List DV) (hrow : row = real.app 1 (real.rep [eI (IntKind.i64.wrap (t - t.tmod j.size)), eI (IntKind.i64.wrap (IntKind.i64.wrap (t - t.tmod j.size) + j.size))]) (real.rep [eI 0, eI 0])) : Meets Try.prog 80 [xd (eJob j), .c (.d (eI t))] ⟨.one (.c (.own 2 1 row)), [none, none]⟩ := by
  refine meets_of (H := []) (EX := EXA) ttok mixed Try.func80 rfl (by kernel_rfl) (by decide) ?_
  generalize hA : real = A
  generalize hM : Meets Try.prog = M
  cbv
  repeat' first
    | apply And.intro
    | exact True.intro
    | with_reducible rfl
    | exact same_of hA rfl
    | refine br_of hA (fun _ => ?_) (fun _ => ?_)
    | exact imp_of hA id
    | (refine imp_of hA ?_; subst hA; simp only [real, Bool.true_and]; exact id)
    | (refine ind_of hA ?_; decide +kernel)
    | exact nz_of hA (show j.size ≠ 0 by omega)
  · subst hA; rw [hrow]; rfl
  · exfalso
    rename_i h1 h2
    subst hA
    have h : (j.kind == 1) = false := h1
    rw [hk] at h
    cases h
  · exfalso
    rename_i h1 h2
    subst hA
    have h : (j.kind == 1) = false := h1
    rw [hk] at h
    cases h
set_option maxRecDepth 100000 in
theorem m_l4Of3 (j : JobT) (t : Int) (hs : 1 ≤ j.size) (hk : j.kind = 3) (row : Nat → List DV) (hrow : row = real.app 1 (real.rep [eI t, eI (IntKind.i64.wrap (t + j.size))]) (real.rep [eI 0, eI 0])) : Meets Try.prog 80 [xd (eJob j), .c (.d (eI t))] ⟨.one (.c (.own 2 1 row)), [none, none]⟩ := by
  refine meets_of (H := []) (EX := EXA) ttok mixed Try.func80 rfl (by kernel_rfl) (by decide) ?_
  generalize hA : real = A
  generalize hM : Meets Try.prog = M
  cbv
  repeat' first
    | apply And.intro
    | exact True.intro
    | with_reducible rfl
    | exact same_of hA rfl
    | refine br_of hA (fun _ => ?_) (fun _ => ?_)
    | exact imp_of hA id
    | (refine imp_of hA ?_; subst hA; simp only [real, Bool.true_and]; exact id)
    | (refine ind_of hA ?_; decide +kernel)
    | exact nz_of hA (show j.size ≠ 0 by omega)
  · exfalso
    rename_i h1
    subst hA
    have h : (j.kind == 1) = true := h1
    rw [hk] at h
    cases h
  · subst hA; rw [hrow]; rfl
  · exfalso
    rename_i h1 h2
    subst hA
    have h : (j.kind == 3) = false := h2
    rw [hk] at h
    cases h
set_option maxRecDepth 100000 in
theorem m_l4Of2 (j : JobT) (t : Int) (hsz : 1 ≤ j.size ∧ j.size ≤ 20) (hsp : 1 ≤ j.step) (hsp2 : j.step ≤ 20) (hk : j.kind = 2) (ht : 0 ≤ t ∧ t ≤ 60) (n : Nat) (g : Nat → WinT) (hl : Tells zWin eWin (winsL j t) n (fun i => eWin (g i))) : Meets Try.prog 80 [xd (eJob j), .c (.d (eI t))] ⟨.one (.c (.own 2 n fun i => eWin (g i))), [none, none]⟩ := by
  refine meets_of (H := [12]) (EX := EXA) ttok mixed Try.func80 rfl (by kernel_rfl) (by decide) ?_
  generalize hA : real = A
  generalize hM : Meets Try.prog = M
  cbv
  repeat' first
    | apply And.intro
    | exact True.intro
    | with_reducible rfl
    | exact same_of hA rfl
    | refine br_of hA (fun _ => ?_) (fun _ => ?_)
    | exact imp_of hA id
    | (refine imp_of hA ?_; subst hA; simp only [real, Bool.true_and]; exact id)
    | (refine ind_of hA ?_; decide +kernel)
    | exact nz_of hA (show j.size ≠ 0 by omega)
  · exfalso
    rename_i h1
    subst hA
    have h : (j.kind == 1) = true := h1
    rw [hk] at h
    cases h
  · exfalso
    rename_i h1 h2
    subst hA
    have h : (j.kind == 3) = true := h2
    rw [hk] at h
    cases h
  have hf0 : (0 : Int) = 0 := rfl
  have hs0 : j.step = j.step := rfl
  have hall : [] ++ slideF j.size j.step t 100 0 = winsL j t := by unfold winsL winStep winFrom; rw [if_neg (by omega), if_pos hk, if_neg (by omega), if_pos hk]; rfl
  refine loop_of hA (α := { q : Int × Nat × (Nat → List DV) × List WinT // (0 ≤ q.1 ∧ q.1 ≤ 80) ∧ Tells zWin eWin q.2.2.2 q.2.1 q.2.2.1 ∧ q.2.2.2 ++ slideF j.size j.step t 100 q.1 = winsL j t }) (fun y => st_l4 j t j.step y.1.1 y.1.2.1 y.1.2.2.1) (fun y => (61 - y.1.1).toNat) ⟨(0, 0, fun _ => [], []), ⟨by simp only; omega, by simp only; omega⟩, ⟨rfl, fun k h => absurd h (Nat.not_lt_zero k)⟩, hall⟩ ?_ ?_
  · refine cov_of ?_ ?_ ?_
    · cbv; try (subst hA; repeat' first | apply And.intro | exact True.intro | exact congrArg (fun x => DV.v (.int .i64 x)) hf0 | exact congrArg (fun x => DV.v (.int .i64 x)) hs0 | rfl)
    · cbv; try (subst hA; repeat' first | apply And.intro | exact True.intro | rfl | exact (fun _ _ => rfl) | (intro k hk; exact absurd hk (Nat.not_lt_zero k)))
    · cbv
  rintro ⟨⟨f, n1, row, l⟩, hf, hT, hw⟩
  have hf : 0 ≤ f ∧ f ≤ 80 := hf
  have hT : Tells zWin eWin l n1 row := hT
  have hw : l ++ slideF j.size j.step t 100 f = winsL j t := hw
  have hn1 : n1 ≤ 100 := by
    have := congrArg List.length hw
    rw [List.length_append] at this
    have := winsL_len j t
    have := hT.1
    omega
  have hws : IntKind.i64.wrap (f + j.size) = f + j.size := IntWalk.i64_in _ (by omega)
  have hwp : IntKind.i64.wrap (f + j.step) = f + j.step := IntWalk.i64_in _ (by omega)
  cbv
  repeat' first
    | apply And.intro
    | exact True.intro
    | with_reducible rfl
    | exact same_of hA rfl
    | refine br_of hA (fun _ => ?_) (fun _ => ?_)
    | exact imp_of hA id
    | (refine imp_of hA ?_; subst hA; simp only [real, Bool.true_and]; exact id)
    | (refine ind_of hA ?_; decide +kernel)
    | exact room_add hA (by omega) (by decide)
  · rename_i hlt hin
    have hlt : f ≤ t := by subst hA; exact of_decide_eq_true hlt
    have hin : t < f + j.size := by
      subst hA
      have h : t < IntKind.i64.wrap (f + j.size) := of_decide_eq_true hin
      rw [hws] at h; exact h
    have hg := slideF_go (size := j.size) (step := j.step) (t := t) (f := f) hsp hf.1 ht.2 hlt
    rw [if_pos hin] at hg
    refine ⟨⟨(f + j.step, n1 + 1, fun k => if k < n1 then row k else eWin ⟨f, f + j.size⟩, l ++ [⟨f, f + j.size⟩]), ⟨by simp only; omega, by simp only; omega⟩, tells_snoc hT (fun k _ => rfl), by rw [List.append_assoc, ← hw, hg]⟩, by simp only; omega, cov_of ?_ ?_ ?_⟩
    · cbv
      subst hA
      repeat' first | apply And.intro | exact True.intro | exact congrArg (fun x => DV.v (.int .i64 x)) hwp | rfl | (intro k hk; exact push_at rfl _ _ _ _ k hk)
    · cbv
      subst hA
      repeat' first | apply And.intro | exact True.intro | rfl | (intro k hk; exact (push_at rfl _ _ _ _ k hk).trans (congrArg (fun x => if k < n1 then row k else [eI f, eI x]) hws))
    · cbv
  · rename_i hlt hin
    have hlt : f ≤ t := by subst hA; exact of_decide_eq_true hlt
    have hin : ¬ t < f + j.size := by
      subst hA
      have h : ¬ t < IntKind.i64.wrap (f + j.size) := of_decide_eq_false hin
      rw [hws] at h; exact h
    have hg := slideF_go (size := j.size) (step := j.step) (t := t) (f := f) hsp hf.1 ht.2 hlt
    rw [if_neg hin] at hg
    refine ⟨⟨(f + j.step, n1, row, l), ⟨by simp only; omega, by simp only; omega⟩, hT, by rw [← hw, hg]; rfl⟩, by simp only; omega, cov_of ?_ ?_ ?_⟩
    · cbv
      subst hA
      repeat' first | apply And.intro | exact True.intro | exact congrArg (fun x => DV.v (.int .i64 x)) hwp | rfl | (intro k hk; exact push_at rfl _ _ _ _ k hk)
    · cbv; try (subst hA; repeat' first | apply And.intro | exact True.intro | rfl | (intro _ _; rfl))
    · cbv
  · rename_i hlt
    have hlt : ¬ f ≤ t := by subst hA; exact of_decide_eq_false hlt
    rw [slideF_end hlt, List.append_nil] at hw
    subst hw
    have hnn : n1 = n := hT.1.trans hl.1.symm
    subst hnn
    refine stop_of hA ⟨[(5, .c (.own 2368 0 n1 1))], [(2368, 1, .arr 2 n1 fun i => eWin (g i))]⟩ (cov_of ?_ ?_ ?_) ?_
    · cbv
    · cbv
      exact ⟨fun q hq => (hT.2 q hq).trans (hl.2 q hq).symm, trivial⟩
    · cbv
    · cbv
      repeat' first
        | apply And.intro
        | exact True.intro
        | with_reducible rfl
        | exact same_of hA rfl
        | refine br_of hA (fun _ => ?_) (fun _ => ?_)
        | exact imp_of hA id
        | (refine imp_of hA ?_; subst hA; simp only [real, Bool.true_and]; exact id)
        | (refine ind_of hA ?_; decide +kernel)
theorem c_l4Of (j : JobT) (t : Int) (hj : JobOkP j) (ht : 0 ≤ t ∧ t ≤ 60) (n : Nat) (g : Nat → WinT) (hl : Tells zWin eWin (winsL j t) n (fun i => eWin (g i))) : Meets Try.prog 80 [xd (eJob j), .c (.d (eI t))] ⟨.one (.c (.own 2 n fun i => eWin (g i))), [none, none]⟩ := by
  have hsz : 1 ≤ j.size ∧ j.size ≤ 20 := hj.2.2.2.1
  have hst := hj.2.2.2.2.1
  have hkk : 1 ≤ j.kind ∧ j.kind ≤ 3 := hj.2.2.1
  by_cases k2 : j.kind = 2
  · exact m_l4Of2 j t hsz (by omega) (by omega) k2 ht n g hl
  have a := Int.tmod_nonneg j.size ht.1
  have b := Int.tmod_lt_of_pos t (show 0 < j.size by omega)
  by_cases k1 : j.kind = 1
  · have e := winsL_fixed k1 hsz.1 ht.1 ht.2
    rw [e] at hl
    have hn : n = 1 := hl.1
    subst hn
    refine meets_rows (fun i hi => ?_) (m_l4Of1 j t hsz.1 k1 _ rfl)
    have hi0 : i = 0 := Nat.lt_one_iff.1 hi
    subst hi0
    refine Eq.trans ?_ (hl.2 0 hi).symm
    show [eI (IntKind.i64.wrap (t - t.tmod j.size)), eI (IntKind.i64.wrap (IntKind.i64.wrap (t - t.tmod j.size) + j.size))] = [eI (t - t.tmod j.size), eI (t - t.tmod j.size + j.size)]
    rw [IntWalk.i64_in (t - t.tmod j.size) (by omega), IntWalk.i64_in (t - t.tmod j.size + j.size) (by omega)]
  · have k3 : j.kind = 3 := by omega
    have e := winsL_sess k3 hsz.1 ht.1 ht.2
    rw [e] at hl
    have hn : n = 1 := hl.1
    subst hn
    refine meets_rows (fun i hi => ?_) (m_l4Of3 j t hsz.1 k3 _ rfl)
    have hi0 : i = 0 := Nat.lt_one_iff.1 hi
    subst hi0
    refine Eq.trans ?_ (hl.2 0 hi).symm
    show [eI t, eI (IntKind.i64.wrap (t + j.size))] = [eI t, eI (t + j.size)]
    rw [IntWalk.i64_in (t + j.size) (by omega)]
set_option maxRecDepth 100000 in
theorem c_isRec (kind t key v n : Int) : ∃ b, b = decide (kind = 1 ∧ (0 ≤ t ∧ t ≤ 60) ∧ (0 ≤ key ∧ key ≤ 3) ∧ (-9 ≤ v ∧ v ≤ 9) ∧ n = 0) ∧ Meets Try.prog 77 [.agg [.d (eI kind), .d (eI t), .d (eI key), .d (eI v), .d (eI n)]] ⟨.one (.c (.d (eB b))), [none]⟩ := by
  obtain ⟨b, hb⟩ : ∃ b, b = decide (kind = 1 ∧ (0 ≤ t ∧ t ≤ 60) ∧ (0 ≤ key ∧ key ≤ 3) ∧ (-9 ≤ v ∧ v ≤ 9) ∧ n = 0) := ⟨_, rfl⟩
  refine ⟨b, hb, ?_⟩
  refine meets_of (H := []) (EX := EXA) ttok mixed Try.func77 rfl (by kernel_rfl) (by decide) ?_
  generalize hA : real = A
  generalize hM : Meets Try.prog = M
  cbv
  repeat' first
    | apply And.intro
    | exact True.intro
    | with_reducible rfl
    | exact same_of hA rfl
    | refine br_of hA (fun _ => ?_) (fun _ => ?_)
    | exact imp_of hA id
    | (refine imp_of hA ?_; subst hA; simp only [real, Bool.true_and]; exact id)
    | (refine ind_of hA ?_; decide +kernel)
    | (refine call_ex hA hM (c_ItmOk _ _ _ _ _) (fun _ _ => ?_); cbv)
  all_goals subst hA
  all_goals refine congrArg (fun b => XA.one (.c (.d (eB b)))) (Bool.eq_iff_iff.2 ?_)
  all_goals subst_vars
  all_goals try simp only [real, bifA, bifB, bifC, bifD, decide_eq_true_eq, decide_eq_false_iff_not, beq_iff_eq, bne_iff_ne, beq_eq_false_iff_ne, bne_eq_false_iff_eq, ne_eq, Bool.and_eq_true, Bool.or_eq_true, Bool.not_eq_true', Bool.not_eq_false', Bool.and_eq_false_iff, Bool.or_eq_false_iff, Bool.false_eq_true, and_false, false_and, or_false, false_or, and_true, true_and, not_true_eq_false, not_false_eq_true, true_iff, false_iff, IntKind.wrap_i64] at *
  all_goals first
    | omega
    | skip
open Classical in
set_option maxRecDepth 100000 in
theorem c_notRec (x : ItmT) : ∃ b, (b = true ↔ ¬ RecP x) ∧ Meets Try.prog 76 [xd (eItm x)] ⟨.one (.c (.d (eB b))), [none]⟩ := by
  obtain ⟨b, hb⟩ : ∃ b : Bool, (b = true ↔ ¬ RecP x) := ⟨decide (¬ RecP x), by rw [decide_eq_true_eq]⟩
  refine ⟨b, hb, ?_⟩
  obtain ⟨kind, t, key, v, n⟩ := x
  refine meets_of (H := []) (EX := EXA) ttok mixed Try.func76 rfl (by kernel_rfl) (by decide) ?_
  generalize hA : real = A
  generalize hM : Meets Try.prog = M
  cbv
  repeat' first
    | apply And.intro
    | exact True.intro
    | with_reducible rfl
    | exact same_of hA rfl
    | refine br_of hA (fun _ => ?_) (fun _ => ?_)
    | exact imp_of hA id
    | (refine imp_of hA ?_; subst hA; simp only [real, Bool.true_and]; exact id)
    | (refine ind_of hA ?_; decide +kernel)
    | (refine call_ex hA hM (c_isRec _ _ _ _ _) (fun _ _ => ?_); cbv)
  rename_i b1 hb1
  refine congrArg (fun b => XA.one (.c (.d (eB b)))) (Bool.eq_iff_iff.2 ?_)
  subst hA; subst hb1
  rw [hb]
  simp only [real, bifA, bifB, bifC, bifD, beqB, decide_eq_true_eq, decide_eq_false_iff_not, beqI, bneI, beqIF, bneIF, ne_eq, Bool.and_eq_true, Bool.or_eq_true, Bool.not_eq_true', Bool.not_eq_false', Bool.and_eq_false_iff, Bool.or_eq_false_iff, Bool.false_eq_true, and_false, false_and, or_false, false_or, and_true, true_and, not_true_eq_false, not_false_eq_true, true_iff, false_iff, Int.ofNat_eq_natCast, Int.toNat_natCast]
  unfold RecP ItmOkP
  simp only
  omega
def st_l6 (m : Nat) (g : Nat → ItmT) (i : Nat) : St := ⟨[(3, .c (.d (eI i))), (0, .c (.d (.sl 5 m fun i => eItm (g i))))], []⟩
open Classical in
set_option maxRecDepth 100000 in
theorem c_l6Recs (m : Nat) (hm : m ≤ maxLen) (g : Nat → ItmT) : ∃ b, (b = true ↔ m ≤ 120 ∧ ∀ i, i < m → RecP (g i)) ∧ Meets Try.prog 79 [.c (.d (.sl 5 m fun i => eItm (g i)))] ⟨.one (.c (.d (eB b))), [none]⟩ := by
  obtain ⟨b, hb⟩ : ∃ b : Bool, (b = true ↔ m ≤ 120 ∧ ∀ i, i < m → RecP (g i)) := ⟨decide (m ≤ 120 ∧ ∀ i, i < m → RecP (g i)), by rw [decide_eq_true_eq]⟩
  refine ⟨b, hb, ?_⟩
  refine meets_of (H := []) (EX := EXA) ttok mixed Try.func79 rfl (by kernel_rfl) (by decide) ?_
  generalize hA : real = A
  generalize hM : Meets Try.prog = M
  cbv
  repeat' first
    | apply And.intro
    | exact True.intro
    | with_reducible rfl
    | exact same_of hA rfl
    | refine br_of hA (fun _ => ?_) (fun _ => ?_)
    | exact imp_of hA id
    | (refine imp_of hA ?_; subst hA; simp only [real, Bool.true_and]; exact id)
    | (refine ind_of hA ?_; decide +kernel)
  · rename_i hbad
    refine congrArg (fun b => XA.one (.c (.d (eB b)))) ?_
    subst hA
    have hbad : (m : Int) > 120 := of_decide_eq_true hbad
    cases b with
    | false => rfl
    | true => exact absurd (hb.1 rfl).1 (by omega)
  rename_i hgood
  have hgood : m ≤ 120 := by
    subst hA
    have h : ¬ (m : Int) > 120 := of_decide_eq_false hgood
    omega
  refine loop_of hA (α := { i : Nat // i ≤ m ∧ ∀ k, k < i → RecP (g k) }) (fun x => st_l6 m g x.1) (fun x => m - x.1) ⟨0, Nat.zero_le _, fun k h => absurd h (Nat.not_lt_zero k)⟩ ?_ ?_
  · refine cov_of ?_ ?_ ?_
    · cbv; try (subst hA; repeat' first | apply And.intro | exact True.intro | rfl)
    · cbv; try (subst hA; repeat' first | apply And.intro | exact True.intro | rfl)
    · cbv
  rintro ⟨i, hi, hk⟩
  cbv
  repeat' first
    | apply And.intro
    | exact True.intro
    | with_reducible rfl
    | exact same_of hA rfl
    | refine br_of hA (fun _ => ?_) (fun _ => ?_)
    | exact imp_of hA id
    | (refine imp_of hA ?_; subst hA; simp only [real, Bool.true_and]; exact id)
    | (refine ind_of hA ?_; decide +kernel)
    | (refine call_ex hA hM (c_sItmOkP (g (A.nat (Int.ofNat i)))) (fun _ _ => ?_); cbv)
    | (refine inb_of hA fun _ => ?_; subst hA; simp only [real, Bool.and_eq_true, Bool.not_eq_true', Bool.not_eq_false', decide_eq_true_eq, Int.ofNat_eq_natCast, IntKind.wrap_i64] at *; omega)
  · rename_i hlt b1 hb1 hc
    have hlt' : i < m := by subst hA; simp only [real, decide_eq_true_eq, Int.ofNat_eq_natCast] at hlt; omega
    have hq : ¬ (RecP (g i)) := by
      subst hA
      have hb1 : b1 = true ↔ ItmOkP (g i) := hb1
      simp only [real, bifA, bifB, bifC, bifD, beqB, decide_eq_true_eq, decide_eq_false_iff_not, beqI, bneI, beqIF, bneIF, ne_eq, Classical.not_not, Bool.and_eq_true, Bool.or_eq_true, Bool.not_eq_true', Bool.not_eq_false', Bool.and_eq_false_iff, Bool.or_eq_false_iff, Bool.false_eq_true, and_false, false_and, or_false, false_or, and_true, true_and, not_true_eq_false, not_false_eq_true, true_iff, false_iff, Int.ofNat_eq_natCast, Int.toNat_natCast] at hc
      have hc : ¬ (g i).kind = 1 ∨ b1 = false := hc
      rintro ⟨h1, h2⟩
      rcases hc with h | h
      · exact h h1
      · have := hb1.2 h2
        rw [h] at this; cases this
    refine congrArg (fun b => XA.one (.c (.d (eB b)))) ?_
    cases b with
    | false => rfl
    | true =>
      exfalso
      exact hq ((hb.1 rfl).2 i hlt')
  · rename_i hlt b1 hb1 hc
    have hlt' : i < m := by subst hA; simp only [real, decide_eq_true_eq, Int.ofNat_eq_natCast] at hlt; omega
    have hq : RecP (g i) := by
      subst hA
      have hb1 : b1 = true ↔ ItmOkP (g i) := hb1
      simp only [real, bifA, bifB, bifC, bifD, beqB, decide_eq_true_eq, decide_eq_false_iff_not, beqI, bneI, beqIF, bneIF, ne_eq, Classical.not_not, Bool.and_eq_true, Bool.or_eq_true, Bool.not_eq_true', Bool.not_eq_false', Bool.and_eq_false_iff, Bool.or_eq_false_iff, Bool.false_eq_true, and_false, false_and, or_false, false_or, and_true, true_and, not_true_eq_false, not_false_eq_true, true_iff, false_iff, Int.ofNat_eq_natCast, Int.toNat_natCast] at hc
      have hc : (g i).kind = 1 ∧ b1 = true := hc
      exact ⟨hc.1, hb1.1 hc.2⟩
    refine ⟨⟨i + 1, by omega, fun k hk' => ?_⟩, by simp only; omega, cov_of ?_ ?_ ?_⟩
    · by_cases e : k = i
      · rw [e]; exact hq
      · exact hk k (by omega)
    · cbv
      subst hA
      repeat' first | apply And.intro | exact True.intro | exact congrArg (fun x => DV.v (.int .i64 x)) (up64 hlt' hm) | rfl | (intro k hk; exact push_at rfl _ _ _ _ k hk)
    · cbv; try (subst hA; repeat' first | apply And.intro | exact True.intro | rfl)
    · cbv
  rename_i hge
  have hall : ∀ k, k < m → RecP (g k) := fun k hk' => hk k (by subst hA; simp only [real, decide_eq_false_iff_not, Int.ofNat_eq_natCast] at hge; omega)
  clear hk hi hge
  exact congrArg (fun b => XA.one (.c (.d (eB b)))) (hb.2 ⟨hgood, hall⟩).symm
def st_sSpco (j : JobT) (m : Nat) (g : Nat → ItmT) (i n : Nat) (row : Nat → List DV) : St := ⟨[(6, .c (.d (eI i))), (1, .c (.d (.sl 5 m fun i => eItm (g i)))), (2, .c (.bp 128 1 0)), (5, .c (.own 576 0 n 1))], [(128, 1, .box ((eJob j).map .d)), (576, 1, .arr 7 n row)]⟩
def st_sSpci (j : JobT) (m : Nat) (g : Nat → ItmT) (i nw : Nat) (gw : Nat → WinT) (k n : Nat) (row : Nat → List DV) : St := ⟨[(8, .c (.d (eI k))), (7, .c (.own 1984 0 nw 1)), (6, .c (.d (eI i))), (1, .c (.d (.sl 5 m fun i => eItm (g i)))), (2, .c (.bp 128 1 0)), (5, .c (.own 576 0 n 1))], [(1984, 1, .arr 2 nw fun i => eWin (gw i)), (128, 1, .box ((eJob j).map .d)), (576, 1, .arr 7 n row)]⟩
set_option maxRecDepth 100000 in
theorem m_sSpc (j : JobT) (m : Nat) (hm : m ≤ maxLen) (g : Nat → ItmT) (hok : SpcOkP j m g) (n0 : Nat) (G : Nat → LatT) (hl : Tells zLat eLat (pairsL j g m) n0 (fun i => eLat (G i))) : Meets Try.prog 25 [xd (eJob j), .c (.d (.sl 5 m fun i => eItm (g i)))] ⟨.one (.c (.own 7 n0 fun i => eLat (G i))), [none, none]⟩ := by
  refine meets_of (H := [12]) (EX := EXA) ttok mixed Try.func25 rfl (by kernel_rfl) (by decide) ?_
  generalize hA : real = A
  generalize hM : Meets Try.prog = M
  cbv
  repeat' first
    | apply And.intro
    | exact True.intro
    | with_reducible rfl
    | exact same_of hA rfl
    | refine br_of hA (fun _ => ?_) (fun _ => ?_)
    | exact imp_of hA id
    | (refine imp_of hA ?_; subst hA; simp only [real, Bool.true_and]; exact id)
    | (refine ind_of hA ?_; decide +kernel)
    | (refine call_ex hA hM (c_sJobOkP j) (fun _ _ => ?_); cbv)
    | (refine call_ex hA hM (c_l6Recs m hm g) (fun _ _ => ?_); cbv)
  · exfalso
    rename_i b1 hb1 b2 hb2 hbad
    subst hA
    simp only [real, bifA, bifB, bifC, bifD, beqB, decide_eq_true_eq, decide_eq_false_iff_not, beqI, bneI, beqIF, bneIF, ne_eq, Classical.not_not, Bool.and_eq_true, Bool.or_eq_true, Bool.not_eq_true', Bool.not_eq_false', Bool.and_eq_false_iff, Bool.or_eq_false_iff, Bool.false_eq_true, and_false, false_and, or_false, false_or, and_true, true_and, not_true_eq_false, not_false_eq_true, true_iff, false_iff, Int.ofNat_eq_natCast, Int.toNat_natCast] at hbad
    rcases hbad with h | h
    · have := hb1.2 hok.1
      rw [h] at this; cases this
    · have := hb2.2 hok.2
      rw [h] at this; cases this
  refine loop_of hA (α := { q : Nat × Nat × (Nat → List DV) // q.1 ≤ m ∧ Tells zLat eLat (pairsL j g q.1) q.2.1 q.2.2 }) (fun y => st_sSpco j m g y.1.1 y.1.2.1 y.1.2.2) (fun y => m - y.1.1) ⟨(0, 0, fun _ => []), Nat.zero_le _, rfl, fun k h => absurd h (Nat.not_lt_zero k)⟩ ?_ ?_
  · refine cov_of ?_ ?_ ?_
    · cbv; try (subst hA; repeat' first | apply And.intro | exact True.intro | rfl)
    · cbv; try (subst hA; repeat' first | apply And.intro | exact True.intro | rfl | (intro k hk; exact absurd hk (Nat.not_lt_zero k)))
    · cbv
  rintro ⟨⟨i, n, row⟩, hi, hT⟩
  have hi : i ≤ m := hi
  have hT : Tells zLat eLat (pairsL j g i) n row := hT
  obtain ⟨gw, hgw⟩ : ∃ gw : Nat → WinT, gw = fun k => (winsL j (g i).t).getD k zWin := ⟨_, rfl⟩
  obtain ⟨nw, hnw⟩ : ∃ nw, nw = (winsL j (g i).t).length := ⟨_, rfl⟩
  have hTw : Tells zWin eWin (winsL j (g i).t) nw (fun i => eWin (gw i)) := ⟨hnw, fun k _ => by rw [hgw]⟩
  have hw100 : nw ≤ 100 := by rw [hnw]; exact winsL_len _ _
  have hn100 : n ≤ 100 * i := by rw [hT.1]; exact pairsL_len _ _ _
  have hm120 := hok.2.1
  cbv
  repeat' first
    | apply And.intro
    | exact True.intro
    | with_reducible rfl
    | exact same_of hA rfl
    | refine br_of hA (fun _ => ?_) (fun _ => ?_)
    | exact imp_of hA id
    | (refine imp_of hA ?_; subst hA; simp only [real, Bool.true_and]; exact id)
    | (refine ind_of hA ?_; decide +kernel)
    | (refine call_of hA hM _ (show Meets Try.prog 80 [xd (eJob j), .c (.d (eI (g (A.nat (Int.ofNat i))).t))] ⟨.one (.c (.own 2 nw fun i => eWin (gw i))), [none, none]⟩ from (by rename_i hlt; have hlt2 : i < m := (by subst hA; simp only [real, decide_eq_true_eq, Int.ofNat_eq_natCast] at hlt; omega); have hc := c_l4Of j (g i).t hok.1 (recP_t (hok.2.2 i hlt2)) nw gw hTw; subst hA; exact hc)) ?_; cbv)
    | (refine inb_of hA fun _ => ?_; subst hA; simp only [real, Bool.and_eq_true, Bool.not_eq_true', Bool.not_eq_false', decide_eq_true_eq, Int.ofNat_eq_natCast, IntKind.wrap_i64] at *; omega)
  · rename_i hlt
    have hlt' : i < m := by subst hA; simp only [real, decide_eq_true_eq, Int.ofNat_eq_natCast] at hlt; omega
    refine loop_of hA (α := { q : Nat × Nat × (Nat → List DV) // q.1 ≤ nw ∧ Tells zLat eLat (pairsL j g i ++ ((winsL j (g i).t).take q.1).map (fun w => ⟨g i, w⟩)) q.2.1 q.2.2 }) (fun y => st_sSpci j m g i nw gw y.1.1 y.1.2.1 y.1.2.2) (fun y => nw - y.1.1) ⟨(0, n, row), Nat.zero_le _, by simpa using hT⟩ ?_ ?_
    · refine cov_of ?_ ?_ ?_
      · cbv; try (subst hA; repeat' first | apply And.intro | exact True.intro | rfl)
      · cbv; try (subst hA; repeat' first | apply And.intro | exact True.intro | rfl | (intro _ _; rfl))
      · cbv
    rintro ⟨⟨k, n1, row1⟩, hk, hT1⟩
    have hk : k ≤ nw := hk
    have hT1 : Tells zLat eLat (pairsL j g i ++ ((winsL j (g i).t).take k).map (fun w => ⟨g i, w⟩)) n1 row1 := hT1
    have hn1 : n1 ≤ 100 * i + 100 := by
      have h1 := hT1.1
      rw [List.length_append, List.length_map, List.length_take] at h1
      have := pairsL_len j g i
      omega
    cbv
    repeat' first
      | apply And.intro
      | exact True.intro
      | with_reducible rfl
      | exact same_of hA rfl
      | refine br_of hA (fun _ => ?_) (fun _ => ?_)
      | exact imp_of hA id
      | (refine imp_of hA ?_; subst hA; simp only [real, Bool.true_and]; exact id)
      | (refine ind_of hA ?_; decide +kernel)
      | exact room_add hA (by omega) (by decide)
      | (refine inb_of hA fun _ => ?_; subst hA; simp only [real, Bool.and_eq_true, Bool.not_eq_true', Bool.not_eq_false', decide_eq_true_eq, Int.ofNat_eq_natCast, IntKind.wrap_i64] at *; omega)
    · rename_i hlk
      have hlk' : k < nw := by subst hA; simp only [real, decide_eq_true_eq, Int.ofNat_eq_natCast] at hlk; omega
      have e := take_succ_getD (z := zWin) (l := winsL j (g i).t) (k := k) (by rw [← hnw]; exact hlk')
      refine ⟨⟨(k + 1, n1 + 1, fun q => if q < n1 then row1 q else eLat ⟨g i, gw k⟩), by simp only; omega, ?_⟩, by simp only; omega, cov_of ?_ ?_ ?_⟩
      · simp only
        rw [e, List.map_append, ← List.append_assoc]
        exact tells_snoc hT1 (fun q _ => by rw [hgw])
      · cbv
        subst hA
        repeat' first | apply And.intro | exact True.intro | exact congrArg (fun x => DV.v (.int .i64 x)) (up64 hlk' (Nat.le_trans hw100 (by decide))) | rfl
      · cbv
        subst hA
        repeat' first | apply And.intro | exact True.intro | rfl | (intro _ _; rfl) | (intro q hq; exact push_at rfl _ _ _ _ q hq) | (intro q hq; have e0 : real.add 0 (real.nat (Int.ofNat k)) = k := Nat.zero_add k; rw [e0]; exact push_at rfl _ _ _ _ q hq)
      · cbv
    · rename_i hgk
      have hkn : k = nw := by subst hA; simp only [real, decide_eq_false_iff_not, Int.ofNat_eq_natCast] at hgk; omega
      refine ⟨⟨(i + 1, n1, row1), by simp only; omega, ?_⟩, by simp only; omega, cov_of ?_ ?_ ?_⟩
      · simp only
        unfold pairsL
        rw [hkn, hnw, List.take_of_length_le (Nat.le_refl _)] at hT1
        exact hT1
      · cbv
        subst hA
        repeat' first | apply And.intro | exact True.intro | exact congrArg (fun x => DV.v (.int .i64 x)) (up64 hlt' hm) | rfl
      · cbv; try (subst hA; repeat' first | apply And.intro | exact True.intro | rfl | (intro _ _; rfl))
      · cbv
  · rename_i hge
    have hin : i = m := by
      subst hA
      simp only [real, decide_eq_false_iff_not, Int.ofNat_eq_natCast] at hge
      omega
    subst hin
    have hnn : n = n0 := hT.1.trans hl.1.symm
    subst hnn
    refine stop_of hA ⟨[(5, .c (.own 576 0 n 1))], [(576, 1, .arr 7 n fun i => eLat (G i))]⟩ (cov_of ?_ ?_ ?_) ?_
    · cbv
    · cbv
      exact ⟨fun q hq => (hT.2 q hq).trans (hl.2 q hq).symm, trivial⟩
    · cbv
    · cbv
      repeat' first
        | apply And.intro
        | exact True.intro
        | with_reducible rfl
        | exact same_of hA rfl
        | refine br_of hA (fun _ => ?_) (fun _ => ?_)
        | exact imp_of hA id
        | (refine imp_of hA ?_; subst hA; simp only [real, Bool.true_and]; exact id)
        | (refine ind_of hA ?_; decide +kernel)
set_option maxRecDepth 100000 in
theorem m_sSpc0 (j : JobT) (m : Nat) (hm : m ≤ maxLen) (g : Nat → ItmT) (hok : ¬ SpcOkP j m g) (row : Nat → List DV) (hrow : row = real.rep [eI 0, eI 0, eI 0, eI 0, eI 0, eI 0, eI 0]) : Meets Try.prog 25 [xd (eJob j), .c (.d (.sl 5 m fun i => eItm (g i)))] ⟨.one (.c (.own 7 0 row)), [none, none]⟩ := by
  refine meets_of (H := []) (EX := EXA) ttok mixed Try.func25 rfl (by kernel_rfl) (by decide) ?_
  generalize hA : real = A
  generalize hM : Meets Try.prog = M
  cbv
  repeat' first
    | apply And.intro
    | exact True.intro
    | with_reducible rfl
    | exact same_of hA rfl
    | refine br_of hA (fun _ => ?_) (fun _ => ?_)
    | exact imp_of hA id
    | (refine imp_of hA ?_; subst hA; simp only [real, Bool.true_and]; exact id)
    | (refine ind_of hA ?_; decide +kernel)
    | (refine call_ex hA hM (c_sJobOkP j) (fun _ _ => ?_); cbv)
    | (refine call_ex hA hM (c_l6Recs m hm g) (fun _ _ => ?_); cbv)
  · subst hA; rw [hrow]
  exfalso
  rename_i b1 hb1 b2 hb2 hgood
  subst hA
  simp only [real, bifA, bifB, bifC, bifD, beqB, decide_eq_true_eq, decide_eq_false_iff_not, beqI, bneI, beqIF, bneIF, ne_eq, Classical.not_not, Bool.and_eq_true, Bool.or_eq_true, Bool.not_eq_true', Bool.not_eq_false', Bool.and_eq_false_iff, Bool.or_eq_false_iff, Bool.false_eq_true, and_false, false_and, or_false, false_or, and_true, true_and, not_true_eq_false, not_false_eq_true, true_iff, false_iff, Int.ofNat_eq_natCast, Int.toNat_natCast] at hgood
  exact hok ⟨hb1.1 hgood.1, hb2.1 hgood.2⟩
theorem c_sSpc (j : JobT) (m : Nat) (hm : m ≤ maxLen) (g : Nat → ItmT) (n0 : Nat) (G : Nat → LatT) (hl : Tells zLat eLat (spcL j m g) n0 (fun i => eLat (G i))) : Meets Try.prog 25 [xd (eJob j), .c (.d (.sl 5 m fun i => eItm (g i)))] ⟨.one (.c (.own 7 n0 fun i => eLat (G i))), [none, none]⟩ := by
  unfold spcL at hl
  by_cases hok : SpcOkP j m g
  · rw [if_pos hok] at hl
    exact m_sSpc j m hm g hok n0 G hl
  · rw [if_neg hok] at hl
    have hn : n0 = 0 := hl.1
    subst hn
    exact meets_rows (fun i hi => absurd hi (Nat.not_lt_zero i)) (m_sSpc0 j m hm g hok _ rfl)
def st_Spco (j : JobT) (m : Nat) (g : Nat → ItmT) (i n : Nat) (row : Nat → List DV) : St := ⟨[(24, .c (.d (eI i))), (23, .c (.d (eI m))), (22, .c (.d (.sl 5 m fun i => eItm (g i)))), (2, .c (.bp 128 1 0)), (5, .c (.own 2688 0 n 1))], [(128, 1, .box ((eJob j).map .d)), (2688, 1, .arr 7 n row)]⟩
def st_Spci (j : JobT) (m : Nat) (g : Nat → ItmT) (i nw : Nat) (gw : Nat → WinT) (k n : Nat) (row : Nat → List DV) : St := ⟨[(33, .c (.d (eI k))), (32, .c (.d (eI nw))), (31, .c (.own 1984 0 nw 1)), (7, .c (.bp 448 1 0)), (24, .c (.d (eI i))), (23, .c (.d (eI m))), (22, .c (.d (.sl 5 m fun i => eItm (g i)))), (2, .c (.bp 128 1 0)), (5, .c (.own 2688 0 n 1))], [(1984, 1, .arr 2 nw fun i => eWin (gw i)), (448, 1, .box ((eItm (g i)).map .d)), (128, 1, .box ((eJob j).map .d)), (2688, 1, .arr 7 n row)]⟩
set_option maxRecDepth 100000 in
theorem m_Spc (j : JobT) (m : Nat) (hm : m ≤ maxLen) (g : Nat → ItmT) (hok : SpcOkP j m g) (n0 : Nat) (G : Nat → LatT) (hl : Tells zLat eLat (pairsL j g m) n0 (fun i => eLat (G i))) : Meets Try.prog 23 [xd (eJob j), .c (.d (.sl 5 m fun i => eItm (g i)))] ⟨.one (.c (.own 7 n0 fun i => eLat (G i))), [none, none]⟩ := by
  have hcon := c_ContainsItm0 m hm g 76 _ c_notRec
  refine meets_of (H := [13]) (EX := EXA) ttok mixed Try.func23 rfl (by kernel_rfl) (by decide) ?_
  generalize hA : real = A
  generalize hM : Meets Try.prog = M
  cbv
  repeat' first
    | apply And.intro
    | exact True.intro
    | with_reducible rfl
    | exact same_of hA rfl
    | refine br_of hA (fun _ => ?_) (fun _ => ?_)
    | exact imp_of hA id
    | (refine imp_of hA ?_; subst hA; simp only [real, Bool.true_and]; exact id)
    | (refine ind_of hA ?_; decide +kernel)
    | (refine call_ex hA hM (c_JobOkP j) (fun _ _ => ?_); cbv)
    | (refine call_ex hA hM hcon (fun _ _ => ?_); cbv)
  · exfalso
    rename_i b1 hb1 b2 hb2 hbad
    subst hA
    simp only [real, bifA, bifB, bifC, bifD, beqB, decide_eq_true_eq, decide_eq_false_iff_not, beqI, bneI, beqIF, bneIF, ne_eq, Classical.not_not, Bool.and_eq_true, Bool.or_eq_true, Bool.not_eq_true', Bool.not_eq_false', Bool.and_eq_false_iff, Bool.or_eq_false_iff, Bool.false_eq_true, and_false, false_and, or_false, false_or, and_true, true_and, not_true_eq_false, not_false_eq_true, true_iff, false_iff, Int.ofNat_eq_natCast, Int.toNat_natCast] at hbad
    rcases hbad with (h | h) | h
    · have := hb1.2 hok.1
      rw [h] at this; cases this
    · have h : (m : Int) > 120 := h
      have := hok.2.1
      omega
    · obtain ⟨i, hi, hh⟩ := hb2.1 h
      exact hh (hok.2.2 i hi)
  refine loop_of hA (α := { q : Nat × Nat × (Nat → List DV) // q.1 ≤ m ∧ Tells zLat eLat (pairsL j g q.1) q.2.1 q.2.2 }) (fun y => st_Spco j m g y.1.1 y.1.2.1 y.1.2.2) (fun y => m - y.1.1) ⟨(0, 0, fun _ => []), Nat.zero_le _, rfl, fun k h => absurd h (Nat.not_lt_zero k)⟩ ?_ ?_
  · refine cov_prom 5 2688 1 7 (fun _ => []) (by cbv) (by cbv) (cov_of ?_ ?_ ?_)
    · cbv; try (subst hA; repeat' first | apply And.intro | exact True.intro | rfl)
    · cbv; try (subst hA; repeat' first | apply And.intro | exact True.intro | rfl | (intro k hk; exact absurd hk (Nat.not_lt_zero k)))
    · cbv
  rintro ⟨⟨i, n, row⟩, hi, hT⟩
  have hi : i ≤ m := hi
  have hT : Tells zLat eLat (pairsL j g i) n row := hT
  obtain ⟨gw, hgw⟩ : ∃ gw : Nat → WinT, gw = fun k => (winsL j (g i).t).getD k zWin := ⟨_, rfl⟩
  obtain ⟨nw, hnw⟩ : ∃ nw, nw = (winsL j (g i).t).length := ⟨_, rfl⟩
  have hTw : Tells zWin eWin (winsL j (g i).t) nw (fun i => eWin (gw i)) := ⟨hnw, fun k _ => by rw [hgw]⟩
  have hw100 : nw ≤ 100 := by rw [hnw]; exact winsL_len _ _
  have hn100 : n ≤ 100 * i := by rw [hT.1]; exact pairsL_len _ _ _
  have hm120 := hok.2.1
  cbv
  repeat' first
    | apply And.intro
    | exact True.intro
    | with_reducible rfl
    | exact same_of hA rfl
    | refine br_of hA (fun _ => ?_) (fun _ => ?_)
    | exact imp_of hA id
    | (refine imp_of hA ?_; subst hA; simp only [real, Bool.true_and]; exact id)
    | (refine ind_of hA ?_; decide +kernel)
    | (refine call_of hA hM _ (show Meets Try.prog 26 [xd (eJob j), .c (.d (eI (g (A.nat (Int.ofNat i))).t))] ⟨.one (.c (.own 2 nw fun i => eWin (gw i))), [none, none]⟩ from (by rename_i hlt; have hlt2 : i < m := (by subst hA; simp only [real, decide_eq_true_eq, Int.ofNat_eq_natCast] at hlt; omega); have hc := c_WinOf j (g i).t hok.1 (recP_t (hok.2.2 i hlt2)) nw gw hTw; subst hA; exact hc)) ?_; cbv)
    | (refine inb_of hA fun _ => ?_; subst hA; simp only [real, Bool.and_eq_true, Bool.not_eq_true', Bool.not_eq_false', decide_eq_true_eq, Int.ofNat_eq_natCast, IntKind.wrap_i64] at *; omega)
  · rename_i hlt
    have hlt' : i < m := by subst hA; simp only [real, decide_eq_true_eq, Int.ofNat_eq_natCast] at hlt; omega
    refine loop_of hA (α := { q : Nat × Nat × (Nat → List DV) // q.1 ≤ nw ∧ Tells zLat eLat (pairsL j g i ++ ((winsL j (g i).t).take q.1).map (fun w => ⟨g i, w⟩)) q.2.1 q.2.2 }) (fun y => st_Spci j m g i nw gw y.1.1 y.1.2.1 y.1.2.2) (fun y => nw - y.1.1) ⟨(0, n, row), Nat.zero_le _, by simpa using hT⟩ ?_ ?_
    · refine cov_of ?_ ?_ ?_
      · cbv; try (subst hA; repeat' first | apply And.intro | exact True.intro | rfl)
      · cbv; try (subst hA; repeat' first | apply And.intro | exact True.intro | rfl | (intro _ _; rfl))
      · cbv
    rintro ⟨⟨k, n1, row1⟩, hk, hT1⟩
    have hk : k ≤ nw := hk
    have hT1 : Tells zLat eLat (pairsL j g i ++ ((winsL j (g i).t).take k).map (fun w => ⟨g i, w⟩)) n1 row1 := hT1
    have hn1 : n1 ≤ 100 * i + 100 := by
      have h1 := hT1.1
      rw [List.length_append, List.length_map, List.length_take] at h1
      have := pairsL_len j g i
      omega
    cbv
    repeat' first
      | apply And.intro
      | exact True.intro
      | with_reducible rfl
      | exact same_of hA rfl
      | refine br_of hA (fun _ => ?_) (fun _ => ?_)
      | exact imp_of hA id
      | (refine imp_of hA ?_; subst hA; simp only [real, Bool.true_and]; exact id)
      | (refine ind_of hA ?_; decide +kernel)
      | exact room_add hA (by omega) (by decide)
      | (refine inb_of hA fun _ => ?_; subst hA; simp only [real, Bool.and_eq_true, Bool.not_eq_true', Bool.not_eq_false', decide_eq_true_eq, Int.ofNat_eq_natCast, IntKind.wrap_i64] at *; omega)
    · rename_i hlk
      have hlk' : k < nw := by subst hA; simp only [real, decide_eq_true_eq, Int.ofNat_eq_natCast] at hlk; omega
      have e := take_succ_getD (z := zWin) (l := winsL j (g i).t) (k := k) (by rw [← hnw]; exact hlk')
      refine ⟨⟨(k + 1, n1 + 1, fun q => if q < n1 then row1 q else eLat ⟨g i, gw k⟩), by simp only; omega, ?_⟩, by simp only; omega, cov_of ?_ ?_ ?_⟩
      · simp only
        rw [e, List.map_append, ← List.append_assoc]
        exact tells_snoc hT1 (fun q _ => by rw [hgw])
      · cbv
        subst hA
        repeat' first | apply And.intro | exact True.intro | exact congrArg (fun x => DV.v (.int .i64 x)) (up64 hlk' (Nat.le_trans hw100 (by decide))) | rfl
      · cbv
        subst hA
        repeat' first | apply And.intro | exact True.intro | rfl | (intro _ _; rfl) | (intro q hq; exact push_at rfl _ _ _ _ q hq) | (intro q hq; have e0 : real.add 0 (real.nat (Int.ofNat k)) = k := Nat.zero_add k; rw [e0]; exact push_at rfl _ _ _ _ q hq)
      · cbv
    · rename_i hgk
      have hkn : k = nw := by subst hA; simp only [real, decide_eq_false_iff_not, Int.ofNat_eq_natCast] at hgk; omega
      refine ⟨⟨(i + 1, n1, row1), by simp only; omega, ?_⟩, by simp only; omega, cov_of ?_ ?_ ?_⟩
      · simp only
        unfold pairsL
        rw [hkn, hnw, List.take_of_length_le (Nat.le_refl _)] at hT1
        exact hT1
      · cbv
        subst hA
        repeat' first | apply And.intro | exact True.intro | exact congrArg (fun x => DV.v (.int .i64 x)) (up64 hlt' hm) | rfl
      · cbv; try (subst hA; repeat' first | apply And.intro | exact True.intro | rfl | (intro _ _; rfl))
      · cbv
  · rename_i hge
    have hin : i = m := by
      subst hA
      simp only [real, decide_eq_false_iff_not, Int.ofNat_eq_natCast] at hge
      omega
    subst hin
    have hnn : n = n0 := hT.1.trans hl.1.symm
    subst hnn
    refine stop_of hA ⟨[(5, .c (.own 2688 0 n 1))], [(2688, 1, .arr 7 n fun i => eLat (G i))]⟩ (cov_of ?_ ?_ ?_) ?_
    · cbv
    · cbv
      exact ⟨fun q hq => (hT.2 q hq).trans (hl.2 q hq).symm, trivial⟩
    · cbv
    · cbv
      repeat' first
        | apply And.intro
        | exact True.intro
        | with_reducible rfl
        | exact same_of hA rfl
        | refine br_of hA (fun _ => ?_) (fun _ => ?_)
        | exact imp_of hA id
        | (refine imp_of hA ?_; subst hA; simp only [real, Bool.true_and]; exact id)
        | (refine ind_of hA ?_; decide +kernel)
set_option maxRecDepth 100000 in
theorem m_Spc0 (j : JobT) (m : Nat) (hm : m ≤ maxLen) (g : Nat → ItmT) (hok : ¬ SpcOkP j m g) : Meets Try.prog 23 [xd (eJob j), .c (.d (.sl 5 m fun i => eItm (g i)))] ⟨.one (.c (.d (.v nilS))), [none, none]⟩ := by
  have hcon := c_ContainsItm0 m hm g 76 _ c_notRec
  refine meets_of (H := []) (EX := EXA) ttok mixed Try.func23 rfl (by kernel_rfl) (by decide) ?_
  generalize hA : real = A
  generalize hM : Meets Try.prog = M
  cbv
  repeat' first
    | apply And.intro
    | exact True.intro
    | with_reducible rfl
    | exact same_of hA rfl
    | refine br_of hA (fun _ => ?_) (fun _ => ?_)
    | exact imp_of hA id
    | (refine imp_of hA ?_; subst hA; simp only [real, Bool.true_and]; exact id)
    | (refine ind_of hA ?_; decide +kernel)
    | (refine call_ex hA hM (c_JobOkP j) (fun _ _ => ?_); cbv)
    | (refine call_ex hA hM hcon (fun _ _ => ?_); cbv)
  exfalso
  rename_i b1 hb1 b2 hb2 hgood
  have e2 := nex hb2
  subst hA
  simp only [real, bifA, bifB, bifC, bifD, beqB, decide_eq_true_eq, decide_eq_false_iff_not, beqI, bneI, beqIF, bneIF, ne_eq, Classical.not_not, Bool.and_eq_true, Bool.or_eq_true, Bool.not_eq_true', Bool.not_eq_false', Bool.and_eq_false_iff, Bool.or_eq_false_iff, Bool.false_eq_true, and_false, false_and, or_false, false_or, and_true, true_and, not_true_eq_false, not_false_eq_true, true_iff, false_iff, Int.ofNat_eq_natCast, Int.toNat_natCast] at hgood
  have h : ¬ (m : Int) > 120 := hgood.1.2
  exact hok ⟨hb1.1 hgood.1.1, by omega, e2.1 hgood.2⟩
theorem c_Spc (j : JobT) (m : Nat) (hm : m ≤ maxLen) (g : Nat → ItmT) (n0 : Nat) (G : Nat → LatT) (hl : Tells zLat eLat (spcL j m g) n0 (fun i => eLat (G i))) : Meets Try.prog 23 [xd (eJob j), .c (.d (.sl 5 m fun i => eItm (g i)))] ⟨.one (.c (.own 7 n0 fun i => eLat (G i))), [none, none]⟩ := by
  unfold spcL at hl
  by_cases hok : SpcOkP j m g
  · rw [if_pos hok] at hl
    exact m_Spc j m hm g hok n0 G hl
  · rw [if_neg hok] at hl
    have hn : n0 = 0 := hl.1
    subst hn
    exact meets_nil (m_Spc0 j m hm g hok)
end Go.Rk
/- Rows of a table, as lists. -/
namespace Go.Rk
set_option linter.unusedSimpArgs false
set_option linter.unusedVariables false
def zTab : TabT := ⟨0, ⟨0, 0⟩, ⟨0, 0, 0, 0⟩⟩
def IsRow (key : Int) (w : WinT) (r : TabT) : Prop := r.key = key ∧ (r.win.s = w.s ∧ r.win.e = w.e)
instance (key : Int) (w : WinT) (r : TabT) : Decidable (IsRow key w r) := inferInstanceAs (Decidable (_ ∧ _))
def Ahead (r q : TabT) : Prop := r.key < q.key ∨ (r.key = q.key ∧ (r.win.s < q.win.s ∨ (r.win.s = q.win.s ∧ r.win.e < q.win.e)))
instance (r q : TabT) : Decidable (Ahead r q) := inferInstanceAs (Decidable (_ ∨ _))
/-- A list, by its number and its members. -/
def Lst {α : Type} (z : α) (l : List α) (n : Nat) (g : Nat → α) : Prop := n = l.length ∧ ∀ k, k < n → g k = l.getD k z
theorem lst_self {α : Type} (z : α) (l : List α) : Lst z l l.length (fun k => l.getD k z) := ⟨rfl, fun _ _ => rfl⟩
theorem lst_tells {α : Type} {z : α} {l : List α} {n : Nat} {g : Nat → α} (e : α → List DV) (h : Lst z l n g) : Tells z e l n (fun i => e (g i)) := ⟨h.1, fun k hk => congrArg e (h.2 k hk)⟩
theorem lst_take {α : Type} {z : α} {l : List α} {n : Nat} {g : Nat → α} (h : Lst z l n g) {i : Nat} (hi : i < n) : l.take (i + 1) = l.take i ++ [g i] := by
  rw [h.2 i hi]
  exact take_succ_getD (by rw [← h.1]; exact hi)
theorem lst_all {α : Type} {z : α} {l : List α} {n : Nat} {g : Nat → α} (h : Lst z l n g) : l.take n = l := by rw [h.1, List.take_length]
theorem lst_drop {α : Type} {z : α} {l : List α} {n : Nat} {g : Nat → α} (h : Lst z l n g) {i : Nat} (hi : i < n) : l.drop i = g i :: l.drop (i + 1) := by
  have hl : i < l.length := by rw [← h.1]; exact hi
  rw [List.drop_eq_getElem_cons hl, h.2 i hi, List.getD_eq_getElem?_getD, List.getElem?_eq_getElem hl]
  rfl
theorem lst_mem {α : Type} {z : α} {l : List α} {n : Nat} {g : Nat → α} (h : Lst z l n g) {x : α} (hx : x ∈ l) : ∃ k, k < n ∧ g k = x := by
  obtain ⟨k, hk⟩ := List.mem_iff_getElem?.1 hx
  have hl : k < l.length := (List.getElem?_eq_some_iff.1 hk).1
  refine ⟨k, by rw [h.1]; exact hl, ?_⟩
  rw [h.2 k (by rw [h.1]; exact hl), List.getD_eq_getElem?_getD, hk]
  rfl
/-- From a function that has so many members. -/
theorem lst_of {α : Type} (z : α) (n : Nat) (g : Nat → α) : Lst z ((List.range n).map g) n g := by
  refine ⟨by simp, fun k hk => ?_⟩
  rw [List.getD_eq_getElem?_getD, List.getElem?_map, List.getElem?_range hk]
  rfl
def tOut (key : Int) (w : WinT) : List TabT → List TabT
  | [] => []
  | r :: l => if IsRow key w r then tOut key w l else r :: tOut key w l
theorem tOut_app (key : Int) (w : WinT) : ∀ l m, tOut key w (l ++ m) = tOut key w l ++ tOut key w m
  | [], _ => rfl
  | r :: l, m => by
    show (if IsRow key w r then tOut key w (l ++ m) else r :: tOut key w (l ++ m)) = _
    rw [tOut_app key w l m]
    show _ = (if IsRow key w r then tOut key w l else r :: tOut key w l) ++ tOut key w m
    split <;> rfl
theorem tOut_len (key : Int) (w : WinT) : ∀ l, (tOut key w l).length ≤ l.length
  | [] => Nat.le_refl _
  | r :: l => by
    have := tOut_len key w l
    show (if IsRow key w r then tOut key w l else r :: tOut key w l).length ≤ _
    split <;> simp <;> omega
theorem tOut_in {key : Int} {w : WinT} {r : TabT} : ∀ {l : List TabT}, r ∈ tOut key w l ↔ r ∈ l ∧ ¬ IsRow key w r
  | [] => ⟨fun h => absurd h (List.not_mem_nil), fun h => absurd h.1 (List.not_mem_nil)⟩
  | q :: l => by
    show r ∈ (if IsRow key w q then tOut key w l else q :: tOut key w l) ↔ _
    split
    · rename_i h
      rw [tOut_in, List.mem_cons]
      constructor
      · rintro ⟨h1, h2⟩; exact ⟨.inr h1, h2⟩
      · rintro ⟨rfl | h1, h2⟩
        · exact absurd h h2
        · exact ⟨h1, h2⟩
    · rename_i h
      rw [List.mem_cons, List.mem_cons, tOut_in]
      constructor
      · rintro (rfl | ⟨h1, h2⟩)
        · exact ⟨.inl rfl, h⟩
        · exact ⟨.inr h1, h2⟩
      · rintro ⟨rfl | h1, h2⟩
        · exact .inl rfl
        · exact .inr ⟨h1, h2⟩
def tIns (r : TabT) : List TabT → List TabT
  | [] => [r]
  | q :: l => if Ahead r q then r :: q :: l else q :: tIns r l
theorem tIns_len (r : TabT) : ∀ l, (tIns r l).length = l.length + 1
  | [] => rfl
  | q :: l => by
    have := tIns_len r l
    show (if Ahead r q then r :: q :: l else q :: tIns r l).length = _
    split <;> simp <;> omega
/-- At the first place that it stands ahead of. -/
theorem tIns_at (r : TabT) : ∀ (l : List TabT) (i : Nat), (∀ x, x ∈ l.take i → ¬ Ahead r x) → (∀ x, l[i]? = some x → Ahead r x) → i ≤ l.length → tIns r l = l.take i ++ r :: l.drop i
  | [], i, _, _, h => by
    have : i = 0 := by simpa using h
    subst this
    rfl
  | q :: l, 0, _, h2, _ => by
    show (if Ahead r q then r :: q :: l else q :: tIns r l) = _
    rw [if_pos (h2 q rfl)]
    rfl
  | q :: l, i + 1, h1, h2, h3 => by
    show (if Ahead r q then r :: q :: l else q :: tIns r l) = _
    rw [if_neg (h1 q (by simp)), tIns_at r l i (fun x hx => h1 x (by rw [List.take_succ_cons]; exact List.mem_cons_of_mem _ hx)) (fun x hx => h2 x hx) (by simpa using h3)]
    rfl
def tPut (r : TabT) (l : List TabT) : List TabT := tIns r (tOut r.key r.win l)
theorem tPut_len (r : TabT) (l : List TabT) : (tPut r l).length ≤ l.length + 1 := by
  unfold tPut
  rw [tIns_len]
  have := tOut_len r.key r.win l
  omega
def tFind (key : Int) (w : WinT) : List TabT → Option AggT
  | [] => none
  | r :: l => if IsRow key w r then some r.agg else tFind key w l
theorem tFind_app (key : Int) (w : WinT) (r : TabT) : ∀ l m, (∀ x, x ∈ l → ¬ IsRow key w x) → tFind key w (l ++ m) = tFind key w m
  | [], _, _ => rfl
  | q :: l, m, h => by
    show (if IsRow key w q then some q.agg else tFind key w (l ++ m)) = _
    rw [if_neg (h q (by simp)), tFind_app key w r l m fun x hx => h x (List.mem_cons_of_mem _ hx)]
theorem room_add2 {A : Ar} (hA : real = A) {n m b : Nat} (hn : n + m ≤ 2000000) (hb : b ≤ 100000) : A.room (A.add n m) b := by
  subst hA
  have h1 : (n + m) * b ≤ 2000000 * 100000 := Nat.mul_le_mul hn hb
  exact ⟨Nat.le_trans h1 (by omega), Nat.le_trans hn (by omega)⟩
def mkTab (k : Int) : TabT := ⟨k, ⟨k + 1, k + 2⟩, ⟨k + 3, k + 4, k + 5, k + 6⟩⟩
theorem lt_of {A : Ar} (hA : real = A) {i n : Nat} (h : A.cmp .lss (Int.ofNat i) (A.int n) = true) : i < n := by
  subst hA
  have h : decide ((i : Int) < (n : Int)) = true := h
  rw [decide_eq_true_eq] at h
  omega
theorem ge_of {A : Ar} (hA : real = A) {i n : Nat} (h : A.cmp .lss (Int.ofNat i) (A.int n) = false) : n ≤ i := by
  subst hA
  have h : decide ((i : Int) < (n : Int)) = false := h
  rw [decide_eq_false_iff_not] at h
  omega
theorem inb_lt {A : Ar} (hA : real = A) {g : Bool} {i n : Nat} (h : i < n) : A.inb g (Int.ofNat i) n := by
  refine inb_of hA fun _ => ?_
  have e : Int.ofNat i = (i : Int) := rfl
  rw [e]
  omega
theorem ix0 {A : Ar} (hA : real = A) (i : Nat) : A.add 0 (A.nat (Int.ofNat i)) = i := by subst hA; exact Nat.zero_add i
theorem ixn {A : Ar} (hA : real = A) (i : Nat) : A.nat (Int.ofNat i) = i := by subst hA; rfl
def zAgg : AggT := ⟨0, 0, 0, 0⟩
/-- A row that is put in its place, told by numbers. -/
theorem tIns_lst {r : TabT} {l : List TabT} {n0 n1 i : Nat} {G0 G : Nat → TabT} (h0 : Lst zTab l n0 G0) (h1 : Lst zTab (tIns r l) n1 G) (hi : i ≤ n0) (ha : ∀ k, k < i → ¬ Ahead r (G0 k)) (hb : i < n0 → Ahead r (G0 i)) :
    n1 = n0 + 1 ∧ ∀ k, k < n0 + 1 → G k = if k < i then G0 k else if k = i then r else G0 (k - 1) := by
  have e : tIns r l = l.take i ++ r :: l.drop i := by
    refine tIns_at r l i (fun x hx => ?_) (fun x hx => ?_) (by rw [← h0.1]; exact hi)
    · obtain ⟨k, hk⟩ := List.mem_iff_getElem?.1 hx
      rw [List.getElem?_take] at hk
      split at hk
      · rename_i hki
        have := h0.2 k (by omega)
        rw [List.getD_eq_getElem?_getD, hk] at this
        have := ha k hki
        simp_all
      · cases hk
    · have hin : i < n0 := by rw [h0.1]; exact (List.getElem?_eq_some_iff.1 hx).1
      have := h0.2 i hin
      rw [List.getD_eq_getElem?_getD, hx] at this
      have := hb hin
      simp_all
  have hlen := tIns_len r l
  have hn1 : n1 = n0 + 1 := by rw [h1.1, hlen, h0.1]
  refine ⟨hn1, fun k hk => ?_⟩
  have htl : (l.take i).length = i := by rw [List.length_take, ← h0.1]; omega
  rw [h1.2 k (by omega), e, List.getD_eq_getElem?_getD]
  by_cases hki : k < i
  · rw [if_pos hki, List.getElem?_append_left (by omega), List.getElem?_take, if_pos hki, h0.2 k (by omega), List.getD_eq_getElem?_getD]
  · rw [if_neg hki, List.getElem?_append_right (by omega), htl]
    by_cases hk2 : k = i
    · rw [if_pos hk2, hk2, Nat.sub_self]; rfl
    · rw [if_neg hk2, show k - i = (k - 1 - i) + 1 by omega, List.getElem?_cons_succ, List.getElem?_drop, show i + (k - 1 - i) = k - 1 by omega, h0.2 (k - 1) (by omega), List.getD_eq_getElem?_getD]
theorem tFind_first {key : Int} {w : WinT} {l : List TabT} {n i : Nat} {g : Nat → TabT} (h : Lst zTab l n g) (hi : i < n) (hq : IsRow key w (g i)) (hb : ∀ k, k < i → ¬ IsRow key w (g k)) : tFind key w l = some (g i).agg := by
  have e : l = l.take i ++ l.drop i := (List.take_append_drop i l).symm
  rw [e, tFind_app key w (g i) _ _ (fun x hx => ?_), lst_drop h hi]
  · show (if IsRow key w (g i) then some (g i).agg else _) = _
    rw [if_pos hq]
  · obtain ⟨k, hk⟩ := List.mem_iff_getElem?.1 hx
    rw [List.getElem?_take] at hk
    split at hk
    · rename_i hki
      have h2 := h.2 k (by omega)
      rw [List.getD_eq_getElem?_getD, hk] at h2
      have h2 : g k = x := h2
      rw [← h2]
      exact hb k hki
    · cases hk
theorem tFind_none {key : Int} {w : WinT} {l : List TabT} {n : Nat} {g : Nat → TabT} (h : Lst zTab l n g) (hb : ∀ k, k < n → ¬ IsRow key w (g k)) : tFind key w l = none := by
  have := tFind_app key w zTab l [] (fun x hx => by obtain ⟨k, hk, rfl⟩ := lst_mem h hx; exact hb k hk)
  rw [List.append_nil] at this
  rw [this]; rfl
end Go.Rk
/- What is known of values, by lists; tables that records lead to. -/
namespace Go.Rk
set_option linter.unusedSimpArgs false
set_option linter.unusedVariables false
def aggB (a b : AggT) : AggT := if a.n = 0 then b else if b.n = 0 then a else ⟨w64 (a.n + b.n), w64 (a.sum + b.sum), if b.least < a.least then b.least else a.least, if a.most < b.most then b.most else a.most⟩
def agg1 (v : Int) : AggT := ⟨1, v, v, v⟩
def aggAdd (a : AggT) (v : Int) : AggT := aggB a (agg1 v)
theorem aggB_z (a : AggT) : aggB zAgg a = a := rfl
def sumI : List Int → Int
  | [] => 0
  | x :: l => x + sumI l
theorem sumI_app : ∀ l m, sumI (l ++ m) = sumI l + sumI m
  | [], m => by simp [sumI]
  | x :: l, m => by simp [sumI, sumI_app l m]; omega
theorem sumI_perm {l m : List Int} (h : l.Perm m) : sumI l = sumI m := by
  induction h with
  | nil => rfl
  | cons x _ ih => simp [sumI, ih]
  | swap x y l => simp [sumI]; omega
  | trans _ _ h1 h2 => exact h1.trans h2
theorem sumI_bd : ∀ l : List Int, (∀ x, x ∈ l → -9 ≤ x ∧ x ≤ 9) → -9 * (l.length : Int) ≤ sumI l ∧ sumI l ≤ 9 * (l.length : Int)
  | [], _ => by simp [sumI]
  | x :: l, h => by
    have h1 := h x (by simp)
    have h2 := sumI_bd l fun y hy => h y (List.mem_cons_of_mem _ hy)
    simp only [sumI, List.length_cons, Int.natCast_add, Int.natCast_one]
    omega
/-- What is known of just these values. -/
structure AggIs (a : AggT) (L : List Int) : Prop where
  n : a.n = (L.length : Int)
  sum : a.sum = sumI L
  z : L = [] → a = zAgg
  nz : L ≠ [] → a.least ∈ L ∧ a.most ∈ L ∧ ∀ x, x ∈ L → a.least ≤ x ∧ x ≤ a.most
theorem aggIs_nil : AggIs zAgg [] := ⟨rfl, rfl, fun _ => rfl, fun h => absurd rfl h⟩
theorem aggIs_one (v : Int) : AggIs (agg1 v) [v] := ⟨rfl, by simp [agg1, sumI], fun h => by simp at h, fun _ => ⟨by simp [agg1], by simp [agg1], fun x hx => by simp at hx; subst hx; exact ⟨Int.le_refl _, Int.le_refl _⟩⟩⟩
theorem aggIs_uniq {a b : AggT} {L M : List Int} (ha : AggIs a L) (hb : AggIs b M) (h : L.Perm M) : a = b := by
  by_cases hL : L = []
  · have hM : M = [] := by subst hL; exact List.nil_perm.1 h
    rw [ha.z hL, hb.z hM]
  · have hM : M ≠ [] := fun e => hL (by subst e; exact List.perm_nil.1 h)
    obtain ⟨a1, a2, a3⟩ := ha.nz hL
    obtain ⟨b1, b2, b3⟩ := hb.nz hM
    have e1 : a.n = b.n := by rw [ha.n, hb.n, h.length_eq]
    have e2 : a.sum = b.sum := by rw [ha.sum, hb.sum, sumI_perm h]
    have h1 := a3 _ (h.mem_iff.2 b1)
    have h2 := b3 _ (h.mem_iff.1 a1)
    have h3 := a3 _ (h.mem_iff.2 b2)
    have h4 := b3 _ (h.mem_iff.1 a2)
    have e3 : a.least = b.least := by omega
    have e4 : a.most = b.most := by omega
    cases a; cases b; simp_all
theorem w64_in (x : Int) (h : -9223372036854775808 ≤ x ∧ x ≤ 9223372036854775807) : w64 x = x := IntWalk.i64_in x h
theorem aggB_is {a b : AggT} {L M : List Int} (ha : AggIs a L) (hb : AggIs b M) (hv : ∀ x, x ∈ L ++ M → -9 ≤ x ∧ x ≤ 9) (hn : (L ++ M).length ≤ 1000000) : AggIs (aggB a b) (L ++ M) := by
  unfold aggB
  by_cases hL : L = []
  · have := ha.z hL
    subst hL; rw [this]
    exact hb
  · have hl : L.length ≠ 0 := fun e => hL (List.length_eq_zero_iff.1 e)
    rw [if_neg (by rw [ha.n]; omega)]
    by_cases hM : M = []
    · have := hb.z hM
      subst hM; rw [this, List.append_nil]
      rw [if_pos (show zAgg.n = 0 from rfl)]
      exact ha
    · have hm : M.length ≠ 0 := fun e => hM (List.length_eq_zero_iff.1 e)
      rw [if_neg (by rw [hb.n]; omega)]
      obtain ⟨a1, a2, a3⟩ := ha.nz hL
      obtain ⟨b1, b2, b3⟩ := hb.nz hM
      have s1 := sumI_bd L fun x hx => hv x (List.mem_append_left _ hx)
      have s2 := sumI_bd M fun x hx => hv x (List.mem_append_right _ hx)
      rw [List.length_append] at hn
      refine ⟨?_, ?_, fun e => absurd (List.append_eq_nil_iff.1 e).1 hL, fun _ => ⟨?_, ?_, fun x hx => ?_⟩⟩
      · show w64 (a.n + b.n) = _
        rw [w64_in _ (by rw [ha.n, hb.n]; omega), ha.n, hb.n, List.length_append]
        omega
      · show w64 (a.sum + b.sum) = _
        rw [w64_in _ (by rw [ha.sum, hb.sum]; omega), ha.sum, hb.sum, sumI_app]
      · show (if b.least < a.least then b.least else a.least) ∈ _
        split
        · exact List.mem_append_right _ b1
        · exact List.mem_append_left _ a1
      · show (if a.most < b.most then b.most else a.most) ∈ _
        split
        · exact List.mem_append_right _ b2
        · exact List.mem_append_left _ a2
      · show (if b.least < a.least then b.least else a.least) ≤ x ∧ x ≤ (if a.most < b.most then b.most else a.most)
        rcases List.mem_append.1 hx with h | h
        · have := a3 x h
          constructor <;> split <;> omega
        · have := b3 x h
          constructor <;> split <;> omega
/-- Lists that rise are told by their members. -/
theorem sorted_ext {α : Type} {lt : α → α → Prop} (irr : ∀ a, ¬ lt a a) (tr : ∀ a b c, lt a b → lt b c → lt a c) : ∀ {l m : List α}, l.Pairwise lt → m.Pairwise lt → (∀ x, x ∈ l ↔ x ∈ m) → l = m
  | [], [], _, _, _ => rfl
  | [], b :: m, _, _, h => absurd ((h b).2 (by simp)) (by simp)
  | a :: l, [], _, _, h => absurd ((h a).1 (by simp)) (by simp)
  | a :: l, b :: m, hl, hm, h => by
    rw [List.pairwise_cons] at hl hm
    have hab : a = b := by
      rcases List.mem_cons.1 ((h a).1 (by simp)) with e | e
      · exact e
      · rcases List.mem_cons.1 ((h b).2 (by simp)) with f | f
        · exact f.symm
        · exact absurd (tr _ _ _ (hl.1 b f) (hm.1 a e)) (irr a)
    subst hab
    refine congrArg (a :: ·) (sorted_ext irr tr hl.2 hm.2 fun x => ⟨fun hx => ?_, fun hx => ?_⟩)
    · rcases List.mem_cons.1 ((h x).1 (List.mem_cons_of_mem _ hx)) with e | e
      · subst e; exact absurd (hl.1 x hx) (irr x)
      · exact e
    · rcases List.mem_cons.1 ((h x).2 (List.mem_cons_of_mem _ hx)) with e | e
      · subst e; exact absurd (hm.1 x hx) (irr x)
      · exact e
theorem ahead_irr (a : TabT) : ¬ Ahead a a := by unfold Ahead; omega
theorem ahead_tr (a b c : TabT) (h : Ahead a b) (h' : Ahead b c) : Ahead a c := by unfold Ahead at *; omega
theorem ahead_tot {r q : TabT} (h : ¬ Ahead r q) (h' : ¬ IsRow r.key r.win q) : Ahead q r := by unfold Ahead at *; unfold IsRow at h'; omega
abbrev Rise (l : List TabT) : Prop := l.Pairwise Ahead
theorem rise_two {l : List TabT} (h : Rise l) {r q : TabT} (hr : r ∈ l) (hq : q ∈ l) (e : IsRow r.key r.win q) : r = q := by
  induction l with
  | nil => simp at hr
  | cons a l ih =>
    rw [Rise, List.pairwise_cons] at h
    rcases List.mem_cons.1 hr with e1 | h1 <;> rcases List.mem_cons.1 hq with e2 | h2
    · rw [e1, e2]
    · have := h.1 q h2; rw [← e1] at this; unfold Ahead at this; unfold IsRow at e; omega
    · have := h.1 r h1; rw [← e2] at this; unfold Ahead at this; unfold IsRow at e; omega
    · exact ih h.2 h1 h2
theorem mem_tIns {r x : TabT} : ∀ {l : List TabT}, x ∈ tIns r l ↔ x = r ∨ x ∈ l
  | [] => by simp [tIns]
  | q :: l => by
    show x ∈ (if Ahead r q then r :: q :: l else q :: tIns r l) ↔ _
    split
    · simp
    · rw [List.mem_cons, mem_tIns, List.mem_cons]
      exact ⟨fun h => h.elim (fun e => .inr (.inl e)) (fun h => h.imp id .inr), fun h => h.elim (fun e => .inr (.inl e)) (fun h => h.elim .inl fun h => .inr (.inr h))⟩
theorem rise_tIns {r : TabT} : ∀ {l : List TabT}, Rise l → (∀ q, q ∈ l → ¬ IsRow r.key r.win q) → Rise (tIns r l)
  | [], _, _ => by simp [tIns, Rise]
  | q :: l, h, hn => by
    have h' := h
    rw [Rise, List.pairwise_cons] at h
    show Rise (if Ahead r q then r :: q :: l else q :: tIns r l)
    split
    · rename_i ha
      rw [Rise, List.pairwise_cons]
      refine ⟨fun x hx => ?_, h'⟩
      rcases List.mem_cons.1 hx with rfl | hx
      · exact ha
      · exact ahead_tr _ _ _ ha (h.1 x hx)
    · rename_i ha
      rw [Rise, List.pairwise_cons]
      refine ⟨fun x hx => ?_, rise_tIns h.2 fun y hy => hn y (List.mem_cons_of_mem _ hy)⟩
      rcases mem_tIns.1 hx with rfl | hx
      · exact ahead_tot ha (hn q (by simp))
      · exact h.1 x hx
theorem tOut_filter (key : Int) (w : WinT) : ∀ l, tOut key w l = l.filter fun r => !decide (IsRow key w r)
  | [] => rfl
  | r :: l => by
    show (if IsRow key w r then tOut key w l else r :: tOut key w l) = _
    rw [List.filter_cons, tOut_filter key w l]
    by_cases h : IsRow key w r <;> simp [h]
theorem rise_tOut {key : Int} {w : WinT} {l : List TabT} (h : Rise l) : Rise (tOut key w l) := by
  rw [tOut_filter]; exact h.sublist List.filter_sublist
theorem mem_tPut {r x : TabT} {l : List TabT} : x ∈ tPut r l ↔ x = r ∨ (x ∈ l ∧ ¬ IsRow r.key r.win x) := by
  unfold tPut; rw [mem_tIns, tOut_in]
theorem rise_tPut {r : TabT} {l : List TabT} (h : Rise l) : Rise (tPut r l) := rise_tIns (rise_tOut h) fun _ hq => (tOut_in.1 hq).2
theorem tFind_some {key : Int} {w : WinT} {a : AggT} : ∀ {l : List TabT}, tFind key w l = some a → ∃ r, r ∈ l ∧ IsRow key w r ∧ r.agg = a
  | [], h => by cases h
  | r :: l, h => by
    have h : (if IsRow key w r then some r.agg else tFind key w l) = some a := h
    split at h
    · rename_i hr
      exact ⟨r, by simp, hr, by simpa using h⟩
    · obtain ⟨q, h1, h2⟩ := tFind_some h
      exact ⟨q, List.mem_cons_of_mem _ h1, h2⟩
theorem tFind_no {key : Int} {w : WinT} : ∀ {l : List TabT}, tFind key w l = none → ∀ r, r ∈ l → ¬ IsRow key w r
  | [], _, r, hr => by simp at hr
  | q :: l, h, r, hr => by
    have h : (if IsRow key w q then some q.agg else tFind key w l) = none := h
    split at h
    · cases h
    · rename_i hq
      rcases List.mem_cons.1 hr with rfl | hr
      · exact hq
      · exact tFind_no h r hr
theorem tFind_rise {key : Int} {w : WinT} {l : List TabT} (h : Rise l) {r : TabT} (hr : r ∈ l) (e : IsRow key w r) : tFind key w l = some r.agg := by
  cases hf : tFind key w l with
  | none => exact absurd e (tFind_no hf r hr)
  | some a =>
    obtain ⟨q, h1, h2, h3⟩ := tFind_some hf
    have : r = q := rise_two h hr h1 (by unfold IsRow at *; omega)
    rw [this, h3]
def tCnt : List TabT → Int
  | [] => 0
  | r :: l => r.agg.n + tCnt l
theorem tCnt_app : ∀ l m, tCnt (l ++ m) = tCnt l + tCnt m
  | [], m => by simp [tCnt]
  | r :: l, m => by simp [tCnt, tCnt_app l m]; omega
theorem tCnt_ins (r : TabT) : ∀ l, tCnt (tIns r l) = r.agg.n + tCnt l
  | [] => rfl
  | q :: l => by
    show tCnt (if Ahead r q then r :: q :: l else q :: tIns r l) = _
    split
    · rfl
    · simp only [tCnt, tCnt_ins r l]; omega
theorem tOut_none {key : Int} {w : WinT} {l : List TabT} (h : ∀ q, q ∈ l → ¬ IsRow key w q) : tOut key w l = l := by
  rw [tOut_filter, List.filter_eq_self]
  intro q hq
  simp [h q hq]
theorem tCnt_out {key : Int} {w : WinT} : ∀ {l : List TabT}, Rise l → tCnt (tOut key w l) + ((tFind key w l).getD zAgg).n = tCnt l
  | [], _ => rfl
  | r :: l, h => by
    have h' := h
    rw [Rise, List.pairwise_cons] at h
    show tCnt (if IsRow key w r then tOut key w l else r :: tOut key w l) + ((if IsRow key w r then some r.agg else tFind key w l).getD zAgg).n = r.agg.n + tCnt l
    split
    · rename_i hr
      rw [tOut_none fun q hq e => absurd (h.1 q hq) (by unfold Ahead; unfold IsRow at hr e; omega)]
      show _ + r.agg.n = _
      omega
    · have := tCnt_out (key := key) (w := w) h.2
      simp only [tCnt]; omega
end Go.Rk
/- Tables of pairs of records and windows: what they say, and that they hang on no order. -/
namespace Go.Rk
set_option linter.unusedSimpArgs false
set_option linter.unusedVariables false
def winSpan (a b : WinT) : WinT := ⟨if b.s < a.s then b.s else a.s, if a.e < b.e then b.e else a.e⟩
def tchD (k : Int) (w : WinT) (r : TabT) : Bool := decide (r.key = k ∧ r.win.s < w.e ∧ w.s < r.win.e)
def sessS (k : Int) (w : WinT) (v : Int) (T : List TabT) : List TabT :=
  tPut ⟨k, ((T.filter (tchD k w)).map (·.win)).foldl winSpan w, ((T.filter (tchD k w)).map (·.agg)).foldl aggB (agg1 v)⟩ (T.filter fun r => !tchD k w r)
def sessI (k : Int) (w : WinT) (v : Int) (T : List TabT) : List TabT :=
  tPut ⟨k, ((T.filter (tchD k w)).map (·.win)).foldl winSpan w, aggAdd (((T.filter (tchD k w)).map (·.agg)).foldl aggB zAgg) v⟩ (T.filter fun r => !tchD k w r)
def stepW (k : Int) (w : WinT) (v : Int) (T : List TabT) : List TabT := tPut ⟨k, w, aggAdd ((tFind k w T).getD zAgg) v⟩ T
def stepS (kind : Int) (T : List TabT) (l : LatT) : List TabT := if kind = 3 then sessS l.itm.key l.win l.itm.v T else stepW l.itm.key l.win l.itm.v T
def stepI (kind : Int) (T : List TabT) (l : LatT) : List TabT := if kind = 3 then sessI l.itm.key l.win l.itm.v T else stepW l.itm.key l.win l.itm.v T
/-- Pairs of which all is small. -/
def Fine (P : List LatT) : Prop := P.length ≤ 100000 ∧ ∀ l, l ∈ P → l.win.s < l.win.e ∧ -9 ≤ l.itm.v ∧ l.itm.v ≤ 9
def valsW (k : Int) (w : WinT) (P : List LatT) : List Int := (P.filter fun l => decide (l.itm.key = k ∧ l.win.s = w.s ∧ l.win.e = w.e)).map (·.itm.v)
def valsS (k : Int) (w : WinT) (P : List LatT) : List Int := (P.filter fun l => decide (l.itm.key = k ∧ w.s ≤ l.win.s ∧ l.win.s < w.e)).map (·.itm.v)
theorem vals_bd {P : List LatT} (h : Fine P) {p : LatT → Bool} : ∀ x, x ∈ (P.filter p).map (·.itm.v) → -9 ≤ x ∧ x ≤ 9 := by
  intro x hx
  obtain ⟨l, hl, rfl⟩ := List.mem_map.1 hx
  exact (h.2 l (List.mem_filter.1 hl).1).2
theorem vals_len {P : List LatT} {p : LatT → Bool} : ((P.filter p).map (·.itm.v)).length ≤ P.length := by
  rw [List.length_map]; exact List.length_filter_le _ _
/-! ## Windows that do not grow -/
structure InvW (P : List LatT) (T : List TabT) : Prop where
  rise : Rise T
  row : ∀ r, r ∈ T → valsW r.key r.win P ≠ [] ∧ AggIs r.agg (valsW r.key r.win P)
  has : ∀ l, l ∈ P → ∃ r, r ∈ T ∧ IsRow l.itm.key l.win r
theorem valsW_snoc (k : Int) (w : WinT) (P : List LatT) (l : LatT) : valsW k w (P ++ [l]) = valsW k w P ++ if l.itm.key = k ∧ l.win.s = w.s ∧ l.win.e = w.e then [l.itm.v] else [] := by
  unfold valsW
  rw [List.filter_append, List.map_append]
  by_cases h : l.itm.key = k ∧ l.win.s = w.s ∧ l.win.e = w.e
  · have hd : decide (l.itm.key = k ∧ l.win.s = w.s ∧ l.win.e = w.e) = true := decide_eq_true h
    simp only [List.filter_cons, List.filter_nil, hd, if_pos h, if_true, List.map_cons, List.map_nil]
  · have hd : decide (l.itm.key = k ∧ l.win.s = w.s ∧ l.win.e = w.e) = false := decide_eq_false h
    simp only [List.filter_cons, List.filter_nil, hd, if_neg h, Bool.false_eq_true, if_false, List.map_nil]
theorem valsW_row {k : Int} {w : WinT} {r : TabT} (h : IsRow k w r) (P : List LatT) : valsW r.key r.win P = valsW k w P := by
  unfold valsW; obtain ⟨h1, h2, h3⟩ := h; rw [h1, h2, h3]
theorem invW_step {P : List LatT} {T : List TabT} {l : LatT} (h : InvW P T) (hf : Fine (P ++ [l])) : InvW (P ++ [l]) (stepW l.itm.key l.win l.itm.v T) ∧ tCnt (stepW l.itm.key l.win l.itm.v T) = tCnt T + 1 := by
  have hfp : Fine P := ⟨by have := hf.1; rw [List.length_append] at this; omega, fun x hx => hf.2 x (List.mem_append_left _ hx)⟩
  have hv := (hf.2 l (by simp)).2
  have hlen := hf.1
  rw [List.length_append] at hlen
  have hlen : P.length + 1 ≤ 100000 := hlen
  have hagg : AggIs ((tFind l.itm.key l.win T).getD zAgg) (valsW l.itm.key l.win P) := by
    cases hfi : tFind l.itm.key l.win T with
    | some a =>
      obtain ⟨r, hr, hi, rfl⟩ := tFind_some hfi
      have := (h.row r hr).2
      rwa [valsW_row hi] at this
    | none =>
      have e : valsW l.itm.key l.win P = [] := by
        unfold valsW
        rw [List.map_eq_nil_iff, List.filter_eq_nil_iff]
        intro x hx hc
        obtain ⟨r, hr, hi⟩ := h.has x hx
        simp at hc
        exact tFind_no hfi r hr (by unfold IsRow at *; omega)
      rw [e]; exact aggIs_nil
  have hnew : AggIs (aggAdd ((tFind l.itm.key l.win T).getD zAgg) l.itm.v) (valsW l.itm.key l.win (P ++ [l])) := by
    rw [valsW_snoc, if_pos ⟨rfl, rfl, rfl⟩]
    refine aggB_is hagg (aggIs_one _) (fun x hx => ?_) ?_
    · rcases List.mem_append.1 hx with hx | hx
      · exact vals_bd hfp x hx
      · simp at hx; subst hx; exact hv
    · rw [List.length_append]
      have : (valsW l.itm.key l.win P).length ≤ P.length := vals_len
      simp; omega
  refine ⟨⟨rise_tPut h.rise, fun r hr => ?_, fun x hx => ?_⟩, ?_⟩
  · rcases mem_tPut.1 hr with rfl | ⟨hr, hn⟩
    · refine ⟨?_, hnew⟩
      show valsW l.itm.key l.win _ ≠ []
      rw [valsW_snoc, if_pos ⟨rfl, rfl, rfl⟩]
      simp
    · rw [valsW_snoc, if_neg (fun e => hn ⟨e.1.symm, e.2.1.symm, e.2.2.symm⟩), List.append_nil]
      exact h.row r hr
  · by_cases he : IsRow l.itm.key l.win ⟨x.itm.key, x.win, zAgg⟩
    · exact ⟨_, mem_tPut.2 (.inl rfl), by unfold IsRow at *; simp only at *; omega⟩
    · rcases List.mem_append.1 hx with hx | hx
      · obtain ⟨r, hr, hi⟩ := h.has x hx
        exact ⟨r, mem_tPut.2 (.inr ⟨hr, by unfold IsRow at *; simp only at *; omega⟩), hi⟩
      · simp at hx; subst hx; exact absurd ⟨rfl, rfl, rfl⟩ he
  · unfold stepW tPut
    rw [tCnt_ins]
    have h1 := tCnt_out (key := l.itm.key) (w := l.win) h.rise
    have h2 := hagg.n
    have h3 := hnew.n
    rw [valsW_snoc, if_pos ⟨rfl, rfl, rfl⟩, List.length_append] at h3
    simp only [List.length_singleton] at h3
    show (aggAdd _ _).n + tCnt (tOut l.itm.key l.win T) = _
    omega
theorem invW_uniq {P P' : List LatT} {T T' : List TabT} (h : InvW P T) (h' : InvW P' T') (hp : P.Perm P') : T = T' := by
  refine sorted_ext ahead_irr ahead_tr h.rise h'.rise ?_
  have key : ∀ {P P' : List LatT} {T T' : List TabT}, InvW P T → InvW P' T' → P.Perm P' → ∀ r, r ∈ T → r ∈ T' := by
    intro P P' T T' h h' hp r hr
    obtain ⟨h1, h2⟩ := h.row r hr
    obtain ⟨x, hx⟩ := List.exists_mem_of_ne_nil _ h1
    obtain ⟨l, hl, _⟩ := List.mem_map.1 hx
    obtain ⟨hl, hc⟩ := List.mem_filter.1 hl
    simp at hc
    obtain ⟨q, hq, hi⟩ := h'.has l (hp.mem_iff.1 hl)
    have hi' : IsRow q.key q.win r := by unfold IsRow at *; omega
    have e := valsW_row hi' P
    have hq2 := (h'.row q hq).2
    have ea : r.agg = q.agg := by
      refine aggIs_uniq h2 hq2 ?_
      rw [e]
      exact (hp.filter _).map _
    have : r = q := by
      obtain ⟨k, ⟨s, e⟩, a⟩ := r; obtain ⟨k', ⟨s', e'⟩, a'⟩ := q
      unfold IsRow at hi'; simp only at *; obtain ⟨rfl, rfl, rfl⟩ := hi'; subst ea; rfl
    rw [this]; exact hq
  exact fun r => ⟨key h h' hp r, key h' h hp.symm r⟩
/-! ## Sessions -/
def CovP (P : List LatT) (k p : Int) : Prop := ∃ l, l ∈ P ∧ l.itm.key = k ∧ l.win.s < p ∧ p < l.win.e
structure SessP (P : List LatT) (r : TabT) : Prop where
  lt : r.win.s < r.win.e
  fst : ∃ l, l ∈ P ∧ l.itm.key = r.key ∧ l.win.s = r.win.s
  lst : ∃ l, l ∈ P ∧ l.itm.key = r.key ∧ l.win.e = r.win.e
  mid : ∀ p, r.win.s < p → p < r.win.e → CovP P r.key p
  low : ¬ CovP P r.key r.win.s
  top : ¬ CovP P r.key r.win.e
  agg : AggIs r.agg (valsS r.key r.win P)
structure InvS (P : List LatT) (T : List TabT) : Prop where
  rise : Rise T
  row : ∀ r, r ∈ T → SessP P r
  has : ∀ l, l ∈ P → ∃ r, r ∈ T ∧ r.key = l.itm.key ∧ r.win.s ≤ l.win.s ∧ l.win.e ≤ r.win.e
theorem sess_win {P : List LatT} {r q : TabT} (hr : SessP P r) (hq : SessP P q) (hk : r.key = q.key) (h1 : r.win.s < q.win.e) (h2 : q.win.s < r.win.e) : IsRow r.key r.win q := by
  have a : ¬ r.win.s < q.win.s := fun h => hq.low (by rw [← hk]; exact hr.mid _ h h2)
  have b : ¬ q.win.s < r.win.s := fun h => hr.low (by rw [hk]; exact hq.mid _ h h1)
  have c : ¬ r.win.e < q.win.e := fun h => hr.top (by rw [hk]; exact hq.mid _ h2 h)
  have d : ¬ q.win.e < r.win.e := fun h => hq.top (by rw [← hk]; exact hr.mid _ h1 h)
  unfold IsRow; omega
theorem sess_same {P : List LatT} {T : List TabT} (h : InvS P T) {r q : TabT} (hr : r ∈ T) (hq : q ∈ T) (hk : r.key = q.key) (h1 : r.win.s < q.win.e) (h2 : q.win.s < r.win.e) : r = q :=
  rise_two h.rise hr hq (sess_win (h.row r hr) (h.row q hq) hk h1 h2)
theorem sessP_perm {P P' : List LatT} (hp : P.Perm P') {r : TabT} (h : SessP P r) : SessP P' r := by
  have hc : ∀ k p, CovP P k p ↔ CovP P' k p := fun k p => ⟨fun ⟨l, hl, h⟩ => ⟨l, hp.mem_iff.1 hl, h⟩, fun ⟨l, hl, h⟩ => ⟨l, hp.mem_iff.2 hl, h⟩⟩
  obtain ⟨l1, h1, h1'⟩ := h.fst
  obtain ⟨l2, h2, h2'⟩ := h.lst
  have hpv : (valsS r.key r.win P).Perm (valsS r.key r.win P') := (hp.filter _).map _
  refine ⟨h.lt, ⟨l1, hp.mem_iff.1 h1, h1'⟩, ⟨l2, hp.mem_iff.1 h2, h2'⟩, fun p a b => (hc _ _).1 (h.mid p a b), fun c => h.low ((hc _ _).2 c), fun c => h.top ((hc _ _).2 c), ?_⟩
  have ha := h.agg
  refine ⟨by rw [ha.n, hpv.length_eq], by rw [ha.sum, sumI_perm hpv], fun e => ha.z (List.nil_perm.1 (by rw [e] at hpv; exact hpv.symm)), fun e => ?_⟩
  obtain ⟨a1, a2, a3⟩ := ha.nz fun e' => e (List.nil_perm.1 (by rw [e'] at hpv; exact hpv))
  exact ⟨hpv.mem_iff.1 a1, hpv.mem_iff.1 a2, fun x hx => a3 x (hpv.mem_iff.2 hx)⟩
theorem invS_uniq {P P' : List LatT} {T T' : List TabT} (hl : ∀ l, l ∈ P → l.win.s < l.win.e) (h : InvS P T) (h' : InvS P' T') (hp : P.Perm P') : T = T' := by
  refine sorted_ext ahead_irr ahead_tr h.rise h'.rise ?_
  have key : ∀ {P P' : List LatT} {T T' : List TabT}, (∀ l, l ∈ P → l.win.s < l.win.e) → InvS P T → InvS P' T' → P.Perm P' → ∀ r, r ∈ T → r ∈ T' := by
    intro P P' T T' hlt h h' hp r hr
    have hs := sessP_perm hp (h.row r hr)
    obtain ⟨l, hl, hk, he⟩ := (h.row r hr).fst
    have hlt := hlt l hl
    obtain ⟨q, hq, hqk, hq1, hq2⟩ := h'.has l (hp.mem_iff.1 hl)
    have hsq := h'.row q hq
    have hlt2 := hs.lt
    have hi := sess_win hs hsq (by omega) (by omega) (by omega)
    have : r = q := by
      have ea : r.agg = q.agg := by
        refine aggIs_uniq hs.agg hsq.agg ?_
        unfold valsS
        obtain ⟨e1, e2, e3⟩ := hi
        rw [e1, e2, e3]
      obtain ⟨k, ⟨s, e⟩, a⟩ := r; obtain ⟨k', ⟨s', e'⟩, a'⟩ := q
      unfold IsRow at hi; simp only at *; obtain ⟨rfl, rfl, rfl⟩ := hi; subst ea; rfl
    rw [this]; exact hq
  exact fun r => ⟨key hl h h' hp r, key (fun l h => hl l (hp.mem_iff.2 h)) h' h hp.symm r⟩
/-- What lies in one of several places that are apart, place by place. -/
theorem filter_parts {α β : Type} (P : List α) (f : α → Bool) (g : β → α → Bool) (v : α → Int) : ∀ (Q : List β), (Q.Pairwise fun q q' => ∀ l, l ∈ P → g q l = true → g q' l = true → False) →
    (∀ f : α → Bool, (∀ l, l ∈ P → (f l = true ↔ ∃ q, q ∈ Q ∧ g q l = true)) → ((P.filter f).map v).Perm (Q.flatMap fun q => (P.filter (g q)).map v))
  | [], _, f, h => by
    have : P.filter f = [] := List.filter_eq_nil_iff.2 fun l hl hf => by obtain ⟨q, hq, _⟩ := (h l hl).1 hf; simp at hq
    rw [this]; exact List.Perm.refl _
  | q :: Q, hp, f, h => by
    rw [List.pairwise_cons] at hp
    have ih := filter_parts P f g v Q hp.2 (fun l => f l && !g q l) (fun l hl => by
      simp only [Bool.and_eq_true, Bool.not_eq_true']
      constructor
      · rintro ⟨hf, hg⟩
        obtain ⟨q', hq', hg'⟩ := (h l hl).1 hf
        rcases List.mem_cons.1 hq' with rfl | hq'
        · rw [hg'] at hg; cases hg
        · exact ⟨q', hq', hg'⟩
      · rintro ⟨q', hq', hg'⟩
        refine ⟨(h l hl).2 ⟨q', List.mem_cons_of_mem _ hq', hg'⟩, ?_⟩
        cases hg : g q l with
        | false => rfl
        | true => exact (hp.1 q' hq' l hl hg hg').elim)
    have e : ∀ (P' : List α), (∀ l, l ∈ P' → g q l = true → f l = true) → (P'.filter f).Perm (P'.filter (g q) ++ P'.filter fun l => f l && !g q l) := by
      intro P'
      induction P' with
      | nil => intro _; exact List.Perm.refl _
      | cons l P' ih =>
        intro hs
        have i := ih fun l' hl' => hs l' (List.mem_cons_of_mem _ hl')
        have hs0 := hs l (by simp)
        simp only [List.filter_cons]
        cases hg : g q l with
        | true => rw [hs0 hg]; simp; exact i
        | false =>
          cases hf : f l with
          | false => simp; exact i
          | true => simp; exact (i.cons l).trans List.perm_middle.symm
    have e1 := (e P fun l hl hg => (h l hl).2 ⟨q, by simp, hg⟩).map v
    rw [List.map_append] at e1
    exact e1.trans (ih.append_left _)
theorem span_spec : ∀ (Q : List WinT) (w : WinT), (Q.foldl winSpan w).s ≤ w.s ∧ w.e ≤ (Q.foldl winSpan w).e ∧ (∀ q, q ∈ Q → (Q.foldl winSpan w).s ≤ q.s ∧ q.e ≤ (Q.foldl winSpan w).e) ∧
    ((Q.foldl winSpan w).s = w.s ∨ ∃ q, q ∈ Q ∧ (Q.foldl winSpan w).s = q.s) ∧ ((Q.foldl winSpan w).e = w.e ∨ ∃ q, q ∈ Q ∧ (Q.foldl winSpan w).e = q.e)
  | [], w => ⟨Int.le_refl _, Int.le_refl _, fun q h => by simp at h, .inl rfl, .inl rfl⟩
  | q :: Q, w => by
    obtain ⟨h1, h2, h3, h4, h5⟩ := span_spec Q (winSpan w q)
    have e1 : (winSpan w q).s ≤ w.s ∧ (winSpan w q).s ≤ q.s ∧ ((winSpan w q).s = w.s ∨ (winSpan w q).s = q.s) := by unfold winSpan; simp only; split <;> omega
    have e2 : w.e ≤ (winSpan w q).e ∧ q.e ≤ (winSpan w q).e ∧ ((winSpan w q).e = w.e ∨ (winSpan w q).e = q.e) := by unfold winSpan; simp only; split <;> omega
    rw [List.foldl_cons]
    refine ⟨by omega, by omega, fun x hx => ?_, ?_, ?_⟩
    · rcases List.mem_cons.1 hx with rfl | hx
      · omega
      · exact h3 x hx
    · rcases h4 with h | ⟨x, hx, h⟩
      · rcases e1.2.2 with h' | h'
        · exact .inl (by omega)
        · exact .inr ⟨q, by simp, by omega⟩
      · exact .inr ⟨x, List.mem_cons_of_mem _ hx, h⟩
    · rcases h5 with h | ⟨x, hx, h⟩
      · rcases e2.2.2 with h' | h'
        · exact .inl (by omega)
        · exact .inr ⟨q, by simp, by omega⟩
      · exact .inr ⟨x, List.mem_cons_of_mem _ hx, h⟩
/-- What is known of several, one behind the other. -/
theorem aggs_is {P : List LatT} (hf : ∀ q : TabT, ∀ x, x ∈ valsS q.key q.win P → -9 ≤ x ∧ x ≤ 9) : ∀ (Q : List TabT) (a : AggT) (L : List Int), (∀ q, q ∈ Q → AggIs q.agg (valsS q.key q.win P)) → AggIs a L → (∀ x, x ∈ L → -9 ≤ x ∧ x ≤ 9) →
    (L ++ Q.flatMap fun q => valsS q.key q.win P).length ≤ 1000000 → AggIs ((Q.map (·.agg)).foldl aggB a) (L ++ Q.flatMap fun q => valsS q.key q.win P)
  | [], a, L, _, h, _, _ => by simpa using h
  | q :: Q, a, L, hq, h, hv, hn => by
    rw [List.map_cons, List.foldl_cons, List.flatMap_cons, ← List.append_assoc]
    rw [List.flatMap_cons, ← List.append_assoc] at hn
    have hv2 : ∀ x, x ∈ L ++ valsS q.key q.win P → -9 ≤ x ∧ x ≤ 9 := fun x hx => (List.mem_append.1 hx).elim (hv x) (hf q x)
    refine aggs_is hf Q _ _ (fun x hx => hq x (List.mem_cons_of_mem _ hx)) (aggB_is h (hq q (by simp)) hv2 ?_) hv2 hn
    rw [List.length_append] at hn; omega
theorem tCnt_parts (p : TabT → Bool) : ∀ T : List TabT, tCnt T = tCnt (T.filter p) + tCnt (T.filter fun r => !p r)
  | [] => rfl
  | r :: T => by
    have := tCnt_parts p T
    simp only [List.filter_cons]
    cases h : p r <;> simp [tCnt] <;> omega
theorem tCnt_vals {P : List LatT} : ∀ Q : List TabT, (∀ q, q ∈ Q → AggIs q.agg (valsS q.key q.win P)) → tCnt Q = ((Q.flatMap fun q => valsS q.key q.win P).length : Int)
  | [], _ => rfl
  | q :: Q, h => by
    rw [List.flatMap_cons, List.length_append]
    have := tCnt_vals Q fun x hx => h x (List.mem_cons_of_mem _ hx)
    have := (h q (by simp)).n
    simp only [tCnt]; omega
theorem invS_step {P : List LatT} {T : List TabT} {l : LatT} (h : InvS P T) (hf : Fine (P ++ [l])) :
    InvS (P ++ [l]) (sessS l.itm.key l.win l.itm.v T) ∧ tCnt (sessS l.itm.key l.win l.itm.v T) = tCnt T + 1 ∧ sessI l.itm.key l.win l.itm.v T = sessS l.itm.key l.win l.itm.v T := by
  have hfp : Fine P := ⟨by have := hf.1; rw [List.length_append] at this; omega, fun x hx => hf.2 x (List.mem_append_left _ hx)⟩
  obtain ⟨hab, hv⟩ := hf.2 l (by simp)
  have hlen := hf.1
  rw [List.length_append] at hlen
  have hlen : P.length + 1 ≤ 100000 := hlen
  obtain ⟨Q, hQ⟩ : ∃ Q, Q = T.filter (tchD l.itm.key l.win) := ⟨_, rfl⟩
  obtain ⟨R, hR⟩ : ∃ R, R = T.filter fun r => !tchD l.itm.key l.win r := ⟨_, rfl⟩
  obtain ⟨W, hW⟩ : ∃ W, W = (Q.map (·.win)).foldl winSpan l.win := ⟨_, rfl⟩
  have mQ : ∀ q, q ∈ Q ↔ q ∈ T ∧ q.key = l.itm.key ∧ q.win.s < l.win.e ∧ l.win.s < q.win.e := fun q => by rw [hQ, List.mem_filter]; unfold tchD; rw [decide_eq_true_eq]
  have mR : ∀ q, q ∈ R ↔ q ∈ T ∧ ¬ (q.key = l.itm.key ∧ q.win.s < l.win.e ∧ l.win.s < q.win.e) := fun q => by rw [hR, List.mem_filter]; unfold tchD; simp only [Bool.not_eq_true', decide_eq_false_iff_not]
  obtain ⟨s1, s2, s3, s4, s5⟩ := span_spec (Q.map (·.win)) l.win
  rw [← hW] at s1 s2 s3 s4 s5
  have s3 : ∀ q, q ∈ Q → W.s ≤ q.win.s ∧ q.win.e ≤ W.e := fun q hq => s3 q.win (List.mem_map.2 ⟨q, hq, rfl⟩)
  have s4 : W.s = l.win.s ∨ ∃ q, q ∈ Q ∧ W.s = q.win.s := s4.imp id fun ⟨x, hx, e⟩ => by obtain ⟨q, hq, rfl⟩ := List.mem_map.1 hx; exact ⟨q, hq, e⟩
  have s5 : W.e = l.win.e ∨ ∃ q, q ∈ Q ∧ W.e = q.win.e := s5.imp id fun ⟨x, hx, e⟩ => by obtain ⟨q, hq, rfl⟩ := List.mem_map.1 hx; exact ⟨q, hq, e⟩
  have hcov : ∀ k p, CovP (P ++ [l]) k p ↔ CovP P k p ∨ (l.itm.key = k ∧ l.win.s < p ∧ p < l.win.e) := fun k p => by
    constructor
    · rintro ⟨x, hx, hc⟩
      rcases List.mem_append.1 hx with hx | hx
      · exact .inl ⟨x, hx, hc⟩
      · simp at hx; subst hx; exact .inr hc
    · rintro (⟨x, hx, hc⟩ | hc)
      · exact ⟨x, List.mem_append_left _ hx, hc⟩
      · exact ⟨l, by simp, hc⟩
  have hvs : ∀ k w, valsS k w (P ++ [l]) = valsS k w P ++ if l.itm.key = k ∧ w.s ≤ l.win.s ∧ l.win.s < w.e then [l.itm.v] else [] := fun k w => by
    unfold valsS
    rw [List.filter_append, List.map_append]
    by_cases h : l.itm.key = k ∧ w.s ≤ l.win.s ∧ l.win.s < w.e
    · have hd : decide (l.itm.key = k ∧ w.s ≤ l.win.s ∧ l.win.s < w.e) = true := decide_eq_true h
      simp only [List.filter_cons, List.filter_nil, hd, if_pos h, if_true, List.map_cons, List.map_nil]
    · have hd : decide (l.itm.key = k ∧ w.s ≤ l.win.s ∧ l.win.s < w.e) = false := decide_eq_false h
      simp only [List.filter_cons, List.filter_nil, hd, if_neg h, Bool.false_eq_true, if_false, List.map_nil]
  have hQT : ∀ q, q ∈ Q → q ∈ T := fun q hq => ((mQ q).1 hq).1
  -- the values of the new row
  have hbig : (valsS l.itm.key W P).Perm (Q.flatMap fun q => valsS q.key q.win P) := by
    have hpw : Q.Pairwise fun q q' => ∀ x, x ∈ P → decide (x.itm.key = q.key ∧ q.win.s ≤ x.win.s ∧ x.win.s < q.win.e) = true → decide (x.itm.key = q'.key ∧ q'.win.s ≤ x.win.s ∧ x.win.s < q'.win.e) = true → False := by
      have hrise : Rise Q := by rw [hQ]; exact h.rise.sublist List.filter_sublist
      refine hrise.imp_of_mem ?_
      intro q q' hq hq' ha x hx h1 h2
      rw [decide_eq_true_eq] at h1 h2
      have := sess_same h (hQT q hq) (hQT q' hq') (by omega) (by omega) (by omega)
      subst this
      exact ahead_irr _ ha
    refine filter_parts P (fun _ => true) (fun (q : TabT) (x : LatT) => decide (x.itm.key = q.key ∧ q.win.s ≤ x.win.s ∧ x.win.s < q.win.e)) (·.itm.v) Q hpw _ fun x hx => ?_
    simp only [decide_eq_true_eq]
    constructor
    · rintro ⟨hk, hx1, hx2⟩
      obtain ⟨q', hq', e1, e2, e3⟩ := h.has x hx
      have hxl := (hfp.2 x hx).1
      refine ⟨q', (mQ q').2 ⟨hq', by omega, ?_⟩, by omega, e2, by omega⟩
      by_cases c1 : l.win.s < q'.win.e
      · refine ⟨?_, c1⟩
        by_cases c2 : q'.win.s < l.win.e
        · exact c2
        · rcases s5 with s5 | ⟨q, hq, s5⟩
          · omega
          · have hq3 := (mQ q).1 hq
            have := sess_same h hq3.1 hq' (by omega) (by omega) (by omega)
            subst this; omega
      · rcases s4 with s4 | ⟨q, hq, s4⟩
        · omega
        · have hq3 := (mQ q).1 hq
          have := sess_same h hq3.1 hq' (by omega) (by omega) (by omega)
          subst this; omega
    · rintro ⟨q, hq, e1, e2, e3⟩
      have := s3 q hq
      have := (mQ q).1 hq
      omega
  have hfq : ∀ q : TabT, ∀ x, x ∈ valsS q.key q.win P → -9 ≤ x ∧ x ≤ 9 := fun q => vals_bd hfp
  have hlq : (Q.flatMap fun q => valsS q.key q.win P).length ≤ P.length := by rw [← hbig.length_eq]; exact vals_len
  have hagq : ∀ q, q ∈ Q → AggIs q.agg (valsS q.key q.win P) := fun q hq => (h.row q (hQT q hq)).agg
  have hag1 := aggs_is hfq Q (agg1 l.itm.v) [l.itm.v] hagq (aggIs_one _) (fun x hx => by simp at hx; subst hx; exact hv) (by rw [List.length_append, List.length_singleton]; omega)
  have hag0 := aggs_is hfq Q zAgg [] hagq aggIs_nil (fun x hx => by simp at hx) (by rw [List.nil_append]; omega)
  have hag2 : AggIs (aggAdd ((Q.map (·.agg)).foldl aggB zAgg) l.itm.v) (([] ++ Q.flatMap fun q => valsS q.key q.win P) ++ [l.itm.v]) := by
    refine aggB_is hag0 (aggIs_one _) (fun x hx => ?_) ?_
    · rcases List.mem_append.1 hx with hx | hx
      · rw [List.nil_append] at hx
        obtain ⟨q, hq, hx⟩ := List.mem_flatMap.1 hx
        exact hfq q x hx
      · simp at hx; subst hx; exact hv
    · rw [List.length_append, List.nil_append, List.length_singleton]; omega
  have heq : aggAdd ((Q.map (·.agg)).foldl aggB zAgg) l.itm.v = (Q.map (·.agg)).foldl aggB (agg1 l.itm.v) := aggIs_uniq hag2 hag1 (by rw [List.nil_append]; exact List.perm_append_comm)
  have hvnew : (valsS l.itm.key W (P ++ [l])).Perm ([l.itm.v] ++ Q.flatMap fun q => valsS q.key q.win P) := by
    rw [hvs, if_pos ⟨rfl, s1, by omega⟩]
    exact (hbig.append_right _).trans List.perm_append_comm
  have hagn : AggIs ((Q.map (·.agg)).foldl aggB (agg1 l.itm.v)) (valsS l.itm.key W (P ++ [l])) := by
    have hp := hvnew.symm
    refine ⟨by rw [hag1.n, hp.length_eq], by rw [hag1.sum, sumI_perm hp], fun e => hag1.z (List.nil_perm.1 (by rw [e] at hp; exact hp.symm)), fun e => ?_⟩
    obtain ⟨a1, a2, a3⟩ := hag1.nz (by simp)
    exact ⟨hp.mem_iff.1 a1, hp.mem_iff.1 a2, fun x hx => a3 x (hp.mem_iff.2 hx)⟩
  have hRn : ∀ q, q ∈ R → ¬ IsRow l.itm.key W q := fun q hq e => by
    have := (mR q).1 hq
    unfold IsRow at e
    exact this.2 (by omega)
  refine ⟨⟨?_, fun r hr => ?_, fun x hx => ?_⟩, ?_, ?_⟩
  · unfold sessS
    rw [← hQ, ← hR, ← hW]
    exact rise_tPut (by rw [hR]; exact h.rise.sublist List.filter_sublist)
  · unfold sessS at hr
    rw [← hQ, ← hR, ← hW] at hr
    rcases mem_tPut.1 hr with rfl | ⟨hr, hn⟩
    · refine ⟨show W.s < W.e by omega, ?_, ?_, ?_, ?_, ?_, hagn⟩
      · show ∃ x, x ∈ P ++ [l] ∧ x.itm.key = l.itm.key ∧ x.win.s = W.s
        rcases s4 with e | ⟨q, hq, e⟩
        · exact ⟨l, by simp, rfl, e.symm⟩
        · have hq' := (mQ q).1 hq
          obtain ⟨x, hx, h1, h2⟩ := (h.row q hq'.1).fst
          exact ⟨x, List.mem_append_left _ hx, by omega, by omega⟩
      · show ∃ x, x ∈ P ++ [l] ∧ x.itm.key = l.itm.key ∧ x.win.e = W.e
        rcases s5 with e | ⟨q, hq, e⟩
        · exact ⟨l, by simp, rfl, e.symm⟩
        · have hq' := (mQ q).1 hq
          obtain ⟨x, hx, h1, h2⟩ := (h.row q hq'.1).lst
          exact ⟨x, List.mem_append_left _ hx, by omega, by omega⟩
      · show ∀ p, W.s < p → p < W.e → CovP (P ++ [l]) l.itm.key p
        intro p hp1 hp2
        rw [hcov]
        by_cases c1 : l.win.s < p
        · by_cases c2 : p < l.win.e
          · exact .inr ⟨rfl, c1, c2⟩
          · rcases s5 with e | ⟨q, hq, e⟩
            · omega
            · have hq' := (mQ q).1 hq
              have := (h.row q hq'.1).mid p (by omega) (by omega)
              rw [hq'.2.1] at this
              exact .inl this
        · rcases s4 with e | ⟨q, hq, e⟩
          · omega
          · have hq' := (mQ q).1 hq
            have := (h.row q hq'.1).mid p (by omega) (by omega)
            rw [hq'.2.1] at this
            exact .inl this
      · show ¬ CovP (P ++ [l]) l.itm.key W.s
        rw [hcov]
        rintro (hc | hc)
        · rcases s4 with e | ⟨q, hq, e⟩
          · obtain ⟨x, hx, h1, h2, h3⟩ := hc
            obtain ⟨q', hq', e1, e2, e3⟩ := h.has x hx
            have := s3 q' ((mQ q').2 ⟨hq', by omega, by omega, by omega⟩)
            omega
          · have hq' := (mQ q).1 hq
            refine (h.row q hq'.1).low ?_
            rw [hq'.2.1, ← e]; exact hc
        · omega
      · show ¬ CovP (P ++ [l]) l.itm.key W.e
        rw [hcov]
        rintro (hc | hc)
        · rcases s5 with e | ⟨q, hq, e⟩
          · obtain ⟨x, hx, h1, h2, h3⟩ := hc
            obtain ⟨q', hq', e1, e2, e3⟩ := h.has x hx
            have := s3 q' ((mQ q').2 ⟨hq', by omega, by omega, by omega⟩)
            omega
          · have hq' := (mQ q).1 hq
            refine (h.row q hq'.1).top ?_
            rw [hq'.2.1, ← e]; exact hc
        · omega
    · have hr' := (mR r).1 hr
      have hs := h.row r hr'.1
      have hlt := hs.lt
      obtain ⟨x1, hx1, hx1'⟩ := hs.fst
      obtain ⟨x2, hx2, hx2'⟩ := hs.lst
      refine ⟨hs.lt, ⟨x1, List.mem_append_left _ hx1, hx1'⟩, ⟨x2, List.mem_append_left _ hx2, hx2'⟩, fun p a b => (hcov _ _).2 (.inl (hs.mid p a b)), ?_, ?_, ?_⟩
      · rw [hcov]
        rintro (hc | hc)
        · exact hs.low hc
        · exact hr'.2 (by omega)
      · rw [hcov]
        rintro (hc | hc)
        · exact hs.top hc
        · exact hr'.2 (by omega)
      · rw [hvs, if_neg (fun e => hr'.2 (by omega)), List.append_nil]
        exact hs.agg
  · unfold sessS
    rw [← hQ, ← hR, ← hW]
    rcases List.mem_append.1 hx with hx | hx
    · obtain ⟨q, hq, e1, e2, e3⟩ := h.has x hx
      by_cases hc : q ∈ Q
      · have := s3 q hc
        exact ⟨_, mem_tPut.2 (.inl rfl), by have := ((mQ q).1 hc).2.1; simp only; omega, by simp only; omega, by simp only; omega⟩
      · have hqR : q ∈ R := (mR q).2 ⟨hq, fun e => hc ((mQ q).2 ⟨hq, e⟩)⟩
        exact ⟨q, mem_tPut.2 (.inr ⟨hqR, hRn q hqR⟩), e1, e2, e3⟩
    · simp at hx; subst hx
      exact ⟨_, mem_tPut.2 (.inl rfl), rfl, s1, s2⟩
  · have e1 := tCnt_parts (tchD l.itm.key l.win) T
    rw [← hQ, ← hR] at e1
    have e2 := tCnt_vals Q hagq
    unfold sessS
    rw [← hQ, ← hR, ← hW]
    unfold tPut
    rw [tCnt_ins, tOut_none hRn]
    have e3 := hag1.n
    rw [List.length_append] at e3
    show ((Q.map (·.agg)).foldl aggB (agg1 l.itm.v)).n + _ = _
    simp only [List.length_singleton] at e3
    omega
  · unfold sessI sessS
    rw [← hQ, ← hR, ← hW, heq]
end Go.Rk
/- Draws. -/
namespace Go.Rk
set_option linter.unusedSimpArgs false
set_option linter.unusedVariables false
theorem br_t {A : Ar} (hA : real = A) {t : Bool} {p q : Prop} (h : t = true) (hp : p) : A.br t p q := by subst hA; exact ⟨fun _ => hp, fun h2 => by rw [h] at h2; cases h2⟩
theorem br_f {A : Ar} (hA : real = A) {t : Bool} {p q : Prop} (h : t = false) (hq : q) : A.br t p q := by subst hA; exact ⟨fun h2 => (by rw [h] at h2; cases h2), fun _ => hq⟩
abbrev eU (n : Int) : DV := .v (.int .u8 n)
def pickY (m : Nat) (b : Nat → Int) (p : Int) : Int := b (p.tmod m).toNat * 131 + b ((p * 7 + 3).tmod m).toNat * 1117 + p * 29 + p.tdiv m * 53
def pickX (y : Int) : Int := IntKind.i64.wrap (BitVec.ofInt 64 y ^^^ BitVec.ofInt 64 (y.tdiv 64)).toNat
def pickV (m : Nat) (b : Nat → Int) (p n : Int) : Int := if m = 0 then 0 else if p < m then (b p.toNat).tmod n else (pickX (pickY m b p)).tmod n
theorem xor_nn {a b : Int} (h0 : 0 ≤ a ∧ a < 4611686018427387904) (h1 : 0 ≤ b ∧ b < 4611686018427387904) : 0 ≤ ((BitVec.ofInt 64 a ^^^ BitVec.ofInt 64 b).toNat : Int) ∧ ((BitVec.ofInt 64 a ^^^ BitVec.ofInt 64 b).toNat : Int) < 4611686018427387904 := by
  have e : ∀ c : Int, 0 ≤ c ∧ c < 4611686018427387904 → (BitVec.ofInt 64 c).toNat < 2 ^ 62 := fun c hc => by
    rw [BitVec.toNat_ofInt]
    have h64 : ((2 ^ 64 : Nat) : Int) = 18446744073709551616 := by decide
    have h62 : (2 : Nat) ^ 62 = 4611686018427387904 := by decide
    rw [h64, h62]
    omega
  have h := Nat.xor_lt_two_pow (e a h0) (e b h1)
  rw [← BitVec.toNat_xor] at h
  have : (2 : Nat) ^ 62 = 4611686018427387904 := by decide
  exact ⟨by omega, by omega⟩
theorem tmod_in {a n : Int} (ha : 0 ≤ a) (hn : 1 ≤ n) : 0 ≤ a.tmod n ∧ a.tmod n < n := ⟨Int.tmod_nonneg n ha, Int.tmod_lt_of_pos a (by omega)⟩
theorem pickY_in {m : Nat} {b : Nat → Int} {p : Int} (hm : 1 ≤ m) (hb : ∀ i, 0 ≤ b i ∧ b i ≤ 255) (hp : 0 ≤ p ∧ p ≤ 1000000) : 0 ≤ pickY m b p ∧ pickY m b p ≤ 1000000000 := by
  unfold pickY
  have h1 := hb (p.tmod m).toNat
  have h2 := hb ((p * 7 + 3).tmod m).toNat
  have h3 : 0 ≤ p.tdiv m := Int.tdiv_nonneg hp.1 (by omega)
  have h4 : p.tdiv m ≤ p := by
    have := Int.tdiv_le_self (a := p) m hp.1
    exact this
  omega
theorem pickV_in {m : Nat} {b : Nat → Int} {p n : Int} (hb : ∀ i, 0 ≤ b i ∧ b i ≤ 255) (hp : 0 ≤ p ∧ p ≤ 1000000) (hn : 1 ≤ n) : 0 ≤ pickV m b p n ∧ pickV m b p n < n := by
  unfold pickV
  split
  · omega
  · split
    · exact tmod_in (hb _).1 hn
    · refine tmod_in ?_ hn
      have hy := pickY_in (m := m) (p := p) (by omega) hb hp
      have hd : 0 ≤ (pickY m b p).tdiv 64 := Int.tdiv_nonneg hy.1 (by decide)
      have hd2 : (pickY m b p).tdiv 64 ≤ pickY m b p := Int.tdiv_le_self 64 hy.1
      have hx := xor_nn (a := pickY m b p) (b := (pickY m b p).tdiv 64) ⟨hy.1, by omega⟩ ⟨hd, by omega⟩
      unfold pickX
      rw [IntWalk.i64_in _ (by omega)]
      exact hx.1
end Go.Rk
/- What is known of values, put together. -/
namespace Go.Rk
set_option linter.unusedSimpArgs false
set_option linter.unusedVariables false
open Go.Proofs
set_option maxRecDepth 100000
set_option maxHeartbeats 1000000
theorem c_AggBoth (a b c : AggT) (hc : c = aggB a b) : Meets Try.prog 52 [xd (eAgg a), xd (eAgg b)] ⟨.one (xd (eAgg c)), [none, none]⟩ := by
  obtain ⟨n, s, l, m⟩ := a; obtain ⟨n2, s2, l2, m2⟩ := b; obtain ⟨n3, s3, l3, m3⟩ := c
  refine meets_of (H := []) (EX := EXA) ttok mixed Try.func52 rfl (by kernel_rfl) (by decide) ?_
  generalize hA : real = A
  generalize hM : Meets Try.prog = M
  cbv
  repeat' first
    | apply And.intro
    | exact True.intro
    | with_reducible rfl
    | exact same_of hA rfl
    | refine br_of hA (fun _ => ?_) (fun _ => ?_)
    | exact imp_of hA id
    | (refine imp_of hA ?_; subst hA; simp only [real, Bool.true_and]; exact id)
    | (refine ind_of hA ?_; decide +kernel)
  all_goals
    subst hA
    simp only [aggB, w64] at hc
    simp only [real, bifA, bifB, bifC, bifD, beqI, beqIF, decide_eq_true_eq, decide_eq_false_iff_not, gt_iff_lt] at *
    simp_all
theorem c_AggAdd (a : AggT) (v : Int) (c : AggT) (hc : c = aggAdd a v) : Meets Try.prog 62 [xd (eAgg a), .c (.d (eI v))] ⟨.one (xd (eAgg c)), [none, none]⟩ := by
  have h := c_AggBoth a (agg1 v) c hc
  obtain ⟨n, s, l, m⟩ := a
  refine meets_of (H := []) (EX := EXA) ttok mixed Try.func62 rfl (by kernel_rfl) (by decide) ?_
  generalize hA : real = A
  generalize hM : Meets Try.prog = M
  cbv
  repeat' first
    | apply And.intro
    | exact True.intro
    | with_reducible rfl
    | exact same_of hA rfl
    | refine br_of hA (fun _ => ?_) (fun _ => ?_)
    | exact imp_of hA id
    | (refine imp_of hA ?_; subst hA; simp only [real, Bool.true_and]; exact id)
    | (refine ind_of hA ?_; decide +kernel)
    | (refine call_of hA hM _ h ?_; cbv)
theorem c_WinSpan (a b c : WinT) (hc : c = winSpan a b) : Meets Try.prog 103 [xd (eWin a), xd (eWin b)] ⟨.one (xd (eWin c)), [none, none]⟩ := by
  obtain ⟨n, s⟩ := a; obtain ⟨n2, s2⟩ := b; obtain ⟨n3, s3⟩ := c
  refine meets_of (H := []) (EX := EXA) ttok mixed Try.func103 rfl (by kernel_rfl) (by decide) ?_
  generalize hA : real = A
  generalize hM : Meets Try.prog = M
  cbv
  repeat' first
    | apply And.intro
    | exact True.intro
    | with_reducible rfl
    | exact same_of hA rfl
    | refine br_of hA (fun _ => ?_) (fun _ => ?_)
    | exact imp_of hA id
    | (refine imp_of hA ?_; subst hA; simp only [real, Bool.true_and]; exact id)
    | (refine ind_of hA ?_; decide +kernel)
  all_goals
    subst hA
    simp only [winSpan] at hc
    simp only [real, bifA, bifB, bifC, bifD, beqI, beqIF, decide_eq_true_eq, decide_eq_false_iff_not, gt_iff_lt] at *
    simp_all
theorem c_sAggBoth (a b c : AggT) (hc : c = aggB a b) : Meets Try.prog 100 [xd (eAgg a), xd (eAgg b)] ⟨.one (xd (eAgg c)), [none, none]⟩ := by
  obtain ⟨n, s, l, m⟩ := a; obtain ⟨n2, s2, l2, m2⟩ := b; obtain ⟨n3, s3, l3, m3⟩ := c
  refine meets_of (H := []) (EX := EXA) ttok mixed Try.func100 rfl (by kernel_rfl) (by decide) ?_
  generalize hA : real = A
  generalize hM : Meets Try.prog = M
  cbv
  repeat' first
    | apply And.intro
    | exact True.intro
    | with_reducible rfl
    | exact same_of hA rfl
    | refine br_of hA (fun _ => ?_) (fun _ => ?_)
    | exact imp_of hA id
    | (refine imp_of hA ?_; subst hA; simp only [real, Bool.true_and]; exact id)
    | (refine ind_of hA ?_; decide +kernel)
  all_goals
    subst hA
    simp only [aggB, w64] at hc
    simp only [real, bifA, bifB, bifC, bifD, beqI, beqIF, decide_eq_true_eq, decide_eq_false_iff_not, gt_iff_lt] at *
    simp_all
theorem c_sAggAdd (a : AggT) (v : Int) (c : AggT) (hc : c = aggAdd a v) : Meets Try.prog 105 [xd (eAgg a), .c (.d (eI v))] ⟨.one (xd (eAgg c)), [none, none]⟩ := by
  have h := c_sAggBoth a (agg1 v) c hc
  obtain ⟨n, s, l, m⟩ := a
  refine meets_of (H := []) (EX := EXA) ttok mixed Try.func105 rfl (by kernel_rfl) (by decide) ?_
  generalize hA : real = A
  generalize hM : Meets Try.prog = M
  cbv
  repeat' first
    | apply And.intro
    | exact True.intro
    | with_reducible rfl
    | exact same_of hA rfl
    | refine br_of hA (fun _ => ?_) (fun _ => ?_)
    | exact imp_of hA id
    | (refine imp_of hA ?_; subst hA; simp only [real, Bool.true_and]; exact id)
    | (refine ind_of hA ?_; decide +kernel)
    | (refine call_of hA hM _ h ?_; cbv)
theorem c_sWinSpan (a b c : WinT) (hc : c = winSpan a b) : Meets Try.prog 125 [xd (eWin a), xd (eWin b)] ⟨.one (xd (eWin c)), [none, none]⟩ := by
  obtain ⟨n, s⟩ := a; obtain ⟨n2, s2⟩ := b; obtain ⟨n3, s3⟩ := c
  refine meets_of (H := []) (EX := EXA) ttok mixed Try.func125 rfl (by kernel_rfl) (by decide) ?_
  generalize hA : real = A
  generalize hM : Meets Try.prog = M
  cbv
  repeat' first
    | apply And.intro
    | exact True.intro
    | with_reducible rfl
    | exact same_of hA rfl
    | refine br_of hA (fun _ => ?_) (fun _ => ?_)
    | exact imp_of hA id
    | (refine imp_of hA ?_; subst hA; simp only [real, Bool.true_and]; exact id)
    | (refine ind_of hA ?_; decide +kernel)
  all_goals
    subst hA
    simp only [winSpan] at hc
    simp only [real, bifA, bifB, bifC, bifD, beqI, beqIF, decide_eq_true_eq, decide_eq_false_iff_not, gt_iff_lt] at *
    simp_all
end Go.Rk
/- Tables: out. -/
namespace Go.Rk
set_option linter.unusedSimpArgs false
set_option linter.unusedVariables false
open Go.Proofs
set_option maxRecDepth 100000
set_option maxHeartbeats 1000000
open Classical in
set_option maxRecDepth 100000 in
theorem c_of (r : TabT) (key : Int) (w : WinT) : ∃ b, (b = true ↔ IsRow key w r) ∧ Meets Try.prog 97 [xd (eTab r), .c (.d (eI key)), xd (eWin w)] ⟨.one (.c (.d (eB b))), [none, none, none]⟩ := by
  obtain ⟨b, hb⟩ : ∃ b, b = decide (IsRow key w r) := ⟨_, rfl⟩
  refine ⟨b, by rw [hb, decide_eq_true_eq], ?_⟩
  refine meets_of (H := []) (EX := EXA) ttok mixed Try.func97 rfl (by kernel_rfl) (by decide) ?_
  generalize hA : real = A
  generalize hM : Meets Try.prog = M
  cbv
  repeat' first
    | apply And.intro
    | exact True.intro
    | with_reducible rfl
    | exact same_of hA rfl
    | refine br_of hA (fun _ => ?_) (fun _ => ?_)
    | exact imp_of hA id
    | (refine imp_of hA ?_; subst hA; simp only [real, Bool.true_and]; exact id)
    | (refine ind_of hA ?_; decide +kernel)
  all_goals obtain ⟨k, ⟨s, e⟩, ag⟩ := r; obtain ⟨s2, e2⟩ := w
  all_goals subst hA
  all_goals refine congrArg (fun b => XA.one (.c (.d (eB b)))) (Bool.eq_iff_iff.2 ?_)
  all_goals subst_vars
  all_goals simp only [real, bifA, bifB, bifC, bifD, beqB, decide_eq_true_eq, decide_eq_false_iff_not, beqI, bneI, beqIF, bneIF, ne_eq, Bool.and_eq_true, Bool.or_eq_true, Bool.not_eq_true', Bool.not_eq_false', Bool.and_eq_false_iff, Bool.or_eq_false_iff, Bool.false_eq_true, and_false, false_and, or_false, false_or, and_true, true_and, not_true_eq_false, not_false_eq_true, true_iff, false_iff, IntKind.wrap_i64, IsRow, WinOkP, AggOkP] at *
  all_goals first | omega | exact decide_eq_true_iff.symm
def st_Out (n : Nat) (g : Nat → TabT) (key : Int) (w : WinT) (i c : Nat) (row : Nat → List DV) : St := ⟨[(12, .c (.d (eI i))), (11, .c (.d (eI n))), (10, .c (.d (.sl 7 n fun i => eTab (g i)))), (7, .c (.own 448 0 c 1)), (1, .c (.d (eI key))), (5, .c (.bp 320 1 0))], [(320, 1, .box ((eWin w).map .d)), (448, 1, .arr 7 c row)]⟩
theorem c_Out (l : List TabT) (n : Nat) (g : Nat → TabT) (hl : Lst zTab l n g) (hn : n ≤ 1100000) (key : Int) (w : WinT) (n0 : Nat) (G : Nat → TabT) (h0 : Lst zTab (tOut key w l) n0 G) : Meets Try.prog 48 [.c (.d (.sl 7 n fun i => eTab (g i))), .c (.d (eI key)), xd (eWin w)] ⟨.one (.c (.own 7 n0 fun i => eTab (G i))), [none, none, none]⟩ := by
  have hnL : n ≤ maxLen := Nat.le_trans hn (by decide)
  have h0 := lst_tells eTab h0
  refine meets_of (H := [8]) (EX := EXA) ttok mixed Try.func48 rfl (by kernel_rfl) (by decide) ?_
  generalize hA : real = A
  generalize hM : Meets Try.prog = M
  cbv
  repeat' first
    | apply And.intro
    | exact True.intro
    | with_reducible rfl
    | exact same_of hA rfl
    | refine br_of hA (fun _ => ?_) (fun _ => ?_)
    | exact imp_of hA id
    | (refine imp_of hA ?_; subst hA; simp only [real, Bool.true_and]; exact id)
    | (refine ind_of hA ?_; decide +kernel)
  refine loop_of hA (α := { q : Nat × Nat × (Nat → List DV) // q.1 ≤ n ∧ Tells zTab eTab (tOut key w (l.take q.1)) q.2.1 q.2.2 }) (fun y => st_Out n g key w y.1.1 y.1.2.1 y.1.2.2) (fun y => n - y.1.1) ⟨(0, 0, fun _ => []), Nat.zero_le _, rfl, fun k h => absurd h (Nat.not_lt_zero k)⟩ ?_ ?_
  · refine cov_prom 7 448 1 7 (fun _ => []) (by cbv) (by cbv) (cov_of ?_ ?_ ?_)
    · cbv; try (subst hA; repeat' first | apply And.intro | exact True.intro | rfl)
    · cbv; try (subst hA; repeat' first | apply And.intro | exact True.intro | rfl | (intro _ _; rfl) | (intro k hk; exact absurd hk (Nat.not_lt_zero k)))
    · cbv; try (subst hA; repeat' first | apply And.intro | exact True.intro | rfl | exact .inr trivial)
  rintro ⟨⟨i, c, row⟩, hi, hT⟩
  have hi : i ≤ n := hi
  have hT : Tells zTab eTab (tOut key w (l.take i)) c row := hT
  have hci : c ≤ i := by
    rw [hT.1]
    have h1 := tOut_len key w (l.take i)
    rw [List.length_take] at h1
    omega
  cbv
  repeat' first
    | apply And.intro
    | exact True.intro
    | with_reducible rfl
    | exact same_of hA rfl
    | refine br_of hA (fun _ => ?_) (fun _ => ?_)
    | exact imp_of hA id
    | (refine imp_of hA ?_; subst hA; simp only [real, Bool.true_and]; exact id)
    | (refine ind_of hA ?_; decide +kernel)
    | (refine call_ex hA hM (c_of _ _ _) (fun _ _ => ?_); cbv)
    | (refine inb_of hA fun _ => ?_; subst hA; simp only [real, Bool.and_eq_true, Bool.not_eq_true', Bool.not_eq_false', decide_eq_true_eq, Int.ofNat_eq_natCast, IntKind.wrap_i64] at *; omega)
    | exact room_add2 hA (by omega) (by decide)
  · rename_i hlt bq hbq hc
    have hlt' : i < n := by subst hA; simp only [real, decide_eq_true_eq, Int.ofNat_eq_natCast] at hlt; omega
    have hq : ¬ IsRow key w (g i) := by
      have hbq : bq = true ↔ IsRow key w (g i) := by subst hA; exact hbq
      intro h
      have h2 := hbq.2 h
      subst hA
      have hc : (!bq) = true := hc
      rw [h2] at hc; cases hc
    refine ⟨⟨(i + 1, c + 1, fun q => if q < c then row q else eTab (g i)), by simp only; omega, ?_⟩, by simp only; omega, cov_of ?_ ?_ ?_⟩
    · simp only
      rw [lst_take hl hlt', tOut_app]
      show Tells zTab eTab (tOut key w (l.take i) ++ (if IsRow key w (g i) then tOut key w [] else g i :: tOut key w [])) _ _
      rw [if_neg hq]
      exact tells_snoc hT (fun q _ => rfl)
    · cbv
      subst hA
      repeat' first | apply And.intro | exact True.intro | exact congrArg (fun x => DV.v (.int .i64 x)) (up64 hlt' hnL) | rfl
    · cbv
      subst hA
      repeat' first | apply And.intro | exact True.intro | rfl | (intro _ _; rfl) | (intro q hq; exact push_at rfl _ _ _ _ q hq) | (intro q hq; have e0 : real.add 0 (real.nat (Int.ofNat i)) = i := Nat.zero_add i; rw [e0]; exact push_at rfl _ _ _ _ q hq) | (intro q hq; have e0 : real.nat (Int.ofNat i) = i := rfl; rw [e0]; exact push_at rfl _ _ _ _ q hq)
    · cbv; try (subst hA; repeat' first | apply And.intro | exact True.intro | rfl | exact .inr trivial)
  · rename_i hlt bq hbq hc
    have hlt' : i < n := by subst hA; simp only [real, decide_eq_true_eq, Int.ofNat_eq_natCast] at hlt; omega
    have hq : IsRow key w (g i) := by
      have hbq : bq = true ↔ IsRow key w (g i) := by subst hA; exact hbq
      subst hA
      have hc : (!bq) = false := hc
      refine hbq.1 ?_
      cases bq
      · cases hc
      · rfl
    refine ⟨⟨(i + 1, c, row), by simp only; omega, ?_⟩, by simp only; omega, cov_of ?_ ?_ ?_⟩
    · simp only
      rw [lst_take hl hlt', tOut_app]
      show Tells zTab eTab (tOut key w (l.take i) ++ (if IsRow key w (g i) then tOut key w [] else g i :: tOut key w [])) _ _
      rw [if_pos hq]
      show Tells zTab eTab (tOut key w (l.take i) ++ []) _ _
      rw [List.append_nil]
      exact hT
    · cbv
      subst hA
      repeat' first | apply And.intro | exact True.intro | exact congrArg (fun x => DV.v (.int .i64 x)) (up64 hlt' hnL) | rfl
    · cbv; try (subst hA; repeat' first | apply And.intro | exact True.intro | rfl | (intro _ _; rfl))
    · cbv; try (subst hA; repeat' first | apply And.intro | exact True.intro | rfl | exact .inr trivial)
  · rename_i hge
    have hin : i = n := by subst hA; simp only [real, decide_eq_false_iff_not, Int.ofNat_eq_natCast] at hge; omega
    subst hin
    rw [lst_all hl] at hT
    have hcc : c = n0 := hT.1.trans h0.1.symm
    subst hcc
    refine stop_of hA ⟨[(7, .c (.own 448 0 c 1))], [(448, 1, .arr 7 c fun i => eTab (G i))]⟩ (cov_of ?_ ?_ ?_) ?_
    · cbv
    · cbv
      exact ⟨fun q hq => (hT.2 q hq).trans (h0.2 q hq).symm, trivial⟩
    · cbv
    · cbv
      repeat' first
        | apply And.intro
        | exact True.intro
        | with_reducible rfl
        | exact same_of hA rfl
        | refine br_of hA (fun _ => ?_) (fun _ => ?_)
        | exact imp_of hA id
        | (refine imp_of hA ?_; subst hA; simp only [real, Bool.true_and]; exact id)
        | (refine ind_of hA ?_; decide +kernel)
def st_sOut (n : Nat) (g : Nat → TabT) (key : Int) (w : WinT) (i c : Nat) (row : Nat → List DV) : St := ⟨[(8, .c (.d (eI i))), (0, .c (.d (.sl 7 n fun i => eTab (g i)))), (7, .c (.own 576 0 c 1)), (1, .c (.d (eI key))), (5, .c (.bp 320 1 0))], [(320, 1, .box ((eWin w).map .d)), (576, 1, .arr 7 c row)]⟩
theorem c_sOut (l : List TabT) (n : Nat) (g : Nat → TabT) (hl : Lst zTab l n g) (hn : n ≤ 1100000) (key : Int) (w : WinT) (n0 : Nat) (G : Nat → TabT) (h0 : Lst zTab (tOut key w l) n0 G) : Meets Try.prog 85 [.c (.d (.sl 7 n fun i => eTab (g i))), .c (.d (eI key)), xd (eWin w)] ⟨.one (.c (.own 7 n0 fun i => eTab (G i))), [none, none, none]⟩ := by
  have hnL : n ≤ maxLen := Nat.le_trans hn (by decide)
  have h0 := lst_tells eTab h0
  refine meets_of (H := [7]) (EX := EXA) ttok mixed Try.func85 rfl (by kernel_rfl) (by decide) ?_
  generalize hA : real = A
  generalize hM : Meets Try.prog = M
  cbv
  repeat' first
    | apply And.intro
    | exact True.intro
    | with_reducible rfl
    | exact same_of hA rfl
    | refine br_of hA (fun _ => ?_) (fun _ => ?_)
    | exact imp_of hA id
    | (refine imp_of hA ?_; subst hA; simp only [real, Bool.true_and]; exact id)
    | (refine ind_of hA ?_; decide +kernel)
  refine loop_of hA (α := { q : Nat × Nat × (Nat → List DV) // q.1 ≤ n ∧ Tells zTab eTab (tOut key w (l.take q.1)) q.2.1 q.2.2 }) (fun y => st_sOut n g key w y.1.1 y.1.2.1 y.1.2.2) (fun y => n - y.1.1) ⟨(0, 0, fun _ => []), Nat.zero_le _, rfl, fun k h => absurd h (Nat.not_lt_zero k)⟩ ?_ ?_
  · refine cov_of ?_ ?_ ?_
    · cbv; try (subst hA; repeat' first | apply And.intro | exact True.intro | rfl)
    · cbv; try (subst hA; repeat' first | apply And.intro | exact True.intro | rfl | (intro _ _; rfl) | (intro k hk; exact absurd hk (Nat.not_lt_zero k)))
    · cbv; try (subst hA; repeat' first | apply And.intro | exact True.intro | rfl | exact .inr trivial)
  rintro ⟨⟨i, c, row⟩, hi, hT⟩
  have hi : i ≤ n := hi
  have hT : Tells zTab eTab (tOut key w (l.take i)) c row := hT
  have hci : c ≤ i := by
    rw [hT.1]
    have h1 := tOut_len key w (l.take i)
    rw [List.length_take] at h1
    omega
  cbv
  repeat' first
    | apply And.intro
    | exact True.intro
    | with_reducible rfl
    | exact same_of hA rfl
    | refine br_of hA (fun _ => ?_) (fun _ => ?_)
    | exact imp_of hA id
    | (refine imp_of hA ?_; subst hA; simp only [real, Bool.true_and]; exact id)
    | (refine ind_of hA ?_; decide +kernel)
    | (refine inb_of hA fun _ => ?_; subst hA; simp only [real, Bool.and_eq_true, Bool.not_eq_true', Bool.not_eq_false', decide_eq_true_eq, Int.ofNat_eq_natCast, IntKind.wrap_i64] at *; omega)
    | exact room_add2 hA (by omega) (by decide)
  · rename_i hlt hc
    have hlt' : i < n := by subst hA; simp only [real, decide_eq_true_eq, Int.ofNat_eq_natCast] at hlt; omega
    have hq : ¬ IsRow key w (g i) := by
      subst hA
      have e0 : real.add 0 (real.nat (Int.ofNat i)) = i := Nat.zero_add i
      have e1 : real.nat (Int.ofNat i) = i := rfl
      simp only [e0, e1, real, bifA, bifB, bifC, bifD, beqB, decide_eq_true_eq, decide_eq_false_iff_not, beqI, bneI, beqIF, bneIF, ne_eq, Classical.not_not, Bool.and_eq_true, Bool.or_eq_true, Bool.not_eq_true', Bool.not_eq_false', Bool.and_eq_false_iff, Bool.or_eq_false_iff, Bool.false_eq_true, and_false, false_and, or_false, false_or, and_true, true_and, not_true_eq_false, not_false_eq_true, true_iff, false_iff, Int.ofNat_eq_natCast, Int.toNat_natCast] at hc
      intro hI
      rcases hc with h | h | h | h
      · exact h hI.1
      · exact h hI.2.1
      · exact h hI.2.2
      · cases h
    refine ⟨⟨(i + 1, c + 1, fun q => if q < c then row q else eTab (g i)), by simp only; omega, ?_⟩, by simp only; omega, cov_of ?_ ?_ ?_⟩
    · simp only
      rw [lst_take hl hlt', tOut_app]
      show Tells zTab eTab (tOut key w (l.take i) ++ (if IsRow key w (g i) then tOut key w [] else g i :: tOut key w [])) _ _
      rw [if_neg hq]
      exact tells_snoc hT (fun q _ => rfl)
    · cbv
      subst hA
      repeat' first | apply And.intro | exact True.intro | exact congrArg (fun x => DV.v (.int .i64 x)) (up64 hlt' hnL) | rfl
    · cbv
      subst hA
      repeat' first | apply And.intro | exact True.intro | rfl | (intro _ _; rfl) | (intro q hq; exact push_at rfl _ _ _ _ q hq) | (intro q hq; have e0 : real.add 0 (real.nat (Int.ofNat i)) = i := Nat.zero_add i; rw [e0]; exact push_at rfl _ _ _ _ q hq) | (intro q hq; have e0 : real.nat (Int.ofNat i) = i := rfl; rw [e0]; exact push_at rfl _ _ _ _ q hq)
    · cbv; try (subst hA; repeat' first | apply And.intro | exact True.intro | rfl | exact .inr trivial)
  · rename_i hlt hc
    have hlt' : i < n := by subst hA; simp only [real, decide_eq_true_eq, Int.ofNat_eq_natCast] at hlt; omega
    have hq : IsRow key w (g i) := by
      subst hA
      have e0 : real.add 0 (real.nat (Int.ofNat i)) = i := Nat.zero_add i
      have e1 : real.nat (Int.ofNat i) = i := rfl
      simp only [e0, e1, real, bifA, bifB, bifC, bifD, beqB, decide_eq_true_eq, decide_eq_false_iff_not, beqI, bneI, beqIF, bneIF, ne_eq, Classical.not_not, Bool.and_eq_true, Bool.or_eq_true, Bool.not_eq_true', Bool.not_eq_false', Bool.and_eq_false_iff, Bool.or_eq_false_iff, Bool.false_eq_true, and_false, false_and, or_false, false_or, and_true, true_and, not_true_eq_false, not_false_eq_true, true_iff, false_iff, Int.ofNat_eq_natCast, Int.toNat_natCast] at hc
      unfold IsRow
      omega
    refine ⟨⟨(i + 1, c, row), by simp only; omega, ?_⟩, by simp only; omega, cov_of ?_ ?_ ?_⟩
    · simp only
      rw [lst_take hl hlt', tOut_app]
      show Tells zTab eTab (tOut key w (l.take i) ++ (if IsRow key w (g i) then tOut key w [] else g i :: tOut key w [])) _ _
      rw [if_pos hq]
      show Tells zTab eTab (tOut key w (l.take i) ++ []) _ _
      rw [List.append_nil]
      exact hT
    · cbv
      subst hA
      repeat' first | apply And.intro | exact True.intro | exact congrArg (fun x => DV.v (.int .i64 x)) (up64 hlt' hnL) | rfl
    · cbv; try (subst hA; repeat' first | apply And.intro | exact True.intro | rfl | (intro _ _; rfl))
    · cbv; try (subst hA; repeat' first | apply And.intro | exact True.intro | rfl | exact .inr trivial)
  · rename_i hge
    have hin : i = n := by subst hA; simp only [real, decide_eq_false_iff_not, Int.ofNat_eq_natCast] at hge; omega
    subst hin
    rw [lst_all hl] at hT
    have hcc : c = n0 := hT.1.trans h0.1.symm
    subst hcc
    refine stop_of hA ⟨[(7, .c (.own 576 0 c 1))], [(576, 1, .arr 7 c fun i => eTab (G i))]⟩ (cov_of ?_ ?_ ?_) ?_
    · cbv
    · cbv
      exact ⟨fun q hq => (hT.2 q hq).trans (h0.2 q hq).symm, trivial⟩
    · cbv
    · cbv
      repeat' first
        | apply And.intro
        | exact True.intro
        | with_reducible rfl
        | exact same_of hA rfl
        | refine br_of hA (fun _ => ?_) (fun _ => ?_)
        | exact imp_of hA id
        | (refine imp_of hA ?_; subst hA; simp only [real, Bool.true_and]; exact id)
        | (refine ind_of hA ?_; decide +kernel)
end Go.Rk
/- slices.Insert of one element at the end. -/
namespace Go.Rk
set_option linter.unusedSimpArgs false
set_option linter.unusedVariables false
open Go.Proofs
set_option maxRecDepth 100000
set_option maxHeartbeats 1000000
theorem ins_end (n : Nat) (hn : n ≤ 1100000) (row : Nat → List DV) (r : List DV) (row1 : Nat → List DV) (hr : row1 0 = r) (R : Nat → List DV) (hR : ∀ k, k < n + 1 → R k = if k < n then row k else r) :
    Meets Try.prog 91 [.c (.own 7 n row), .c (.d (eI n)), .c (.own 7 1 row1)] ⟨.one (.c (.own 7 (n + 1) R)), [none, none, none]⟩ := by
  obtain ⟨R', hR'⟩ : ∃ R' : Nat → List DV, R' = real.app n row (real.sub 0 row1) := ⟨_, rfl⟩
  refine meets_rows (row := R') (fun k hk => ?_) ?_
  · rw [hR k hk, hR']
    show (if k < n then row k else row1 (0 + (k - n))) = _
    by_cases h : k < n
    · rw [if_pos h, if_pos h]
    · rw [if_neg h, if_neg h, show 0 + (k - n) = 0 by omega, hr]
  refine meets_of (H := []) (EX := EXA) ttok mixed Try.func91 rfl (by kernel_rfl) (by decide) ?_
  generalize hA : real = A
  generalize hM : Meets Try.prog = M
  cbv
  repeat' first
    | (refine br_f hA ?_ ?_; focus (subst hA; simp [real]; done))
    | (refine br_t hA ?_ ?_; focus (subst hA; simp [real]; done))
    | apply And.intro
    | exact True.intro
    | with_reducible rfl
    | exact same_of hA rfl
    | refine br_of hA (fun _ => ?_) (fun _ => ?_)
    | exact imp_of hA id
    | (refine imp_of hA ?_; subst hA; simp only [real, Bool.true_and]; exact id)
    | (refine ind_of hA ?_; decide +kernel)
    | (refine cut_of hA ?_; subst hA; exact ⟨Int.natCast_nonneg n, Int.le_refl _, Int.le_refl _⟩)
    | exact room_add2 hA (by omega) (by decide)
  subst hA
  rw [hR']
  rfl
end Go.Rk
/- What copy and slices.overlaps do, of elements of any size. -/
namespace Go.Rk
set_option linter.unusedSimpArgs false
set_option linter.unusedVariables false
open Go Go.Proofs
theorem run_copy_k {P : Program} (w : World) (dT sT ty elem : TypeId) (k : Nat) (b o dLen dCap : Nat) (a : Addr) (sLen sCap : Nat) (cs : List Value)
    (hu : P.underlying dT = some (.slice elem)) (hs : (P.info? elem).map (·.size) = some k) (n : Nat) (hm : Nat.min sLen dLen = n) (hn : cs.length = n * k)
    (hsrc : ∀ j v, cs[j]? = some v → w.cell? (a.add j) = some v) (hc : ∀ j, j < cs.length → (w.cell? ⟨b, o + j, none⟩).isSome = true) (hf : ∀ j, j < cs.length → w.frozen? ⟨b, o + j, none⟩ = false) (h1 : ∀ v ∈ cs, v.oneCell' = true) :
    (Builtin.copy_ #[dT, sT] ty #[.slice (some ⟨b, o, none⟩) dLen dCap, .slice (some a) sLen sCap]).run P w = .ok (goInt n) (w.setCells b o cs) := by
  have hl := run_loadCells_list (P := P) w a cs hsrc
  have hst := run_storeCells_cells (P := P) b o cs 0 w (by simpa using hc) (by simpa using hf) h1
  cases hq : P.info? elem with
  | none => simp [hq] at hs
  | some i =>
    have hi : i.size = k := by simpa [hq] using hs
    simp [Builtin.copy_, run_underlying hu, Builtin.lenOf, Builtin.firstCells, sizeOf, typeInfo, hq, hi, hm, ← hn, hl, hst]
theorem setCells_size (b : Nat) : ∀ (vs : List Value) (o : Nat) (w : World), (w.setCells b o vs).heap.size = w.heap.size
  | [], _, _ => rfl
  | v :: r, o, w => by rw [World.setCells, setCells_size b r]; show (w.heap.modify b _).size = _; rw [Array.size_modify]
theorem setCells_env (b : Nat) : ∀ (vs : List Value) (o : Nat) (w : World), (w.setCells b o vs).os = w.os ∧ (w.setCells b o vs).output = w.output ∧ (w.setCells b o vs).tape = w.tape
  | [], _, _ => ⟨rfl, rfl, rfl⟩
  | v :: r, o, w => by
    rw [World.setCells]
    exact setCells_env b r (o + 1) (w.setCell ⟨b, o, none⟩ v)
theorem setCells_other (b : Nat) : ∀ (vs : List Value) (o : Nat) (w : World) (i : Nat), i ≠ b → (w.setCells b o vs).heap[i]? = w.heap[i]?
  | [], _, _, _, _ => rfl
  | v :: r, o, w, i, h => by
    rw [World.setCells, setCells_other b r _ _ i h]
    show (w.heap.modify b _)[i]? = _
    rw [Array.getElem?_modify, if_neg (fun e => h e.symm)]
theorem setCells_at (b : Nat) : ∀ (vs : List Value) (o : Nat) (w : World) (cs : Array Value) (e : TypeId) (fr : Nat × Nat), w.heap[b]? = some (.cells cs e fr) → o + vs.length ≤ cs.size →
    ∃ cs', (w.setCells b o vs).heap[b]? = some (.cells cs' e fr) ∧ cs'.size = cs.size ∧ (∀ j, j < o → cs'[j]? = cs[j]?) ∧ (∀ j, j < vs.length → cs'[o + j]? = vs[j]?) ∧ (∀ j, o + vs.length ≤ j → cs'[j]? = cs[j]?)
  | [], o, w, cs, e, fr, h, _ => ⟨cs, h, rfl, fun _ _ => rfl, fun j hj => absurd hj (Nat.not_lt_zero j), fun _ _ => rfl⟩
  | v :: r, o, w, cs, e, fr, h, hl => by
    have hl' : o + (r.length + 1) ≤ cs.size := by simpa using hl
    have h1 : (w.setCell ⟨b, o, none⟩ v).heap[b]? = some (.cells (cs.setIfInBounds o v) e fr) := by
      show (w.heap.modify b _)[b]? = _
      rw [Array.getElem?_modify, if_pos rfl, h]
      rfl
    obtain ⟨cs', g1, g2, g3, g4, g5⟩ := setCells_at b r (o + 1) (w.setCell ⟨b, o, none⟩ v) _ e fr h1 (by rw [Array.size_setIfInBounds]; omega)
    refine ⟨cs', g1, by rw [g2, Array.size_setIfInBounds], fun j hj => ?_, fun j hj => ?_, fun j hj => ?_⟩
    · rw [g3 j (by omega), Array.getElem?_setIfInBounds, if_neg (by omega)]
    · cases j with
      | zero =>
        rw [Nat.add_zero, g3 o (by omega), Array.getElem?_setIfInBounds, if_pos rfl, if_pos (by omega)]
        rfl
      | succ j =>
        rw [show o + (j + 1) = o + 1 + j by omega, g4 j (by simpa using hj)]
        rfl
    · have hj : o + (r.length + 1) ≤ j := by simpa using hj
      rw [g5 j (by omega), Array.getElem?_setIfInBounds, if_neg (by omega)]
end Go.Rk
/- slices.Insert of one element, there is room: the model's own walk. -/
namespace Go.Rk
set_option linter.unusedSimpArgs false
set_option linter.unusedVariables false
open Go Go.Proofs Go.RowKit Go.Lib
set_option maxHeartbeats 4000000 in
set_option maxRecDepth 100000 in
theorem ins_shift (b off n c i vb voff vc : Nat) (cs vs : List Value) (w : World) (hi : i < n) (hroom : n + 1 ≤ c) (hn63 : n ≤ 1100000) (hvb : vb ≠ b)
    (hcl : cs.length = n * 7) (hvl : vs.length = 7)
    (hcs : ∀ j v, cs[j]? = some v → w.cell? ⟨b, off + j, none⟩ = some v) (hsp : ∀ j, j < (n + 1) * 7 → (w.cell? ⟨b, off + j, none⟩).isSome = true) (hfz : ∀ j, j < (n + 1) * 7 → w.frozen? ⟨b, off + j, none⟩ = false)
    (hvs : ∀ j v, vs[j]? = some v → w.cell? ⟨vb, voff + j, none⟩ = some v) (h1c : ∀ v ∈ cs, v.oneCell' = true) (h1v : ∀ v ∈ vs, v.oneCell' = true)
    (tA tB : TypeId) (kA kB : Nat) (hsa : w.shape? vb = some (tA, kA)) (hsb : w.shape? b = some (tB, kB)) (hkB : kB ≠ 0) (hfa : w.frozen? ⟨vb, voff, none⟩ = false) (hfe : w.frozen? ⟨vb, kA, none⟩ = false) :
    Calls Try.prog 91 #[.slice (some ⟨b, off, none⟩) n c, .int .i64 i, .slice (some ⟨vb, voff, none⟩) 1 vc] w fun e w' =>
      e = .returned (.slice (some ⟨b, off, none⟩) (n + 1) c) ∧ w' = (w.drew.setCells b (off + (i + 1) * 7) (cs.drop (i * 7))).setCells b (off + i * 7) vs := by
  have hz2 : ¬ ((i : Int) = (n : Int)) := by omega
  have hsz : (Try.prog.info? 79).map (·.size) = some 7 := by kernel_rfl
  have hov : ∀ lb cb, (callFunc 121 #[.slice (some ⟨vb, voff, none⟩) 1 vc, .slice (some ⟨b, off + (i + 1) * 7, none⟩) lb cb]).run Try.prog w = .ok (.value (.bool false)) w := fun lb cb => by
    rw [run_callFunc_extern Try.func121 (by kernel_rfl) (by kernel_rfl) (by kernel_rfl) (e := Extern.SlicesOverlaps.overlaps #[75, 75] #[4]) (by kernel_rfl),
      Lib.run_overlaps_apart w 75 4 79 Try.underlying75 7 Try.sizeOf79 ⟨vb, voff, none⟩ ⟨b, off + (i + 1) * 7, none⟩ 1 vc lb cb hvb tA tB kA kB hsa hsb hkB hfa hfe]
    rfl
  have hdl : (cs.drop (i * 7)).length = (n - i) * 7 := by rw [List.length_drop, hcl, Nat.sub_mul]
  have hw1 : IntKind.i64.wrap ((i : Int) + 1) = (i : Int) + 1 := by rw [IntKind.wrap_i64]; omega
  have hw2 : IntKind.i64.wrap ((n : Int) + 1) = (n : Int) + 1 := by rw [IntKind.wrap_i64]; omega
  have hb1 : (0 : Int) ≤ (i : Int) + 1 := by omega
  have hin : i ≤ n := by omega
  have htn : ((i : Int) + 1).toNat = i + 1 := by omega
  have htm : ((n : Int) + 1).toNat = n + 1 := by omega
  have hb2 : ¬ (c = i + 1) := by omega
  have hb3 : (i : Int) ≤ (n : Int) + 1 := by omega
  have hb4 : ¬ (c = i) := by omega
  have hcp1 : ∀ ty dc sc, (Builtin.copy_ #[75, 75] ty #[.slice (some ⟨b, off + (i + 1) * 7, none⟩) (n - i) dc, .slice (some ⟨b, off + i * 7, none⟩) (n + 1 - i) sc]).run Try.prog w.drew = .ok (goInt ((n - i : Nat) : Int)) (w.drew.setCells b (off + (i + 1) * 7) (cs.drop (i * 7))) := fun ty dc sc =>
    run_copy_k w.drew _ _ ty 79 7 b (off + (i + 1) * 7) (n - i) dc ⟨b, off + i * 7, none⟩ (n + 1 - i) sc (cs.drop (i * 7)) Try.underlying75 hsz (n - i) (by simp only [Nat.min_def]; split <;> omega) hdl
      (fun j v hj => by rw [Addr.add_lit, Nat.add_assoc]; exact hcs (i * 7 + j) v (by rwa [List.getElem?_drop] at hj))
      (fun j hj => by rw [Nat.add_assoc]; exact hsp _ (by rw [hdl] at hj; omega)) (fun j hj => by rw [Nat.add_assoc]; exact hfz _ (by rw [hdl] at hj; omega)) (fun v hv => h1c v (List.mem_of_mem_drop hv))
  obtain ⟨W1, hW1⟩ : ∃ W1, W1 = w.drew.setCells b (off + (i + 1) * 7) (cs.drop (i * 7)) := ⟨_, rfl⟩
  have hsp1 : ∀ k, k < (n + 1) * 7 → (W1.cell? ⟨b, off + k, none⟩).isSome = true := fun k hk => by
    rw [hW1]
    exact isSome_setCells b _ _ _ (fun j hj => by rw [Nat.add_assoc]; exact hsp _ (by rw [hdl] at hj; omega)) _ (hsp k hk)
  have hcp2 : ∀ (W : World), (∀ x, W.cell? x = W1.cell? x) → (∀ x, W.frozen? x = W1.frozen? x) → ∀ ty dc, (Builtin.copy_ #[75, 75] ty #[.slice (some ⟨b, off + i * 7, none⟩) (n + 1 - i) dc, .slice (some ⟨vb, voff, none⟩) 1 vc]).run Try.prog W = .ok (goInt 1) (W.setCells b (off + i * 7) vs) := fun W hWc hWf ty dc =>
    run_copy_k W _ _ ty 79 7 b (off + i * 7) (n + 1 - i) dc ⟨vb, voff, none⟩ 1 vc vs Try.underlying75 hsz 1 (by simp only [Nat.min_def]; split <;> omega) (by rw [hvl])
      (fun j v hj => by
        rw [Addr.add_lit, hWc, hW1, World.cell?_setCells_out b _ _ _ _ (fun h _ => absurd h hvb)]
        exact hvs j v hj)
      (fun j hj => by rw [hWc, Nat.add_assoc]; exact hsp1 _ (by rw [hvl] at hj; omega)) (fun j hj => by rw [hWf, hW1, World.frozen?_setCells, Nat.add_assoc]; exact hfz _ (by rw [hvl] at hj; omega)) h1v
  rw [← hW1] at hcp1
  have mixed := mixed
  go_enter Try.func91, Try.ntmps91
  go_wp2_with (simp only [hov])
  go_region_law_o (refine step_copy_runI rfl _ _ 75 75 rfl _ _ (by simp [Act.eval, Act.put]) (by simp [Act.eval, Act.put]) (hcp1 _ _ _) ?_)
  go_wp2_with (at_builtin; refine wpList_copy_runI _ rfl _ _ 75 75 rfl _ _ rfl rfl (hcp2 _ (fun _ => rfl) (fun _ => rfl) _ _) ?_)
  go_ret
  first | exact ⟨rfl, rfl⟩ | exact ⟨rfl, by rw [hW1]⟩
end Go.Rk
