/- Room in a channel. -/
import Derived.Test.YtgiomkpcpieplaaGreatTZ10
namespace Go.Rk
set_option linter.unusedSimpArgs false
set_option linter.unusedVariables false
open Go.Proofs
open Classical in
set_option maxRecDepth 100000 in
theorem c_has (t : TskT) (c : Int) : ∃ b, (b = true ↔ 0 ≤ c ∧ c < (t.ins.n : Int)) ∧ Meets Tryz.prog 42 [xd (eTsk t), .c (.d (eI c))] ⟨.one (.c (.d (eB b))), [none, none]⟩ := by
  obtain ⟨b, hb⟩ : ∃ b : Bool, (b = true ↔ 0 ≤ c ∧ c < (t.ins.n : Int)) := ⟨decide (0 ≤ c ∧ c < (t.ins.n : Int)), by rw [decide_eq_true_eq]⟩
  refine ⟨b, hb, ?_⟩
  have hn := t.ins.hn
  have hm : maxLen = 9223372036854775807 := by decide
  rw [hm] at hn
  refine meets_of (H := []) (EX := EXA) ttok mixed Tryz.func42 rfl (by kernel_rfl) (by decide) ?_
  generalize hA : real = A
  generalize hM : Meets Tryz.prog = M
  cbv
  repeat' first
    | apply And.intro
    | exact True.intro
    | with_reducible rfl
    | exact same_of hA rfl
    | refine br_of hA (fun _ => ?_) (fun _ => ?_)
    | exact imp_of hA id
    | (refine imp_of hA ?_; subst hA; simp only [real, Bool.true_and]; exact id)
    | (refine ind_of hA ?_; decide +kernel)
    | (refine call_ex hA hM (c_in _ _ _) (fun _ _ => ?_); cbv)
  rename_i b1 hb1
  refine congrArg (fun b => XA.one (.c (.d (eB b)))) (Bool.eq_iff_iff.2 ?_)
  subst hA; subst hb1
  rw [hb, decide_eq_true_eq]
  have e : IntKind.i64.wrap ((t.ins.n : Int) - 1) = t.ins.n - 1 := IntWalk.i64_in _ (by omega)
  show 0 ≤ c ∧ c ≤ IntKind.i64.wrap ((t.ins.n : Int) - 1) ↔ (0 ≤ c ∧ c < (t.ins.n : Int))
  rw [e]
  exact and_congr Iff.rfl Int.le_sub_one_iff
set_option maxRecDepth 100000 in
theorem c_room (j : JobT) (t : TskT) (c : Int) (h : 0 ≤ c ∧ c < (t.ins.n : Int)) (b : Bool) (hb : b = decide (((t.ins.g c.toNat).queue.n : Int) < j.room)) : Meets Tryz.prog 43 [xd (eTsk t), xd (eJob j), .c (.d (eI c))] ⟨.one (.c (.d (eB b))), [none, none, none]⟩ := by
  refine meets_of (H := []) (EX := EXA) ttok mixed Tryz.func43 rfl (by kernel_rfl) (by decide) ?_
  generalize hA : real = A
  generalize hM : Meets Tryz.prog = M
  cbv
  repeat' first
    | apply And.intro
    | exact True.intro
    | with_reducible rfl
    | exact same_of hA rfl
    | refine br_of hA (fun _ => ?_) (fun _ => ?_)
    | exact imp_of hA id
    | (refine imp_of hA ?_; subst hA; simp only [real, Bool.true_and]; exact id)
    | (refine ind_of hA ?_; decide +kernel)
    | (refine inb_of hA fun _ => ?_; exact h)
  subst hA
  refine congrArg (fun b => XA.one (.c (.d (eB b)))) ?_
  rw [hb]
  rfl
open Classical in
set_option maxRecDepth 100000 in
theorem c_TskRoom (j : JobT) (t : TskT) (hbd : t.ins.n ≤ 1048576) (c : Int) : ∃ b, (b = true ↔ TskOkP j t ∧ (0 ≤ c ∧ c < (t.ins.n : Int)) ∧ ((t.ins.g c.toNat).queue.n : Int) < j.room) ∧ Meets Tryz.prog 13 [xd (eJob j), xd (eTsk t), .c (.d (eI c))] ⟨.one (.c (.d (eB b))), [none, none, none]⟩ := by
  obtain ⟨b, hb⟩ : ∃ b : Bool, (b = true ↔ TskOkP j t ∧ (0 ≤ c ∧ c < (t.ins.n : Int)) ∧ ((t.ins.g c.toNat).queue.n : Int) < j.room) := ⟨decide (TskOkP j t ∧ (0 ≤ c ∧ c < (t.ins.n : Int)) ∧ ((t.ins.g c.toNat).queue.n : Int) < j.room), by rw [decide_eq_true_eq]⟩
  refine ⟨b, hb, ?_⟩
  refine meets_of (H := []) (EX := EXA) ttok mixed Tryz.func13 rfl (by kernel_rfl) (by decide) ?_
  generalize hA : real = A
  generalize hM : Meets Tryz.prog = M
  cbv
  repeat' first
    | apply And.intro
    | exact True.intro
    | with_reducible rfl
    | exact same_of hA rfl
    | refine br_of hA (fun _ => ?_) (fun _ => ?_)
    | exact imp_of hA id
    | (refine imp_of hA ?_; subst hA; simp only [real, Bool.true_and]; exact id)
    | (refine ind_of hA ?_; decide +kernel)
    | (refine call_ex hA hM (c_TskOk j t hbd) (fun _ _ => ?_); cbv)
    | (refine call_ex hA hM (c_has t c) (fun _ _ => ?_); cbv)
  rename_i b1 hb1 b2 hb2
  refine call_exg hA hM ⟨decide (((t.ins.g c.toNat).queue.n : Int) < j.room), rfl⟩ (fun b3 hb3 hg => c_room j t c (by subst hA; simp only [real, bifA, Bool.and_eq_true, Bool.not_eq_true', Bool.not_eq_false', decide_eq_true_eq, Int.ofNat_eq_natCast, Int.toNat_natCast] at hg; exact hb2.1 hg.2) b3 hb3.symm) (fun b3 hb3 => ?_)
  cbv
  repeat' first
    | apply And.intro
    | exact True.intro
    | with_reducible rfl
    | exact same_of hA rfl
    | refine br_of hA (fun _ => ?_) (fun _ => ?_)
    | exact imp_of hA id
    | (refine imp_of hA ?_; subst hA; simp only [real, Bool.true_and]; exact id)
    | (refine ind_of hA ?_; decide +kernel)
  refine congrArg (fun b => XA.one (.c (.d (eB b)))) (Bool.eq_iff_iff.2 ?_)
  subst hA
  rw [hb]
  simp only [real, bifA, bifB, bifC, bifD, beqB, decide_eq_true_eq, decide_eq_false_iff_not, beqI, bneI, beqIF, bneIF, ne_eq, Bool.and_eq_true, Bool.or_eq_true, Bool.not_eq_true', Bool.not_eq_false', Bool.and_eq_false_iff, Bool.or_eq_false_iff, Bool.false_eq_true, and_false, false_and, or_false, false_or, and_true, true_and, not_true_eq_false, not_false_eq_true, true_iff, false_iff, Int.ofNat_eq_natCast, Int.toNat_natCast]
  rw [hb1, hb2, ← hb3, decide_eq_true_eq]
  exact ⟨fun h => ⟨h.1.1, h.1.2, h.2⟩, fun h => ⟨⟨h.1, h.2.1⟩, h.2.2⟩⟩
open Classical in
set_option maxRecDepth 100000 in
theorem c_sTskRoom (j : JobT) (t : TskT) (c : Int) : ∃ b, (b = true ↔ TskOkP j t ∧ (0 ≤ c ∧ c < (t.ins.n : Int)) ∧ ((t.ins.g c.toNat).queue.n : Int) < j.room) ∧ Meets Tryz.prog 12 [xd (eJob j), xd (eTsk t), .c (.d (eI c))] ⟨.one (.c (.d (eB b))), [none, none, none]⟩ := by
  obtain ⟨b, hb⟩ : ∃ b : Bool, (b = true ↔ TskOkP j t ∧ (0 ≤ c ∧ c < (t.ins.n : Int)) ∧ ((t.ins.g c.toNat).queue.n : Int) < j.room) := ⟨decide (TskOkP j t ∧ (0 ≤ c ∧ c < (t.ins.n : Int)) ∧ ((t.ins.g c.toNat).queue.n : Int) < j.room), by rw [decide_eq_true_eq]⟩
  refine ⟨b, hb, ?_⟩
  have hn := t.ins.hn
  have hm : maxLen = 9223372036854775807 := by decide
  rw [hm] at hn
  have e : IntKind.i64.wrap ((t.ins.n : Int) - 1) = t.ins.n - 1 := IntWalk.i64_in _ (by omega)
  refine meets_of (H := []) (EX := EXA) ttok mixed Tryz.func12 rfl (by kernel_rfl) (by decide) ?_
  generalize hA : real = A
  generalize hM : Meets Tryz.prog = M
  cbv
  repeat' first
    | apply And.intro
    | exact True.intro
    | with_reducible rfl
    | exact same_of hA rfl
    | refine br_of hA (fun _ => ?_) (fun _ => ?_)
    | exact imp_of hA id
    | (refine imp_of hA ?_; subst hA; simp only [real, Bool.true_and]; exact id)
    | (refine ind_of hA ?_; decide +kernel)
    | (refine call_ex hA hM (c_sTskOk j t) (fun _ _ => ?_); cbv)
    | (refine call_ex hA hM (c_l1In _ _ _) (fun _ _ => ?_); cbv)
    | (rename_i b1 hb1 b2 hb2; refine inb_of hA fun hg => ?_; subst hA; subst hb2; simp only [real, bifA, Bool.and_eq_true, Bool.not_eq_true', Bool.not_eq_false', decide_eq_true_eq, Int.ofNat_eq_natCast, Int.toNat_natCast] at hg; have h2 : 0 ≤ c ∧ c ≤ IntKind.i64.wrap ((t.ins.n : Int) - 1) := of_decide_eq_true hg.2; rw [e] at h2; exact ⟨h2.1, Int.le_sub_one_iff.1 h2.2⟩)
  rename_i b1 hb1 b2 hb2
  refine congrArg (fun b => XA.one (.c (.d (eB b)))) (Bool.eq_iff_iff.2 ?_)
  subst hA; subst hb2
  rw [hb]
  simp only [real, bifA, bifB, bifC, bifD, beqB, decide_eq_true_eq, decide_eq_false_iff_not, beqI, bneI, beqIF, bneIF, ne_eq, Bool.and_eq_true, Bool.or_eq_true, Bool.not_eq_true', Bool.not_eq_false', Bool.and_eq_false_iff, Bool.or_eq_false_iff, Bool.false_eq_true, and_false, false_and, or_false, false_or, and_true, true_and, not_true_eq_false, not_false_eq_true, true_iff, false_iff, Int.ofNat_eq_natCast, Int.toNat_natCast]
  rw [hb1]
  have e2 : (0 ≤ c ∧ c ≤ IntKind.i64.wrap ((t.ins.n : Int) - 1)) ↔ (0 ≤ c ∧ c < (t.ins.n : Int)) := by
    rw [e]; exact and_congr Iff.rfl Int.le_sub_one_iff
  exact ⟨fun h => ⟨h.1.1, e2.1 (of_decide_eq_true h.1.2), h.2⟩, fun h => ⟨⟨h.1, decide_eq_true (e2.2 h.2.1)⟩, h.2.2⟩⟩
end Go.Rk
