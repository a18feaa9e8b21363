/- Tasks. -/
import Derived.Test.YtppekklalfebkaaGreatTW9
namespace Go.Rk
set_option linter.unusedSimpArgs false
set_option linter.unusedVariables false
open Go.Proofs
def stIxTskIn1 (n : Nat) (g : Nat → TskInT) (F : FuncId) (c0 : DV) (i : Nat) : St := ⟨[(8, .c (.d (eI i))), (7, .c (.d (eI n))), (0, .c (.d (.sl 3 n fun i => eTskIn (g i)))), (1, .c (.d (.fn F [c0])))], []⟩
set_option maxRecDepth 100000 in
theorem c_IndexTskIn1 (n : Nat) (hn : n ≤ maxLen) (g : Nat → TskInT) (F : FuncId) (c0 : DV) (Q : TskInT → Prop) (hc : ∀ r, ∃ b, (b = true ↔ Q r) ∧ Meets Tryz.prog F [xd (eTskIn r), .c (.d c0)] ⟨.one (.c (.d (eB b))), [none, none]⟩) : ∃ x, FirstIx n (fun i => Q (g i)) x ∧ Meets Tryz.prog 180 [.c (.d (.sl 3 n fun i => eTskIn (g i))), .c (.d (.fn F [c0]))] ⟨.one (.c (.d (eI x))), [none, none]⟩ := by
  obtain ⟨x, hx⟩ := firstIx_ex n fun i => Q (g i)
  refine ⟨x, hx, ?_⟩
  refine meets_of (H := []) (EX := EXA) ttok mixed Tryz.func180 rfl (by kernel_rfl) (by decide) ?_
  generalize hA : real = A
  generalize hM : Meets Tryz.prog = M
  cbv
  repeat' first
    | apply And.intro
    | exact True.intro
    | with_reducible rfl
    | exact same_of hA rfl
    | refine br_of hA (fun _ => ?_) (fun _ => ?_)
    | exact imp_of hA id
    | (refine imp_of hA ?_; subst hA; simp only [real, Bool.true_and]; exact id)
    | (refine ind_of hA ?_; decide +kernel)
  refine loop_of hA (α := { i : Nat // i ≤ n ∧ ∀ j, j < i → ¬ Q (g j) }) (fun x => stIxTskIn1 n g F c0 x.1) (fun x => n - x.1) ⟨0, Nat.zero_le _, fun j h => absurd h (Nat.not_lt_zero _)⟩ ?_ ?_
  · refine cov_of ?_ ?_ ?_
    · cbv; subst hA; exact ⟨rfl, rfl, trivial⟩
    · cbv
    · cbv
  rintro ⟨i, hi, hb⟩
  cbv
  repeat' first
    | apply And.intro
    | exact True.intro
    | with_reducible rfl
    | exact same_of hA rfl
    | refine br_of hA (fun _ => ?_) (fun _ => ?_)
    | exact imp_of hA id
    | (refine imp_of hA ?_; subst hA; simp only [real, Bool.true_and]; exact id)
    | (refine ind_of hA ?_; decide +kernel)
    | (refine inb_of hA fun _ => ?_; subst hA; simp only [real, decide_eq_true_eq, Int.ofNat_eq_natCast] at *; omega)
  · refine call_ex hA hM (hc (g (A.nat (Int.ofNat i)))) (fun b hbb => ?_)
    cbv
    repeat' first
      | apply And.intro
      | exact True.intro
      | with_reducible rfl
      | exact same_of hA rfl
      | refine br_of hA (fun _ => ?_) (fun _ => ?_)
      | exact imp_of hA id
      | (refine imp_of hA ?_; subst hA; simp only [real, Bool.true_and]; exact id)
      | (refine ind_of hA ?_; decide +kernel)
    · rename_i hlt ht
      subst hA
      simp only [real, decide_eq_true_eq, Int.ofNat_eq_natCast, Int.toNat_natCast] at *
      obtain rfl := firstIx_one hx (.at i (by omega) (hbb.1 ht) hb)
      rfl
    · rename_i hlt ht
      have hlt' : i < n := by subst hA; simp only [real, decide_eq_true_eq, Int.ofNat_eq_natCast] at hlt; omega
      refine ⟨⟨i + 1, by omega, fun j hj => ?_⟩, by simp only; omega, cov_of ?_ ?_ ?_⟩
      · by_cases e : j = i
        · subst e
          subst hA
          intro hq
          have := hbb.2 hq
          rw [ht] at this
          cases this
        · exact hb j (by omega)
      · cbv
        subst hA
        exact ⟨congrArg (fun x => DV.v (.int .i64 x)) (up64 hlt' hn), trivial⟩
      · cbv
      · cbv
  · subst hA
    simp only [real, decide_eq_false_iff_not, Int.ofNat_eq_natCast] at *
    obtain rfl := firstIx_one hx (.none fun j hj => hb j (by omega))
    rfl
set_option maxRecDepth 100000 in
theorem c_ContainsTskIn1 (n : Nat) (hn : n ≤ maxLen) (g : Nat → TskInT) (F : FuncId) (c0 : DV) (Q : TskInT → Prop) (hc : ∀ r, ∃ b, (b = true ↔ Q r) ∧ Meets Tryz.prog F [xd (eTskIn r), .c (.d c0)] ⟨.one (.c (.d (eB b))), [none, none]⟩) : ∃ b, (b = true ↔ ∃ i, i < n ∧ Q (g i)) ∧ Meets Tryz.prog 126 [.c (.d (.sl 3 n fun i => eTskIn (g i))), .c (.d (.fn F [c0]))] ⟨.one (.c (.d (eB b))), [none, none]⟩ := by
  obtain ⟨x, hx, hm⟩ := c_IndexTskIn1 n hn g F c0 Q hc
  obtain ⟨b, hb⟩ : ∃ b, b = decide (0 ≤ x) := ⟨_, rfl⟩
  have hxx := firstIx_neg hx
  refine ⟨b, by rw [hb, decide_eq_true_eq]; exact hxx.1, ?_⟩
  refine meets_of (H := []) (EX := EXA) ttok mixed Tryz.func126 rfl (by kernel_rfl) (by decide) ?_
  generalize hA : real = A
  generalize hM : Meets Tryz.prog = M
  cbv
  repeat' first
    | apply And.intro
    | exact True.intro
    | with_reducible rfl
    | exact same_of hA rfl
    | refine br_of hA (fun _ => ?_) (fun _ => ?_)
    | exact imp_of hA id
    | (refine imp_of hA ?_; subst hA; simp only [real, Bool.true_and]; exact id)
    | (refine ind_of hA ?_; decide +kernel)
    | (refine call_of hA hM _ hm ?_; cbv)
  all_goals subst hA
  all_goals refine congrArg (fun b => XA.one (.c (.d (eB b)))) (Bool.eq_iff_iff.2 ?_)
  all_goals subst_vars
  all_goals try simp only [real, bifA, bifB, bifC, bifD, decide_eq_true_eq, decide_eq_false_iff_not, beq_iff_eq, bne_iff_ne, beq_eq_false_iff_ne, bne_eq_false_iff_eq, ne_eq, Bool.and_eq_true, Bool.or_eq_true, Bool.not_eq_true', Bool.not_eq_false', Bool.and_eq_false_iff, Bool.or_eq_false_iff, Bool.false_eq_true, and_false, false_and, or_false, false_or, and_true, true_and, not_true_eq_false, not_false_eq_true, true_iff, false_iff, IntKind.wrap_i64] at *
  all_goals first
    | omega
    | skip
def stIxPane0 (n : Nat) (g : Nat → PaneT) (F : FuncId) (i : Nat) : St := ⟨[(8, .c (.d (eI i))), (7, .c (.d (eI n))), (0, .c (.d (.sl 9 n fun i => ePane (g i)))), (1, .c (.d (.fn F [])))], []⟩
set_option maxRecDepth 100000 in
theorem c_IndexPane0 (n : Nat) (hn : n ≤ maxLen) (g : Nat → PaneT) (F : FuncId) (Q : PaneT → Prop) (hc : ∀ r, ∃ b, (b = true ↔ Q r) ∧ Meets Tryz.prog F [xd (ePane r)] ⟨.one (.c (.d (eB b))), [none]⟩) : ∃ x, FirstIx n (fun i => Q (g i)) x ∧ Meets Tryz.prog 225 [.c (.d (.sl 9 n fun i => ePane (g i))), .c (.d (.fn F []))] ⟨.one (.c (.d (eI x))), [none, none]⟩ := by
  obtain ⟨x, hx⟩ := firstIx_ex n fun i => Q (g i)
  refine ⟨x, hx, ?_⟩
  refine meets_of (H := []) (EX := EXA) ttok mixed Tryz.func225 rfl (by kernel_rfl) (by decide) ?_
  generalize hA : real = A
  generalize hM : Meets Tryz.prog = M
  cbv
  repeat' first
    | apply And.intro
    | exact True.intro
    | with_reducible rfl
    | exact same_of hA rfl
    | refine br_of hA (fun _ => ?_) (fun _ => ?_)
    | exact imp_of hA id
    | (refine imp_of hA ?_; subst hA; simp only [real, Bool.true_and]; exact id)
    | (refine ind_of hA ?_; decide +kernel)
  refine loop_of hA (α := { i : Nat // i ≤ n ∧ ∀ j, j < i → ¬ Q (g j) }) (fun x => stIxPane0 n g F x.1) (fun x => n - x.1) ⟨0, Nat.zero_le _, fun j h => absurd h (Nat.not_lt_zero _)⟩ ?_ ?_
  · refine cov_of ?_ ?_ ?_
    · cbv; subst hA; exact ⟨rfl, rfl, trivial⟩
    · cbv
    · cbv
  rintro ⟨i, hi, hb⟩
  cbv
  repeat' first
    | apply And.intro
    | exact True.intro
    | with_reducible rfl
    | exact same_of hA rfl
    | refine br_of hA (fun _ => ?_) (fun _ => ?_)
    | exact imp_of hA id
    | (refine imp_of hA ?_; subst hA; simp only [real, Bool.true_and]; exact id)
    | (refine ind_of hA ?_; decide +kernel)
    | (refine inb_of hA fun _ => ?_; subst hA; simp only [real, decide_eq_true_eq, Int.ofNat_eq_natCast] at *; omega)
  · refine call_ex hA hM (hc (g (A.nat (Int.ofNat i)))) (fun b hbb => ?_)
    cbv
    repeat' first
      | apply And.intro
      | exact True.intro
      | with_reducible rfl
      | exact same_of hA rfl
      | refine br_of hA (fun _ => ?_) (fun _ => ?_)
      | exact imp_of hA id
      | (refine imp_of hA ?_; subst hA; simp only [real, Bool.true_and]; exact id)
      | (refine ind_of hA ?_; decide +kernel)
    · rename_i hlt ht
      subst hA
      simp only [real, decide_eq_true_eq, Int.ofNat_eq_natCast, Int.toNat_natCast] at *
      obtain rfl := firstIx_one hx (.at i (by omega) (hbb.1 ht) hb)
      rfl
    · rename_i hlt ht
      have hlt' : i < n := by subst hA; simp only [real, decide_eq_true_eq, Int.ofNat_eq_natCast] at hlt; omega
      refine ⟨⟨i + 1, by omega, fun j hj => ?_⟩, by simp only; omega, cov_of ?_ ?_ ?_⟩
      · by_cases e : j = i
        · subst e
          subst hA
          intro hq
          have := hbb.2 hq
          rw [ht] at this
          cases this
        · exact hb j (by omega)
      · cbv
        subst hA
        exact ⟨congrArg (fun x => DV.v (.int .i64 x)) (up64 hlt' hn), trivial⟩
      · cbv
      · cbv
  · subst hA
    simp only [real, decide_eq_false_iff_not, Int.ofNat_eq_natCast] at *
    obtain rfl := firstIx_one hx (.none fun j hj => hb j (by omega))
    rfl
set_option maxRecDepth 100000 in
theorem c_ContainsPane0 (n : Nat) (hn : n ≤ maxLen) (g : Nat → PaneT) (F : FuncId) (Q : PaneT → Prop) (hc : ∀ r, ∃ b, (b = true ↔ Q r) ∧ Meets Tryz.prog F [xd (ePane r)] ⟨.one (.c (.d (eB b))), [none]⟩) : ∃ b, (b = true ↔ ∃ i, i < n ∧ Q (g i)) ∧ Meets Tryz.prog 188 [.c (.d (.sl 9 n fun i => ePane (g i))), .c (.d (.fn F []))] ⟨.one (.c (.d (eB b))), [none, none]⟩ := by
  obtain ⟨x, hx, hm⟩ := c_IndexPane0 n hn g F Q hc
  obtain ⟨b, hb⟩ : ∃ b, b = decide (0 ≤ x) := ⟨_, rfl⟩
  have hxx := firstIx_neg hx
  refine ⟨b, by rw [hb, decide_eq_true_eq]; exact hxx.1, ?_⟩
  refine meets_of (H := []) (EX := EXA) ttok mixed Tryz.func188 rfl (by kernel_rfl) (by decide) ?_
  generalize hA : real = A
  generalize hM : Meets Tryz.prog = M
  cbv
  repeat' first
    | apply And.intro
    | exact True.intro
    | with_reducible rfl
    | exact same_of hA rfl
    | refine br_of hA (fun _ => ?_) (fun _ => ?_)
    | exact imp_of hA id
    | (refine imp_of hA ?_; subst hA; simp only [real, Bool.true_and]; exact id)
    | (refine ind_of hA ?_; decide +kernel)
    | (refine call_of hA hM _ hm ?_; cbv)
  all_goals subst hA
  all_goals refine congrArg (fun b => XA.one (.c (.d (eB b)))) (Bool.eq_iff_iff.2 ?_)
  all_goals subst_vars
  all_goals try simp only [real, bifA, bifB, bifC, bifD, decide_eq_true_eq, decide_eq_false_iff_not, beq_iff_eq, bne_iff_ne, beq_eq_false_iff_ne, bne_eq_false_iff_eq, ne_eq, Bool.and_eq_true, Bool.or_eq_true, Bool.not_eq_true', Bool.not_eq_false', Bool.and_eq_false_iff, Bool.or_eq_false_iff, Bool.false_eq_true, and_false, false_and, or_false, false_or, and_true, true_and, not_true_eq_false, not_false_eq_true, true_iff, false_iff, IntKind.wrap_i64] at *
  all_goals first
    | omega
    | skip
def stIxLat0 (n : Nat) (g : Nat → LatT) (F : FuncId) (i : Nat) : St := ⟨[(8, .c (.d (eI i))), (7, .c (.d (eI n))), (0, .c (.d (.sl 7 n fun i => eLat (g i)))), (1, .c (.d (.fn F [])))], []⟩
set_option maxRecDepth 100000 in
theorem c_IndexLat0 (n : Nat) (hn : n ≤ maxLen) (g : Nat → LatT) (F : FuncId) (Q : LatT → Prop) (hc : ∀ r, ∃ b, (b = true ↔ Q r) ∧ Meets Tryz.prog F [xd (eLat r)] ⟨.one (.c (.d (eB b))), [none]⟩) : ∃ x, FirstIx n (fun i => Q (g i)) x ∧ Meets Tryz.prog 226 [.c (.d (.sl 7 n fun i => eLat (g i))), .c (.d (.fn F []))] ⟨.one (.c (.d (eI x))), [none, none]⟩ := by
  obtain ⟨x, hx⟩ := firstIx_ex n fun i => Q (g i)
  refine ⟨x, hx, ?_⟩
  refine meets_of (H := []) (EX := EXA) ttok mixed Tryz.func226 rfl (by kernel_rfl) (by decide) ?_
  generalize hA : real = A
  generalize hM : Meets Tryz.prog = M
  cbv
  repeat' first
    | apply And.intro
    | exact True.intro
    | with_reducible rfl
    | exact same_of hA rfl
    | refine br_of hA (fun _ => ?_) (fun _ => ?_)
    | exact imp_of hA id
    | (refine imp_of hA ?_; subst hA; simp only [real, Bool.true_and]; exact id)
    | (refine ind_of hA ?_; decide +kernel)
  refine loop_of hA (α := { i : Nat // i ≤ n ∧ ∀ j, j < i → ¬ Q (g j) }) (fun x => stIxLat0 n g F x.1) (fun x => n - x.1) ⟨0, Nat.zero_le _, fun j h => absurd h (Nat.not_lt_zero _)⟩ ?_ ?_
  · refine cov_of ?_ ?_ ?_
    · cbv; subst hA; exact ⟨rfl, rfl, trivial⟩
    · cbv
    · cbv
  rintro ⟨i, hi, hb⟩
  cbv
  repeat' first
    | apply And.intro
    | exact True.intro
    | with_reducible rfl
    | exact same_of hA rfl
    | refine br_of hA (fun _ => ?_) (fun _ => ?_)
    | exact imp_of hA id
    | (refine imp_of hA ?_; subst hA; simp only [real, Bool.true_and]; exact id)
    | (refine ind_of hA ?_; decide +kernel)
    | (refine inb_of hA fun _ => ?_; subst hA; simp only [real, decide_eq_true_eq, Int.ofNat_eq_natCast] at *; omega)
  · refine call_ex hA hM (hc (g (A.nat (Int.ofNat i)))) (fun b hbb => ?_)
    cbv
    repeat' first
      | apply And.intro
      | exact True.intro
      | with_reducible rfl
      | exact same_of hA rfl
      | refine br_of hA (fun _ => ?_) (fun _ => ?_)
      | exact imp_of hA id
      | (refine imp_of hA ?_; subst hA; simp only [real, Bool.true_and]; exact id)
      | (refine ind_of hA ?_; decide +kernel)
    · rename_i hlt ht
      subst hA
      simp only [real, decide_eq_true_eq, Int.ofNat_eq_natCast, Int.toNat_natCast] at *
      obtain rfl := firstIx_one hx (.at i (by omega) (hbb.1 ht) hb)
      rfl
    · rename_i hlt ht
      have hlt' : i < n := by subst hA; simp only [real, decide_eq_true_eq, Int.ofNat_eq_natCast] at hlt; omega
      refine ⟨⟨i + 1, by omega, fun j hj => ?_⟩, by simp only; omega, cov_of ?_ ?_ ?_⟩
      · by_cases e : j = i
        · subst e
          subst hA
          intro hq
          have := hbb.2 hq
          rw [ht] at this
          cases this
        · exact hb j (by omega)
      · cbv
        subst hA
        exact ⟨congrArg (fun x => DV.v (.int .i64 x)) (up64 hlt' hn), trivial⟩
      · cbv
      · cbv
  · subst hA
    simp only [real, decide_eq_false_iff_not, Int.ofNat_eq_natCast] at *
    obtain rfl := firstIx_one hx (.none fun j hj => hb j (by omega))
    rfl
set_option maxRecDepth 100000 in
theorem c_ContainsLat0 (n : Nat) (hn : n ≤ maxLen) (g : Nat → LatT) (F : FuncId) (Q : LatT → Prop) (hc : ∀ r, ∃ b, (b = true ↔ Q r) ∧ Meets Tryz.prog F [xd (eLat r)] ⟨.one (.c (.d (eB b))), [none]⟩) : ∃ b, (b = true ↔ ∃ i, i < n ∧ Q (g i)) ∧ Meets Tryz.prog 189 [.c (.d (.sl 7 n fun i => eLat (g i))), .c (.d (.fn F []))] ⟨.one (.c (.d (eB b))), [none, none]⟩ := by
  obtain ⟨x, hx, hm⟩ := c_IndexLat0 n hn g F Q hc
  obtain ⟨b, hb⟩ : ∃ b, b = decide (0 ≤ x) := ⟨_, rfl⟩
  have hxx := firstIx_neg hx
  refine ⟨b, by rw [hb, decide_eq_true_eq]; exact hxx.1, ?_⟩
  refine meets_of (H := []) (EX := EXA) ttok mixed Tryz.func189 rfl (by kernel_rfl) (by decide) ?_
  generalize hA : real = A
  generalize hM : Meets Tryz.prog = M
  cbv
  repeat' first
    | apply And.intro
    | exact True.intro
    | with_reducible rfl
    | exact same_of hA rfl
    | refine br_of hA (fun _ => ?_) (fun _ => ?_)
    | exact imp_of hA id
    | (refine imp_of hA ?_; subst hA; simp only [real, Bool.true_and]; exact id)
    | (refine ind_of hA ?_; decide +kernel)
    | (refine call_of hA hM _ hm ?_; cbv)
  all_goals subst hA
  all_goals refine congrArg (fun b => XA.one (.c (.d (eB b)))) (Bool.eq_iff_iff.2 ?_)
  all_goals subst_vars
  all_goals try simp only [real, bifA, bifB, bifC, bifD, decide_eq_true_eq, decide_eq_false_iff_not, beq_iff_eq, bne_iff_ne, beq_eq_false_iff_ne, bne_eq_false_iff_eq, ne_eq, Bool.and_eq_true, Bool.or_eq_true, Bool.not_eq_true', Bool.not_eq_false', Bool.and_eq_false_iff, Bool.or_eq_false_iff, Bool.false_eq_true, and_false, false_and, or_false, false_or, and_true, true_and, not_true_eq_false, not_false_eq_true, true_iff, false_iff, IntKind.wrap_i64] at *
  all_goals first
    | omega
    | skip
def st_l8In (j : JobT) (n : Nat) (g : Nat → ItmT) (mark : Int) (held : Bool) (i : Nat) : St := ⟨[(5, .c (.d (eI i))), (2, .c (.bp 128 1 0)), (3, .c (.bp 192 1 0))], [(128, 1, .box ((eJob j).map .d)), (192, 1, .box ([.sl 5 n fun i => eItm (g i), eI mark, eB held].map .d))]⟩
open Classical in
set_option maxRecDepth 100000 in
theorem c_l8In (j : JobT) (c : TskInT) : ∃ b, (b = true ↔ InOkP j c) ∧ Meets Tryz.prog 115 [xd (eJob j), xd (eTskIn c)] ⟨.one (.c (.d (eB b))), [none, none]⟩ := by
  obtain ⟨b, hb⟩ : ∃ b : Bool, (b = true ↔ InOkP j c) := ⟨decide (InOkP j c), by rw [decide_eq_true_eq]⟩
  refine ⟨b, hb, ?_⟩
  obtain ⟨⟨n, g, hn⟩, mark, held⟩ := c
  show Meets _ _ [xd (eJob j), xd [.sl 5 n fun i => eItm (g i), eI mark, eB held]] _
  refine meets_of (H := []) (EX := EXA) ttok mixed Tryz.func115 rfl (by kernel_rfl) (by decide) ?_
  generalize hA : real = A
  generalize hM : Meets Tryz.prog = M
  cbv
  repeat' first
    | apply And.intro
    | exact True.intro
    | with_reducible rfl
    | exact same_of hA rfl
    | refine br_of hA (fun _ => ?_) (fun _ => ?_)
    | exact imp_of hA id
    | (refine imp_of hA ?_; subst hA; simp only [real, Bool.true_and]; exact id)
    | (refine ind_of hA ?_; decide +kernel)
    | (refine call_ex hA hM (c_l1In _ _ _) (fun _ _ => ?_); cbv)
  · rename_i hbad
    subst hA; subst_vars
    refine congrArg (fun b => XA.one (.c (.d (eB b)))) ?_
    simp only [real, bifA, bifB, bifC, bifD, beqB, decide_eq_true_eq, decide_eq_false_iff_not, beqI, bneI, beqIF, bneIF, ne_eq, Bool.and_eq_true, Bool.or_eq_true, Bool.not_eq_true', Bool.not_eq_false', Bool.and_eq_false_iff, Bool.or_eq_false_iff, Bool.false_eq_true, and_false, false_and, or_false, false_or, and_true, true_and, not_true_eq_false, not_false_eq_true, true_iff, false_iff, Int.ofNat_eq_natCast, Int.toNat_natCast] at hbad
    have hbad : (n : Int) > j.room ∨ ¬ (0 ≤ mark ∧ mark ≤ 1000) := hbad
    cases b with
    | false => rfl
    | true =>
      exfalso
      have h := hb.1 rfl
      obtain ⟨h1, h2, h3⟩ := h
      simp only at h1 h2
      omega
  rename_i hgood
  have hpre : (n : Int) ≤ j.room ∧ (0 ≤ mark ∧ mark ≤ 1000) := by
    subst hA; subst_vars
    simp only [real, bifA, bifB, bifC, bifD, beqB, decide_eq_true_eq, decide_eq_false_iff_not, beqI, bneI, beqIF, bneIF, ne_eq, Bool.and_eq_true, Bool.or_eq_true, Bool.not_eq_true', Bool.not_eq_false', Bool.and_eq_false_iff, Bool.or_eq_false_iff, Bool.false_eq_true, and_false, false_and, or_false, false_or, and_true, true_and, not_true_eq_false, not_false_eq_true, true_iff, false_iff, Int.ofNat_eq_natCast, Int.toNat_natCast] at hgood
    have hgood : ¬ (n : Int) > j.room ∧ (0 ≤ mark ∧ mark ≤ 1000) := hgood
    omega
  clear hgood
  refine loop_of hA (α := { i : Nat // i ≤ n ∧ ∀ k, k < i → ItmOkP (g k) }) (fun x => st_l8In j n g mark held x.1) (fun x => n - x.1) ⟨0, Nat.zero_le _, fun k h => absurd h (Nat.not_lt_zero k)⟩ ?_ ?_
  · refine cov_of ?_ ?_ ?_
    · cbv; try (subst hA; repeat' first | apply And.intro | exact True.intro | rfl)
    · cbv; try (subst hA; repeat' first | apply And.intro | exact True.intro | rfl)
    · cbv
  rintro ⟨i, hi, hk⟩
  cbv
  repeat' first
    | apply And.intro
    | exact True.intro
    | with_reducible rfl
    | exact same_of hA rfl
    | refine br_of hA (fun _ => ?_) (fun _ => ?_)
    | exact imp_of hA id
    | (refine imp_of hA ?_; subst hA; simp only [real, Bool.true_and]; exact id)
    | (refine ind_of hA ?_; decide +kernel)
    | (refine call_ex hA hM (c_sItmOkP _) (fun _ _ => ?_); cbv)
    | (refine inb_of hA fun _ => ?_; subst hA; simp only [real, Bool.and_eq_true, Bool.not_eq_true', Bool.not_eq_false', decide_eq_true_eq, Int.ofNat_eq_natCast, IntKind.wrap_i64] at *; omega)
  · rename_i hlt bq hbq hc
    have hlt' : i < n := by subst hA; simp only [real, decide_eq_true_eq, Int.ofNat_eq_natCast] at hlt; omega
    have hq : ¬ (ItmOkP (g i)) := by
      subst hA
      simp only [real, Bool.not_eq_true'] at hc
      intro h
      have := hbq.2 h
      rw [hc] at this
      cases this
    refine congrArg (fun b => XA.one (.c (.d (eB b)))) ?_
    cases b with
    | false => rfl
    | true =>
      exfalso
      exact hq ((hb.1 rfl).2.2 i hlt')
  · rename_i hlt bq hbq hc
    have hlt' : i < n := by subst hA; simp only [real, decide_eq_true_eq, Int.ofNat_eq_natCast] at hlt; omega
    have hq : ItmOkP (g i) := by
      subst hA
      simp only [real, Bool.not_eq_false'] at hc
      exact hbq.1 hc
    refine ⟨⟨i + 1, by omega, fun k hk' => ?_⟩, by simp only; omega, cov_of ?_ ?_ ?_⟩
    · by_cases e : k = i
      · rw [e]; exact hq
      · exact hk k (by omega)
    · cbv
      subst hA
      repeat' first | apply And.intro | exact True.intro | exact congrArg (fun x => DV.v (.int .i64 x)) (up64 hlt' hn) | rfl | (intro k hk; exact push_at rfl _ _ _ _ k hk)
    · cbv; try (subst hA; repeat' first | apply And.intro | exact True.intro | rfl)
    · cbv
  rename_i hge
  have hall : ∀ k, k < n → ItmOkP (g k) := fun k hk' => hk k (by subst hA; simp only [real, decide_eq_false_iff_not, Int.ofNat_eq_natCast] at hge; omega)
  clear hk hi hge
  exact congrArg (fun b => XA.one (.c (.d (eB b)))) (hb.2 ⟨hpre.1, hpre.2, hall⟩).symm
def st_l8T0 (m : Int) (n : Nat) (g : Nat → PaneT) (n2 : Nat) (g2 : Nat → LatT) (i : Nat) : St := ⟨[(3, .c (.d (eI i))), (1, .c (.bp 64 1 0))], [(64, 1, .box ([eI m, .sl 9 n fun i => ePane (g i), .sl 7 n2 fun i => eLat (g2 i)].map .d))]⟩
def st_l8T1 (m : Int) (n : Nat) (g : Nat → PaneT) (n2 : Nat) (g2 : Nat → LatT) (i : Nat) : St := ⟨[(4, .c (.d (eI i))), (1, .c (.bp 64 1 0))], [(64, 1, .box ([eI m, .sl 9 n fun i => ePane (g i), .sl 7 n2 fun i => eLat (g2 i)].map .d))]⟩
open Classical in
set_option maxRecDepth 100000 in
theorem c_l8Txn (x : TxnT) : ∃ b, (b = true ↔ TxnOkP x) ∧ Meets Tryz.prog 114 [xd (eTxn x)] ⟨.one (.c (.d (eB b))), [none]⟩ := by
  obtain ⟨b, hb⟩ : ∃ b : Bool, (b = true ↔ TxnOkP x) := ⟨decide (TxnOkP x), by rw [decide_eq_true_eq]⟩
  refine ⟨b, hb, ?_⟩
  obtain ⟨m, ⟨n, g, hn⟩, ⟨n2, g2, hn2⟩⟩ := x
  show Meets _ _ [xd [eI m, .sl 9 n fun i => ePane (g i), .sl 7 n2 fun i => eLat (g2 i)]] _
  refine meets_of (H := []) (EX := EXA) ttok mixed Tryz.func114 rfl (by kernel_rfl) (by decide) ?_
  generalize hA : real = A
  generalize hM : Meets Tryz.prog = M
  cbv
  repeat' first
    | apply And.intro
    | exact True.intro
    | with_reducible rfl
    | exact same_of hA rfl
    | refine br_of hA (fun _ => ?_) (fun _ => ?_)
    | exact imp_of hA id
    | (refine imp_of hA ?_; subst hA; simp only [real, Bool.true_and]; exact id)
    | (refine ind_of hA ?_; decide +kernel)
    | (refine call_ex hA hM (c_l1In _ _ _) (fun _ _ => ?_); cbv)
  · rename_i hbad
    subst hA; subst_vars
    refine congrArg (fun b => XA.one (.c (.d (eB b)))) ?_
    simp only [real, bifA, bifB, bifC, bifD, beqB, decide_eq_true_eq, decide_eq_false_iff_not, beqI, bneI, beqIF, bneIF, ne_eq, Bool.and_eq_true, Bool.or_eq_true, Bool.not_eq_true', Bool.not_eq_false', Bool.and_eq_false_iff, Bool.or_eq_false_iff, Bool.false_eq_true, and_false, false_and, or_false, false_or, and_true, true_and, not_true_eq_false, not_false_eq_true, true_iff, false_iff, Int.ofNat_eq_natCast, Int.toNat_natCast] at hbad
    have hbad : (¬ (0 ≤ m ∧ m ≤ 900) ∨ (n : Int) > 1500) ∨ (n2 : Int) > 1500 := hbad
    cases b with
    | false => rfl
    | true =>
      exfalso
      have h := hb.1 rfl
      obtain ⟨h1, h2, h3, h4⟩ := h
      simp only at h1 h2 h3
      omega
  rename_i hgood
  have hpre : (0 ≤ m ∧ m ≤ 900) ∧ (n : Int) ≤ 1500 ∧ (n2 : Int) ≤ 1500 := by
    subst hA; subst_vars
    simp only [real, bifA, bifB, bifC, bifD, beqB, decide_eq_true_eq, decide_eq_false_iff_not, beqI, bneI, beqIF, bneIF, ne_eq, Bool.and_eq_true, Bool.or_eq_true, Bool.not_eq_true', Bool.not_eq_false', Bool.and_eq_false_iff, Bool.or_eq_false_iff, Bool.false_eq_true, and_false, false_and, or_false, false_or, and_true, true_and, not_true_eq_false, not_false_eq_true, true_iff, false_iff, Int.ofNat_eq_natCast, Int.toNat_natCast] at hgood
    omega
  clear hgood
  refine loop_of hA (α := { i : Nat // i ≤ n ∧ ∀ k, k < i → PaneOkP (g k) }) (fun x => st_l8T0 m n g n2 g2 x.1) (fun x => n - x.1) ⟨0, Nat.zero_le _, fun k h => absurd h (Nat.not_lt_zero k)⟩ ?_ ?_
  · refine cov_of ?_ ?_ ?_
    · cbv; try (subst hA; repeat' first | apply And.intro | exact True.intro | rfl)
    · cbv; try (subst hA; repeat' first | apply And.intro | exact True.intro | rfl)
    · cbv
  rintro ⟨i, hi, hk⟩
  cbv
  repeat' first
    | apply And.intro
    | exact True.intro
    | with_reducible rfl
    | exact same_of hA rfl
    | refine br_of hA (fun _ => ?_) (fun _ => ?_)
    | exact imp_of hA id
    | (refine imp_of hA ?_; subst hA; simp only [real, Bool.true_and]; exact id)
    | (refine ind_of hA ?_; decide +kernel)
    | (refine call_ex hA hM (c_sPanOk _) (fun _ _ => ?_); cbv)
    | (refine inb_of hA fun _ => ?_; subst hA; simp only [real, Bool.and_eq_true, Bool.not_eq_true', Bool.not_eq_false', decide_eq_true_eq, Int.ofNat_eq_natCast, IntKind.wrap_i64] at *; omega)
  · rename_i hlt bq hbq hc
    have hlt' : i < n := by subst hA; simp only [real, decide_eq_true_eq, Int.ofNat_eq_natCast] at hlt; omega
    have hq : ¬ (PaneOkP (g i)) := by
      subst hA
      simp only [real, Bool.not_eq_true'] at hc
      intro h
      have := hbq.2 h
      rw [hc] at this
      cases this
    refine congrArg (fun b => XA.one (.c (.d (eB b)))) ?_
    cases b with
    | false => rfl
    | true =>
      exfalso
      exact hq ((hb.1 rfl).2.2.2.1 i hlt')
  · rename_i hlt bq hbq hc
    have hlt' : i < n := by subst hA; simp only [real, decide_eq_true_eq, Int.ofNat_eq_natCast] at hlt; omega
    have hq : PaneOkP (g i) := by
      subst hA
      simp only [real, Bool.not_eq_false'] at hc
      exact hbq.1 hc
    refine ⟨⟨i + 1, by omega, fun k hk' => ?_⟩, by simp only; omega, cov_of ?_ ?_ ?_⟩
    · by_cases e : k = i
      · rw [e]; exact hq
      · exact hk k (by omega)
    · cbv
      subst hA
      repeat' first | apply And.intro | exact True.intro | exact congrArg (fun x => DV.v (.int .i64 x)) (up64 hlt' hn) | rfl | (intro k hk; exact push_at rfl _ _ _ _ k hk)
    · cbv; try (subst hA; repeat' first | apply And.intro | exact True.intro | rfl)
    · cbv
  rename_i hge
  have hall : ∀ k, k < n → PaneOkP (g k) := fun k hk' => hk k (by subst hA; simp only [real, decide_eq_false_iff_not, Int.ofNat_eq_natCast] at hge; omega)
  clear hk hi hge
  have hall1 := hall
  clear hall
  refine loop_of hA (α := { i : Nat // i ≤ n2 ∧ ∀ k, k < i → LatOkP (g2 k) }) (fun x => st_l8T1 m n g n2 g2 x.1) (fun x => n2 - x.1) ⟨0, Nat.zero_le _, fun k h => absurd h (Nat.not_lt_zero k)⟩ ?_ ?_
  · refine cov_of ?_ ?_ ?_
    · cbv; try (subst hA; repeat' first | apply And.intro | exact True.intro | rfl)
    · cbv; try (subst hA; repeat' first | apply And.intro | exact True.intro | rfl)
    · cbv
  rintro ⟨i, hi, hk⟩
  cbv
  repeat' first
    | apply And.intro
    | exact True.intro
    | with_reducible rfl
    | exact same_of hA rfl
    | refine br_of hA (fun _ => ?_) (fun _ => ?_)
    | exact imp_of hA id
    | (refine imp_of hA ?_; subst hA; simp only [real, Bool.true_and]; exact id)
    | (refine ind_of hA ?_; decide +kernel)
    | (refine call_ex hA hM (c_sLatOk _) (fun _ _ => ?_); cbv)
    | (refine inb_of hA fun _ => ?_; subst hA; simp only [real, Bool.and_eq_true, Bool.not_eq_true', Bool.not_eq_false', decide_eq_true_eq, Int.ofNat_eq_natCast, IntKind.wrap_i64] at *; omega)
  · rename_i hlt bq hbq hc
    have hlt' : i < n2 := by subst hA; simp only [real, decide_eq_true_eq, Int.ofNat_eq_natCast] at hlt; omega
    have hq : ¬ (LatOkP (g2 i)) := by
      subst hA
      simp only [real, Bool.not_eq_true'] at hc
      intro h
      have := hbq.2 h
      rw [hc] at this
      cases this
    refine congrArg (fun b => XA.one (.c (.d (eB b)))) ?_
    cases b with
    | false => rfl
    | true =>
      exfalso
      exact hq ((hb.1 rfl).2.2.2.2 i hlt')
  · rename_i hlt bq hbq hc
    have hlt' : i < n2 := by subst hA; simp only [real, decide_eq_true_eq, Int.ofNat_eq_natCast] at hlt; omega
    have hq : LatOkP (g2 i) := by
      subst hA
      simp only [real, Bool.not_eq_false'] at hc
      exact hbq.1 hc
    refine ⟨⟨i + 1, by omega, fun k hk' => ?_⟩, by simp only; omega, cov_of ?_ ?_ ?_⟩
    · by_cases e : k = i
      · rw [e]; exact hq
      · exact hk k (by omega)
    · cbv
      subst hA
      repeat' first | apply And.intro | exact True.intro | exact congrArg (fun x => DV.v (.int .i64 x)) (up64 hlt' hn2) | rfl | (intro k hk; exact push_at rfl _ _ _ _ k hk)
    · cbv; try (subst hA; repeat' first | apply And.intro | exact True.intro | rfl)
    · cbv
  rename_i hge
  have hall : ∀ k, k < n2 → LatOkP (g2 k) := fun k hk' => hk k (by subst hA; simp only [real, decide_eq_false_iff_not, Int.ofNat_eq_natCast] at hge; omega)
  clear hk hi hge
  exact congrArg (fun b => XA.one (.c (.d (eB b)))) (hb.2 ⟨hpre.1, hpre.2.1, hpre.2.2, hall1, hall⟩).symm
def st_sTskOk (j : JobT) (n : Nat) (g : Nat → TskInT) (hn : n ≤ maxLen) (op : OpStT) (wall : Int) (pend : TxnT) (i : Nat) : St := ⟨[(5, .c (.d (eI i))), (2, .c (.bp 128 1 0)), (3, .c (.bp 192 1 0))], [(128, 1, .box ((eJob j).map .d)), (192, 1, .box ((eTsk ⟨⟨n, g, hn⟩, op, wall, pend⟩).map .d))]⟩
open Classical in
set_option maxRecDepth 100000 in
theorem c_sTskOk (j : JobT) (t : TskT) : ∃ b, (b = true ↔ TskOkP j t) ∧ Meets Tryz.prog 69 [xd (eJob j), xd (eTsk t)] ⟨.one (.c (.d (eB b))), [none, none]⟩ := by
  obtain ⟨b, hb⟩ : ∃ b : Bool, (b = true ↔ TskOkP j t) := ⟨decide (TskOkP j t), by rw [decide_eq_true_eq]⟩
  refine ⟨b, hb, ?_⟩
  obtain ⟨x, hx⟩ := lowP_ex 1000 t.ins.n (fun i => (t.ins.g i).mark)
  have hlow := c_sTskLow t x hx
  obtain ⟨c, hc, hheld⟩ := c_sTskHeld t
  obtain ⟨⟨n, g, hn⟩, op, wall, pend⟩ := t
  have hx : LowP 1000 n (fun i => (g i).mark) x := hx
  have hc : c = ((cntB (fun i => (g i).held) n : Nat) : Int) := hc
  refine meets_of (H := []) (EX := EXA) ttok mixed Tryz.func69 rfl (by kernel_rfl) (by decide) ?_
  generalize hA : real = A
  generalize hM : Meets Tryz.prog = M
  cbv
  repeat' first
    | apply And.intro
    | exact True.intro
    | with_reducible rfl
    | exact same_of hA rfl
    | refine br_of hA (fun _ => ?_) (fun _ => ?_)
    | exact imp_of hA id
    | (refine imp_of hA ?_; subst hA; simp only [real, Bool.true_and]; exact id)
    | (refine ind_of hA ?_; decide +kernel)
    | (refine call_ex hA hM (c_l1In _ _ _) (fun _ _ => ?_); cbv)
    | (refine call_ex hA hM (c_l8Txn pend) (fun _ _ => ?_); cbv)
    | (refine call_ex hA hM (c_sOpOk j op) (fun _ _ => ?_); cbv)
  · rename_i b1 hb1 b2 hb2 b3 hb3 hbad
    subst hA; subst hb2
    refine congrArg (fun b => XA.one (.c (.d (eB b)))) ?_
    simp only [real, bifA, bifB, bifC, bifD, beqB, decide_eq_true_eq, decide_eq_false_iff_not, beqI, bneI, beqIF, bneIF, ne_eq, Classical.not_not, Bool.and_eq_true, Bool.or_eq_true, Bool.not_eq_true', Bool.not_eq_false', Bool.and_eq_false_iff, Bool.or_eq_false_iff, Bool.false_eq_true, and_false, false_and, or_false, false_or, and_true, true_and, not_true_eq_false, not_false_eq_true, true_iff, false_iff, Int.ofNat_eq_natCast, Int.toNat_natCast] at hbad
    have hbad : (((b1 = false ∨ ¬ (n : Int) = j.srcs) ∨ ¬ (0 ≤ wall ∧ wall ≤ 900)) ∨ b3 = false) ∨ ¬ pend.n = 0 := hbad
    cases b with
    | false => rfl
    | true =>
      exfalso
      obtain ⟨h1, h2, h3, h4, h5, _⟩ := hb.1 rfl
      rw [hb1.2 h1, hb3.2 h4] at hbad
      simp only at h2 h3 h5
      simp only [reduceCtorEq, false_or, or_false] at hbad
      omega
  rename_i b1 hb1 b2 hb2 b3 hb3 hgood
  have hpre : OpOkP j op ∧ (n : Int) = j.srcs ∧ (0 ≤ wall ∧ wall ≤ 900) ∧ TxnOkP pend ∧ pend.n = 0 := by
    subst hA; subst hb2
    simp only [real, bifA, bifB, bifC, bifD, beqB, decide_eq_true_eq, decide_eq_false_iff_not, beqI, bneI, beqIF, bneIF, ne_eq, Classical.not_not, Bool.and_eq_true, Bool.or_eq_true, Bool.not_eq_true', Bool.not_eq_false', Bool.and_eq_false_iff, Bool.or_eq_false_iff, Bool.false_eq_true, and_false, false_and, or_false, false_or, and_true, true_and, not_true_eq_false, not_false_eq_true, true_iff, false_iff, Int.ofNat_eq_natCast, Int.toNat_natCast] at hgood
    have hgood : (((b1 = true ∧ (n : Int) = j.srcs) ∧ (0 ≤ wall ∧ wall ≤ 900)) ∧ b3 = true) ∧ pend.n = 0 := hgood
    exact ⟨hb1.1 hgood.1.1.1.1, hgood.1.1.1.2, hgood.1.1.2, hb3.1 hgood.1.2, hgood.2⟩
  clear hgood
  refine loop_of hA (α := { i : Nat // i ≤ n ∧ ∀ k, k < i → InOkP j (g k) }) (fun x => st_sTskOk j n g hn op wall pend x.1) (fun x => n - x.1) ⟨0, Nat.zero_le _, fun k h => absurd h (Nat.not_lt_zero k)⟩ ?_ ?_
  · refine cov_of ?_ ?_ ?_
    · cbv; try (subst hA; repeat' first | apply And.intro | exact True.intro | rfl)
    · cbv; try (subst hA; repeat' first | apply And.intro | exact True.intro | rfl)
    · cbv
  rintro ⟨i, hi, hk⟩
  cbv
  repeat' first
    | apply And.intro
    | exact True.intro
    | with_reducible rfl
    | exact same_of hA rfl
    | refine br_of hA (fun _ => ?_) (fun _ => ?_)
    | exact imp_of hA id
    | (refine imp_of hA ?_; subst hA; simp only [real, Bool.true_and]; exact id)
    | (refine ind_of hA ?_; decide +kernel)
    | (refine call_ex hA hM (c_l8In j (g (A.nat (Int.ofNat i)))) (fun _ _ => ?_); cbv)
    | (refine inb_of hA fun _ => ?_; subst hA; simp only [real, Bool.and_eq_true, Bool.not_eq_true', Bool.not_eq_false', decide_eq_true_eq, Int.ofNat_eq_natCast, IntKind.wrap_i64] at *; omega)
  · rename_i hlt bq hbq hc
    have hlt' : i < n := by subst hA; simp only [real, decide_eq_true_eq, Int.ofNat_eq_natCast] at hlt; omega
    have hq : ¬ (InOkP j (g i)) := by
      subst hA
      simp only [real, Bool.not_eq_true'] at hc
      intro h
      have := hbq.2 h
      rw [hc] at this
      cases this
    refine congrArg (fun b => XA.one (.c (.d (eB b)))) ?_
    cases b with
    | false => rfl
    | true =>
      exfalso
      exact hq ((hb.1 rfl).2.2.2.2.2.1 i hlt')
  · rename_i hlt bq hbq hc
    have hlt' : i < n := by subst hA; simp only [real, decide_eq_true_eq, Int.ofNat_eq_natCast] at hlt; omega
    have hq : InOkP j (g i) := by
      subst hA
      simp only [real, Bool.not_eq_false'] at hc
      exact hbq.1 hc
    refine ⟨⟨i + 1, by omega, fun k hk' => ?_⟩, by simp only; omega, cov_of ?_ ?_ ?_⟩
    · by_cases e : k = i
      · rw [e]; exact hq
      · exact hk k (by omega)
    · cbv
      subst hA
      repeat' first | apply And.intro | exact True.intro | exact congrArg (fun x => DV.v (.int .i64 x)) (up64 hlt' hn) | rfl | (intro k hk; exact push_at rfl _ _ _ _ k hk)
    · cbv; try (subst hA; repeat' first | apply And.intro | exact True.intro | rfl)
    · cbv
  rename_i hge
  have hall : ∀ k, k < n → InOkP j (g k) := fun k hk' => hk k (by subst hA; simp only [real, decide_eq_false_iff_not, Int.ofNat_eq_natCast] at hge; omega)
  clear hk hi hge
  repeat' first
    | apply And.intro
    | exact True.intro
    | with_reducible rfl
    | exact same_of hA rfl
    | refine br_of hA (fun _ => ?_) (fun _ => ?_)
    | exact imp_of hA id
    | (refine imp_of hA ?_; subst hA; simp only [real, Bool.true_and]; exact id)
    | (refine ind_of hA ?_; decide +kernel)
    | (refine call_of hA hM _ hheld ?_; cbv)
    | (refine call_of hA hM _ hlow ?_; cbv)
  refine congrArg (fun b => XA.one (.c (.d (eB b)))) (Bool.eq_iff_iff.2 ?_)
  rw [hb]
  subst hA
  simp only [real, bifA, bifB, bifC, bifD, beqB, decide_eq_true_eq, decide_eq_false_iff_not, beqI, bneI, beqIF, bneIF, ne_eq, Bool.and_eq_true, Bool.or_eq_true, Bool.not_eq_true', Bool.not_eq_false', Bool.and_eq_false_iff, Bool.or_eq_false_iff, Bool.false_eq_true, and_false, false_and, or_false, false_or, and_true, true_and, not_true_eq_false, not_false_eq_true, true_iff, false_iff, Int.ofNat_eq_natCast, Int.toNat_natCast]
  constructor
  · rintro ⟨h1, h2⟩
    have h1 : c < (n : Int) := h1
    have h2 : op.mark = x := h2
    exact ⟨hpre.1, hpre.2.1, hpre.2.2.1, hpre.2.2.2.1, hpre.2.2.2.2, hall, (show cntB (fun i => (g i).held) n < n by have h9 := h1; rw [hc] at h9; exact Int.ofNat_lt.1 h9), (show LowP 1000 n (fun i => (g i).mark) op.mark by rw [h2]; exact hx)⟩
  · intro h
    have h1 : cntB (fun i => (g i).held) n < n := h.2.2.2.2.2.2.1
    exact ⟨(show c < (n : Int) by rw [hc]; exact Int.ofNat_lt.2 h1), lowP_one h.2.2.2.2.2.2.2 hx⟩
open Classical in
set_option maxRecDepth 100000 in
theorem c_notItm (x : ItmT) : ∃ b, (b = true ↔ ¬ ItmOkP x) ∧ Meets Tryz.prog 181 [xd (eItm x)] ⟨.one (.c (.d (eB b))), [none]⟩ := by
  obtain ⟨b, hb⟩ : ∃ b : Bool, (b = true ↔ ¬ ItmOkP x) := ⟨decide (¬ ItmOkP x), by rw [decide_eq_true_eq]⟩
  refine ⟨b, hb, ?_⟩
  refine meets_of (H := []) (EX := EXA) ttok mixed Tryz.func181 rfl (by kernel_rfl) (by decide) ?_
  generalize hA : real = A
  generalize hM : Meets Tryz.prog = M
  cbv
  repeat' first
    | apply And.intro
    | exact True.intro
    | with_reducible rfl
    | exact same_of hA rfl
    | refine br_of hA (fun _ => ?_) (fun _ => ?_)
    | exact imp_of hA id
    | (refine imp_of hA ?_; subst hA; simp only [real, Bool.true_and]; exact id)
    | (refine ind_of hA ?_; decide +kernel)
    | (refine call_ex hA hM (c_ItmOkP x) (fun _ _ => ?_); cbv)
  rename_i b1 hb1
  refine congrArg (fun b => XA.one (.c (.d (eB b)))) (Bool.eq_iff_iff.2 ?_)
  subst hA
  rw [hb, ← hb1]
  simp [real]
open Classical in
set_option maxRecDepth 100000 in
theorem c_InOk (j : JobT) (c : TskInT) : ∃ b, (b = true ↔ InOkP j c) ∧ Meets Tryz.prog 128 [xd (eTskIn c), xd (eJob j)] ⟨.one (.c (.d (eB b))), [none, none]⟩ := by
  obtain ⟨b, hb⟩ : ∃ b : Bool, (b = true ↔ InOkP j c) := ⟨decide (InOkP j c), by rw [decide_eq_true_eq]⟩
  refine ⟨b, hb, ?_⟩
  have hcon := c_ContainsItm0 c.queue.n c.queue.hn c.queue.g 181 _ c_notItm
  refine meets_of (H := []) (EX := EXA) ttok mixed Tryz.func128 rfl (by kernel_rfl) (by decide) ?_
  generalize hA : real = A
  generalize hM : Meets Tryz.prog = M
  cbv
  repeat' first
    | apply And.intro
    | exact True.intro
    | with_reducible rfl
    | exact same_of hA rfl
    | refine br_of hA (fun _ => ?_) (fun _ => ?_)
    | exact imp_of hA id
    | (refine imp_of hA ?_; subst hA; simp only [real, Bool.true_and]; exact id)
    | (refine ind_of hA ?_; decide +kernel)
    | (refine call_ex hA hM (c_isTime _) (fun _ _ => ?_); cbv)
    | (refine call_ex hA hM hcon (fun _ _ => ?_); cbv)
  rename_i b1 hb1 b2 hb2
  refine congrArg (fun b => XA.one (.c (.d (eB b)))) (Bool.eq_iff_iff.2 ?_)
  have e2 := nex hb2
  subst hA; subst hb1
  rw [hb]
  simp only [real, bifA, bifB, bifC, bifD, beqB, decide_eq_true_eq, decide_eq_false_iff_not, beqI, bneI, beqIF, bneIF, ne_eq, Bool.and_eq_true, Bool.or_eq_true, Bool.not_eq_true', Bool.not_eq_false', Bool.and_eq_false_iff, Bool.or_eq_false_iff, Bool.false_eq_true, and_false, false_and, or_false, false_or, and_true, true_and, not_true_eq_false, not_false_eq_true, true_iff, false_iff, Int.ofNat_eq_natCast, Int.toNat_natCast]
  rw [e2]
  exact ⟨fun h => ⟨h.1.1, h.1.2, h.2⟩, fun h => ⟨⟨h.1, h.2.1⟩, h.2.2⟩⟩
open Classical in
set_option maxRecDepth 100000 in
theorem c_notPan (p : PaneT) : ∃ b, (b = true ↔ ¬ PaneOkP p) ∧ Meets Tryz.prog 184 [xd (ePane p)] ⟨.one (.c (.d (eB b))), [none]⟩ := by
  obtain ⟨b, hb⟩ : ∃ b : Bool, (b = true ↔ ¬ PaneOkP p) := ⟨decide (¬ PaneOkP p), by rw [decide_eq_true_eq]⟩
  refine ⟨b, hb, ?_⟩
  refine meets_of (H := []) (EX := EXA) ttok mixed Tryz.func184 rfl (by kernel_rfl) (by decide) ?_
  generalize hA : real = A
  generalize hM : Meets Tryz.prog = M
  cbv
  repeat' first
    | apply And.intro
    | exact True.intro
    | with_reducible rfl
    | exact same_of hA rfl
    | refine br_of hA (fun _ => ?_) (fun _ => ?_)
    | exact imp_of hA id
    | (refine imp_of hA ?_; subst hA; simp only [real, Bool.true_and]; exact id)
    | (refine ind_of hA ?_; decide +kernel)
    | (refine call_ex hA hM (c_PanOk p) (fun _ _ => ?_); cbv)
  rename_i b1 hb1
  refine congrArg (fun b => XA.one (.c (.d (eB b)))) (Bool.eq_iff_iff.2 ?_)
  subst hA
  rw [hb, ← hb1]
  simp [real]
open Classical in
set_option maxRecDepth 100000 in
theorem c_notLat (l : LatT) : ∃ b, (b = true ↔ ¬ LatOkP l) ∧ Meets Tryz.prog 186 [xd (eLat l)] ⟨.one (.c (.d (eB b))), [none]⟩ := by
  obtain ⟨b, hb⟩ : ∃ b : Bool, (b = true ↔ ¬ LatOkP l) := ⟨decide (¬ LatOkP l), by rw [decide_eq_true_eq]⟩
  refine ⟨b, hb, ?_⟩
  refine meets_of (H := []) (EX := EXA) ttok mixed Tryz.func186 rfl (by kernel_rfl) (by decide) ?_
  generalize hA : real = A
  generalize hM : Meets Tryz.prog = M
  cbv
  repeat' first
    | apply And.intro
    | exact True.intro
    | with_reducible rfl
    | exact same_of hA rfl
    | refine br_of hA (fun _ => ?_) (fun _ => ?_)
    | exact imp_of hA id
    | (refine imp_of hA ?_; subst hA; simp only [real, Bool.true_and]; exact id)
    | (refine ind_of hA ?_; decide +kernel)
    | (refine call_ex hA hM (c_LatOk l) (fun _ _ => ?_); cbv)
  rename_i b1 hb1
  refine congrArg (fun b => XA.one (.c (.d (eB b)))) (Bool.eq_iff_iff.2 ?_)
  subst hA
  rw [hb, ← hb1]
  simp [real]
open Classical in
set_option maxRecDepth 100000 in
theorem c_told (ps : Sl PaneT) (ls : Sl LatT) (m : Int) : ∃ b, (b = true ↔ ToldP m ps ls) ∧ Meets Tryz.prog 133 [.c (.d (.sl 9 ps.n fun i => ePane (ps.g i))), .c (.d (.sl 7 ls.n fun i => eLat (ls.g i))), .c (.d (eI m))] ⟨.one (.c (.d (eB b))), [none, none, none]⟩ := by
  obtain ⟨b, hb⟩ : ∃ b : Bool, (b = true ↔ ToldP m ps ls) := ⟨decide (ToldP m ps ls), by rw [decide_eq_true_eq]⟩
  refine ⟨b, hb, ?_⟩
  have hcp := c_ContainsPane0 ps.n ps.hn ps.g 184 _ c_notPan
  have hcl := c_ContainsLat0 ls.n ls.hn ls.g 186 _ c_notLat
  refine meets_of (H := []) (EX := EXA) ttok mixed Tryz.func133 rfl (by kernel_rfl) (by decide) ?_
  generalize hA : real = A
  generalize hM : Meets Tryz.prog = M
  cbv
  repeat' first
    | apply And.intro
    | exact True.intro
    | with_reducible rfl
    | exact same_of hA rfl
    | refine br_of hA (fun _ => ?_) (fun _ => ?_)
    | exact imp_of hA id
    | (refine imp_of hA ?_; subst hA; simp only [real, Bool.true_and]; exact id)
    | (refine ind_of hA ?_; decide +kernel)
    | (refine call_ex hA hM hcp (fun _ _ => ?_); cbv)
    | (refine call_ex hA hM hcl (fun _ _ => ?_); cbv)
  rename_i b1 hb1 b2 hb2
  refine congrArg (fun b => XA.one (.c (.d (eB b)))) (Bool.eq_iff_iff.2 ?_)
  have e1 := nex hb1
  have e2 := nex hb2
  subst hA
  rw [hb]
  simp only [real, bifA, bifB, bifC, bifD, beqB, decide_eq_true_eq, decide_eq_false_iff_not, beqI, bneI, beqIF, bneIF, ne_eq, Bool.and_eq_true, Bool.or_eq_true, Bool.not_eq_true', Bool.not_eq_false', Bool.and_eq_false_iff, Bool.or_eq_false_iff, Bool.false_eq_true, and_false, false_and, or_false, false_or, and_true, true_and, not_true_eq_false, not_false_eq_true, true_iff, false_iff, Int.ofNat_eq_natCast, Int.toNat_natCast]
  rw [e1, e2]
  exact ⟨fun h => ⟨h.1.1.1, h.1.1.2, h.1.2, h.2⟩, fun h => ⟨⟨⟨h.1, h.2.1⟩, h.2.2.1⟩, h.2.2.2⟩⟩
open Classical in
set_option maxRecDepth 100000 in
theorem c_TxnOk (x : TxnT) : ∃ b, (b = true ↔ TxnOkP x) ∧ Meets Tryz.prog 131 [xd (eTxn x)] ⟨.one (.c (.d (eB b))), [none]⟩ := by
  obtain ⟨b, hb⟩ : ∃ b : Bool, (b = true ↔ TxnOkP x) := ⟨decide (TxnOkP x), by rw [decide_eq_true_eq]⟩
  refine ⟨b, hb, ?_⟩
  refine meets_of (H := []) (EX := EXA) ttok mixed Tryz.func131 rfl (by kernel_rfl) (by decide) ?_
  generalize hA : real = A
  generalize hM : Meets Tryz.prog = M
  cbv
  repeat' first
    | apply And.intro
    | exact True.intro
    | with_reducible rfl
    | exact same_of hA rfl
    | refine br_of hA (fun _ => ?_) (fun _ => ?_)
    | exact imp_of hA id
    | (refine imp_of hA ?_; subst hA; simp only [real, Bool.true_and]; exact id)
    | (refine ind_of hA ?_; decide +kernel)
    | (refine call_ex hA hM (c_in _ _ _) (fun _ _ => ?_); cbv)
    | (refine call_ex hA hM (c_told x.panes x.lates _) (fun _ _ => ?_); cbv)
  rename_i b1 hb1 b2 hb2
  refine congrArg (fun b => XA.one (.c (.d (eB b)))) (Bool.eq_iff_iff.2 ?_)
  subst hA; subst hb1
  rw [hb]
  simp only [real, bifA, bifB, bifC, bifD, beqB, decide_eq_true_eq, decide_eq_false_iff_not, beqI, bneI, beqIF, bneIF, ne_eq, Bool.and_eq_true, Bool.or_eq_true, Bool.not_eq_true', Bool.not_eq_false', Bool.and_eq_false_iff, Bool.or_eq_false_iff, Bool.false_eq_true, and_false, false_and, or_false, false_or, and_true, true_and, not_true_eq_false, not_false_eq_true, true_iff, false_iff, Int.ofNat_eq_natCast, Int.toNat_natCast]
  rw [hb2]
  exact Iff.rfl
open Classical in
set_option maxRecDepth 100000 in
theorem c_notIn (j : JobT) (c : TskInT) : ∃ b, (b = true ↔ ¬ InOkP j c) ∧ Meets Tryz.prog 127 [xd (eTskIn c), .c (.d (.p (eJob j)))] ⟨.one (.c (.d (eB b))), [none, none]⟩ := by
  obtain ⟨b, hb⟩ : ∃ b : Bool, (b = true ↔ ¬ InOkP j c) := ⟨decide (¬ InOkP j c), by rw [decide_eq_true_eq]⟩
  refine ⟨b, hb, ?_⟩
  refine meets_of (H := []) (EX := EXA) ttok mixed Tryz.func127 rfl (by kernel_rfl) (by decide) ?_
  generalize hA : real = A
  generalize hM : Meets Tryz.prog = M
  cbv
  repeat' first
    | apply And.intro
    | exact True.intro
    | with_reducible rfl
    | exact same_of hA rfl
    | refine br_of hA (fun _ => ?_) (fun _ => ?_)
    | exact imp_of hA id
    | (refine imp_of hA ?_; subst hA; simp only [real, Bool.true_and]; exact id)
    | (refine ind_of hA ?_; decide +kernel)
    | (refine call_ex hA hM (c_InOk j c) (fun _ _ => ?_); cbv)
  rename_i b1 hb1
  refine congrArg (fun b => XA.one (.c (.d (eB b)))) (Bool.eq_iff_iff.2 ?_)
  subst hA
  rw [hb, ← hb1]
  simp [real]
open Classical in
set_option maxRecDepth 100000 in
theorem c_TskOk (j : JobT) (t : TskT) (hbd : t.ins.n ≤ 1048576) : ∃ b, (b = true ↔ TskOkP j t) ∧ Meets Tryz.prog 77 [xd (eJob j), xd (eTsk t)] ⟨.one (.c (.d (eB b))), [none, none]⟩ := by
  obtain ⟨b, hb⟩ : ∃ b : Bool, (b = true ↔ TskOkP j t) := ⟨decide (TskOkP j t), by rw [decide_eq_true_eq]⟩
  refine ⟨b, hb, ?_⟩
  obtain ⟨x, hx⟩ := lowP_ex 1000 t.ins.n (fun i => (t.ins.g i).mark)
  have hlow := c_TskLow t hbd x hx
  obtain ⟨c, hc, hheld⟩ := c_TskHeld t
  have hcon := c_ContainsTskIn1 t.ins.n t.ins.hn t.ins.g 127 (.p (eJob j)) _ (c_notIn j)
  refine meets_of (H := []) (EX := EXA) ttok mixed Tryz.func77 rfl (by kernel_rfl) (by decide) ?_
  generalize hA : real = A
  generalize hM : Meets Tryz.prog = M
  cbv
  repeat' first
    | apply And.intro
    | exact True.intro
    | with_reducible rfl
    | exact same_of hA rfl
    | refine br_of hA (fun _ => ?_) (fun _ => ?_)
    | exact imp_of hA id
    | (refine imp_of hA ?_; subst hA; simp only [real, Bool.true_and]; exact id)
    | (refine ind_of hA ?_; decide +kernel)
    | (refine call_of hA hM _ hheld ?_; cbv)
    | (refine call_of hA hM _ hlow ?_; cbv)
    | (refine call_ex hA hM (c_in _ _ _) (fun _ _ => ?_); cbv)
    | (refine call_ex hA hM (c_OpOk j t.op) (fun _ _ => ?_); cbv)
    | (refine call_ex hA hM hcon (fun _ _ => ?_); cbv)
    | (refine call_ex hA hM (c_TxnOk t.pend) (fun _ _ => ?_); cbv)
  · rename_i b1 hb1 b2 hb2 hbad
    refine congrArg (fun b => XA.one (.c (.d (eB b)))) ?_
    subst hA
    simp only [real, bifA, bifB, bifC, bifD, beqB, decide_eq_true_eq, decide_eq_false_iff_not, beqI, bneI, beqIF, bneIF, ne_eq, Classical.not_not, Bool.and_eq_true, Bool.or_eq_true, Bool.not_eq_true', Bool.not_eq_false', Bool.and_eq_false_iff, Bool.or_eq_false_iff, Bool.false_eq_true, and_false, false_and, or_false, false_or, and_true, true_and, not_true_eq_false, not_false_eq_true, true_iff, false_iff, Int.ofNat_eq_natCast, Int.toNat_natCast] at hbad
    have hbad : (b1 = false ∨ ¬ (t.ins.n : Int) = j.srcs) ∨ b2 = true := hbad
    cases b with
    | false => rfl
    | true =>
      exfalso
      have h := hb.1 rfl
      rcases hbad with (h1 | h1) | h1
      · have := hb1.2 h.1
        rw [h1] at this; cases this
      · exact h1 h.2.1
      · obtain ⟨i, hi, hh⟩ := hb2.1 h1
        exact hh (h.2.2.2.2.2.1 i hi)
  rename_i b1 hb1 b2 hb2 hgood b3 hb3 b4 hb4
  refine congrArg (fun b => XA.one (.c (.d (eB b)))) (Bool.eq_iff_iff.2 ?_)
  have e2 := nex hb2
  subst hA; subst hb3
  rw [hb]
  simp only [real, bifA, bifB, bifC, bifD, beqB, decide_eq_true_eq, decide_eq_false_iff_not, beqI, bneI, beqIF, bneIF, ne_eq, Classical.not_not, Bool.and_eq_true, Bool.or_eq_true, Bool.not_eq_true', Bool.not_eq_false', Bool.and_eq_false_iff, Bool.or_eq_false_iff, Bool.false_eq_true, and_false, false_and, or_false, false_or, and_true, true_and, not_true_eq_false, not_false_eq_true, true_iff, false_iff, Int.ofNat_eq_natCast, Int.toNat_natCast] at hgood
  have hgood : (b1 = true ∧ (t.ins.n : Int) = j.srcs) ∧ b2 = false := hgood
  simp only [real, bifA, bifB, bifC, bifD, beqB, decide_eq_true_eq, decide_eq_false_iff_not, beqI, bneI, beqIF, bneIF, ne_eq, Bool.and_eq_true, Bool.or_eq_true, Bool.not_eq_true', Bool.not_eq_false', Bool.and_eq_false_iff, Bool.or_eq_false_iff, Bool.false_eq_true, and_false, false_and, or_false, false_or, and_true, true_and, not_true_eq_false, not_false_eq_true, true_iff, false_iff, Int.ofNat_eq_natCast, Int.toNat_natCast]
  rw [hb4]
  constructor
  · rintro ⟨⟨⟨⟨h1, h2⟩, h3⟩, h4⟩, h5⟩
    have h1 : c < (t.ins.n : Int) := h1
    have h3 : t.op.mark = x := h3
    exact ⟨hb1.1 hgood.1.1, hgood.1.2, h2, h5, h4, e2.1 hgood.2, (show cntB (fun i => (t.ins.g i).held) t.ins.n < t.ins.n by have h9 := h1; rw [hc] at h9; exact Int.ofNat_lt.1 h9), (show LowP 1000 t.ins.n (fun i => (t.ins.g i).mark) t.op.mark by rw [h3]; exact hx)⟩
  · intro h
    have h1 : cntB (fun i => (t.ins.g i).held) t.ins.n < t.ins.n := h.2.2.2.2.2.2.1
    exact ⟨⟨⟨⟨(show c < (t.ins.n : Int) by rw [hc]; exact Int.ofNat_lt.2 h1), h.2.2.1⟩, lowP_one h.2.2.2.2.2.2.2 hx⟩, h.2.2.2.2.1⟩, h.2.2.2.1⟩
end Go.Rk
