/- Tables: put. -/
import Derived.Test.YtbkpfnddpnccmaaTA20
import Derived.Test.YtbkpfnddpnccmaaDTb
import Derived.Test.YtbkpfnddpnccmaaDDr
import Derived.Test.YtbkpfnddpnccmaaRk28
import Derived.Test.YtbkpfnddpnccmaaRk29
import Derived.Test.YtbkpfnddpnccmaaTI4
namespace Go.Rk
set_option linter.unusedSimpArgs false
set_option linter.unusedVariables false
open Go.Proofs
set_option maxRecDepth 100000
set_option maxHeartbeats 1000000
open Classical in
set_option maxRecDepth 100000 in
theorem c_Put1 (s r : TabT) : ∃ b, (b = true ↔ Ahead r s) ∧ Meets Try.prog 89 [xd (eTab s), .c (.d (.p (eTab r)))] ⟨.one (.c (.d (eB b))), [none, none]⟩ := by
  obtain ⟨b, hb⟩ : ∃ b, b = decide (Ahead r s) := ⟨_, rfl⟩
  refine ⟨b, by rw [hb, decide_eq_true_eq], ?_⟩
  refine meets_of (H := []) (EX := EXA) ttok mixed Try.func89 rfl (by kernel_rfl) (by decide) ?_
  generalize hA : real = A
  generalize hM : Meets Try.prog = M
  cbv
  repeat' first
    | apply And.intro
    | exact True.intro
    | with_reducible rfl
    | exact same_of hA rfl
    | refine br_of hA (fun _ => ?_) (fun _ => ?_)
    | exact imp_of hA id
    | (refine imp_of hA ?_; subst hA; simp only [real, Bool.true_and]; exact id)
    | (refine ind_of hA ?_; decide +kernel)
    | (refine call_ex hA hM (c_tcompare _ _) (fun _ _ => ?_); cbv)
  all_goals obtain ⟨k, ⟨s, e⟩, ag⟩ := s; obtain ⟨k2, ⟨s2, e2⟩, ag2⟩ := r
  all_goals subst hA
  all_goals refine congrArg (fun b => XA.one (.c (.d (eB b)))) (Bool.eq_iff_iff.2 ?_)
  all_goals subst_vars
  all_goals simp only [real, bifA, bifB, bifC, bifD, beqB, decide_eq_true_eq, decide_eq_false_iff_not, beqI, bneI, beqIF, bneIF, ne_eq, Bool.and_eq_true, Bool.or_eq_true, Bool.not_eq_true', Bool.not_eq_false', Bool.and_eq_false_iff, Bool.or_eq_false_iff, Bool.false_eq_true, and_false, false_and, or_false, false_or, and_true, true_and, not_true_eq_false, not_false_eq_true, true_iff, false_iff, IntKind.wrap_i64, Ahead, WinOkP, AggOkP] at *
  all_goals first | omega | exact (@decide_eq_true_iff _ _).symm | (refine Iff.trans ?_ (@decide_eq_true_iff _ _).symm; omega)
def stIxTab1 (n : Nat) (g : Nat → TabT) (F : FuncId) (c0 : DV) (i : Nat) : St := ⟨[(8, .c (.d (eI i))), (7, .c (.d (eI n))), (0, .c (.d (.sl 7 n fun i => eTab (g i)))), (1, .c (.d (.fn F [c0])))], []⟩
set_option maxRecDepth 100000 in
theorem c_IndexTab1 (n : Nat) (hn : n ≤ maxLen) (g : Nat → TabT) (F : FuncId) (c0 : DV) (Q : TabT → Prop) (hc : ∀ r, ∃ b, (b = true ↔ Q r) ∧ Meets Try.prog F [xd (eTab r), .c (.d c0)] ⟨.one (.c (.d (eB b))), [none, none]⟩) : ∃ x, FirstIx n (fun i => Q (g i)) x ∧ Meets Try.prog 88 [.c (.d (.sl 7 n fun i => eTab (g i))), .c (.d (.fn F [c0]))] ⟨.one (.c (.d (eI x))), [none, none]⟩ := by
  obtain ⟨x, hx⟩ := firstIx_ex n fun i => Q (g i)
  refine ⟨x, hx, ?_⟩
  refine meets_of (H := []) (EX := EXA) ttok mixed Try.func88 rfl (by kernel_rfl) (by decide) ?_
  generalize hA : real = A
  generalize hM : Meets Try.prog = M
  cbv
  repeat' first
    | apply And.intro
    | exact True.intro
    | with_reducible rfl
    | exact same_of hA rfl
    | refine br_of hA (fun _ => ?_) (fun _ => ?_)
    | exact imp_of hA id
    | (refine imp_of hA ?_; subst hA; simp only [real, Bool.true_and]; exact id)
    | (refine ind_of hA ?_; decide +kernel)
  refine loop_of hA (α := { i : Nat // i ≤ n ∧ ∀ j, j < i → ¬ Q (g j) }) (fun x => stIxTab1 n g F c0 x.1) (fun x => n - x.1) ⟨0, Nat.zero_le _, fun j h => absurd h (Nat.not_lt_zero _)⟩ ?_ ?_
  · refine cov_of ?_ ?_ ?_
    · cbv; subst hA; exact ⟨rfl, rfl, trivial⟩
    · cbv
    · cbv
  rintro ⟨i, hi, hb⟩
  cbv
  repeat' first
    | apply And.intro
    | exact True.intro
    | with_reducible rfl
    | exact same_of hA rfl
    | refine br_of hA (fun _ => ?_) (fun _ => ?_)
    | exact imp_of hA id
    | (refine imp_of hA ?_; subst hA; simp only [real, Bool.true_and]; exact id)
    | (refine ind_of hA ?_; decide +kernel)
    | (refine inb_of hA fun _ => ?_; subst hA; simp only [real, decide_eq_true_eq, Int.ofNat_eq_natCast] at *; omega)
  · refine call_ex hA hM (hc (g (A.nat (Int.ofNat i)))) (fun b hbb => ?_)
    cbv
    repeat' first
      | apply And.intro
      | exact True.intro
      | with_reducible rfl
      | exact same_of hA rfl
      | refine br_of hA (fun _ => ?_) (fun _ => ?_)
      | exact imp_of hA id
      | (refine imp_of hA ?_; subst hA; simp only [real, Bool.true_and]; exact id)
      | (refine ind_of hA ?_; decide +kernel)
    · rename_i hlt ht
      subst hA
      simp only [real, decide_eq_true_eq, Int.ofNat_eq_natCast, Int.toNat_natCast] at *
      obtain rfl := firstIx_one hx (.at i (by omega) (hbb.1 ht) hb)
      rfl
    · rename_i hlt ht
      have hlt' : i < n := by subst hA; simp only [real, decide_eq_true_eq, Int.ofNat_eq_natCast] at hlt; omega
      refine ⟨⟨i + 1, by omega, fun j hj => ?_⟩, by simp only; omega, cov_of ?_ ?_ ?_⟩
      · by_cases e : j = i
        · subst e
          subst hA
          intro hq
          have := hbb.2 hq
          rw [ht] at this
          cases this
        · exact hb j (by omega)
      · cbv
        subst hA
        exact ⟨congrArg (fun x => DV.v (.int .i64 x)) (up64 hlt' hn), trivial⟩
      · cbv
      · cbv
  · subst hA
    simp only [real, decide_eq_false_iff_not, Int.ofNat_eq_natCast] at *
    obtain rfl := firstIx_one hx (.none fun j hj => hb j (by omega))
    rfl
theorem flat_tab {A : Ar} (hA : real = A) (n : Nat) (G : Nat → TabT) : A.flat n (fun i => eTab (G i)) := by
  subst hA
  intro i _ x hx
  simp only [eTab, List.mem_cons, List.not_mem_nil, or_false] at hx
  rcases hx with rfl | rfl | rfl | rfl | rfl | rfl | rfl <;> exact ⟨_, rfl⟩
def EXI : FuncId → List Nat × Bool := fun f => (if f = 91 then [0, 2] else [], false)
theorem c_Put (l : List TabT) (n : Nat) (g : Nat → TabT) (hl : Lst zTab l n g) (hn : n ≤ 1090000) (r : TabT) (n1 : Nat) (G : Nat → TabT) (h1 : Lst zTab (tPut r l) n1 G) : Meets Try.prog 41 [.c (.d (.sl 7 n fun i => eTab (g i))), xd (eTab r)] ⟨.one (.c (.own 7 n1 fun i => eTab (G i))), [none, none]⟩ := by
  obtain ⟨n0, hn0⟩ : ∃ n0, n0 = (tOut r.key r.win l).length := ⟨_, rfl⟩
  obtain ⟨G0, hG0⟩ : ∃ G0 : Nat → TabT, G0 = fun k => (tOut r.key r.win l).getD k zTab := ⟨_, rfl⟩
  have h0 : Lst zTab (tOut r.key r.win l) n0 G0 := ⟨hn0, fun k _ => by rw [hG0]⟩
  have hn0n : n0 ≤ n := by rw [hn0, hl.1]; exact tOut_len _ _ _
  have hO := c_Out l n g hl (by omega) r.key r.win n0 G0 h0
  obtain ⟨x, hx, hX⟩ := c_IndexTab1 n0 (Nat.le_trans (show n0 ≤ 1090000 by omega) (by decide)) G0 89 (.p (eTab r)) (Ahead r) (fun s => c_Put1 s r)
  have hxx := firstIx_neg hx
  obtain ⟨i, hi⟩ : ∃ i : Nat, i = if 0 ≤ x then x.toNat else n0 := ⟨_, rfl⟩
  have hi2 : i ≤ n0 ∧ (∀ k, k < i → ¬ Ahead r (G0 k)) ∧ (i < n0 → Ahead r (G0 i)) ∧ (0 ≤ x → x = (i : Int)) ∧ (¬ 0 ≤ x → i = n0) := by
    by_cases h : 0 ≤ x
    · rw [if_pos h] at hi
      obtain ⟨q, hq1, hq2, hq3, hq4⟩ := hxx.2.1 h
      have e : i = q := by rw [hi, hq2]; rfl
      rw [e]
      exact ⟨by omega, hq4, fun _ => hq3, fun _ => hq2, fun hc => absurd h hc⟩
    · rw [if_neg h] at hi
      rw [hi]
      refine ⟨Nat.le_refl _, fun k hk ha => h (hxx.1.2 ⟨k, hk, ha⟩), fun hc => absurd hc (Nat.lt_irrefl _), fun hc => absurd hc h, fun _ => rfl⟩
  obtain ⟨hi0, ha, hb, hx1, hx2⟩ := hi2
  obtain ⟨e1, hG⟩ := tIns_lst h0 h1 hi0 ha hb
  have hIn : ∀ row1 : Nat → List DV, row1 0 = eTab r → Meets Try.prog 91 [.c (.own 7 n0 fun k => eTab (G0 k)), .c (.d (eI i)), .c (.own 7 1 row1)] ⟨.one (.c (.own 7 n1 fun k => eTab (G k))), [none, none, none]⟩ := fun row1 hr1 => by
    rw [e1]
    refine c_Insert n0 i (by omega) hi0 _ row1 _ fun k hk => ?_
    show eTab (G k) = _
    rw [hG k hk]
    split
    · rfl
    · split
      · exact hr1.symm
      · rfl
  refine meets_of (H := []) (EX := EXI) ttok mixed Try.func41 rfl (by kernel_rfl) (by decide) ?_
  generalize hA : real = A
  generalize hM : Meets Try.prog = M
  cbv
  repeat' first
    | apply And.intro
    | exact True.intro
    | with_reducible rfl
    | exact same_of hA rfl
    | refine br_of hA (fun _ => ?_) (fun _ => ?_)
    | exact imp_of hA id
    | (refine imp_of hA ?_; subst hA; simp only [real, Bool.true_and]; exact id)
    | (refine ind_of hA ?_; decide +kernel)
    | (refine call_of hA hM _ hO ?_; cbv)
    | exact flat_tab hA _ _
    | (refine call_of2 hA hM _ hX (congrArg (fun f => [XT.c (.d (.sl 7 n0 f)), XT.c (.d (.fn 89 [.p (eTab r)]))]) (sub0 hA fun i => eTab (G0 i))) ?_; cbv)
  · rename_i hneg
    have hin : i = n0 := hx2 (by subst hA; exact Int.not_le.2 (of_decide_eq_true (show decide (x < 0) = true from hneg)))
    refine call_of2 hA hM _ (hIn _ ?_) (congrArg (fun z => [XT.c (.own 7 n0 fun k => eTab (G0 k)), XT.c (.d (eI z)), XT.c (.own 7 1 (A.app 1 (A.rep (eTab r)) (A.rep (eTab zTab))))]) (show A.int n0 = (i : Int) by subst hA; rw [hin]; rfl)) ?_
    · subst hA; rfl
    cbv
    repeat' first
      | apply And.intro
      | exact True.intro
      | with_reducible rfl
      | exact same_of hA rfl
      | refine br_of hA (fun _ => ?_) (fun _ => ?_)
      | exact imp_of hA id
      | (refine imp_of hA ?_; subst hA; simp only [real, Bool.true_and]; exact id)
      | (refine ind_of hA ?_; decide +kernel)
  · rename_i hneg
    have hin : x = (i : Int) := hx1 (by subst hA; exact Int.not_lt.1 (of_decide_eq_false (show decide (x < 0) = false from hneg)))
    refine call_of2 hA hM _ (hIn _ ?_) (congrArg (fun z => [XT.c (.own 7 n0 fun k => eTab (G0 k)), XT.c (.d (eI z)), XT.c (.own 7 1 (A.app 1 (A.rep (eTab r)) (A.rep (eTab zTab))))]) hin) ?_
    · subst hA; rfl
    cbv
    repeat' first
      | apply And.intro
      | exact True.intro
      | with_reducible rfl
      | exact same_of hA rfl
      | refine br_of hA (fun _ => ?_) (fun _ => ?_)
      | exact imp_of hA id
      | (refine imp_of hA ?_; subst hA; simp only [real, Bool.true_and]; exact id)
      | (refine ind_of hA ?_; decide +kernel)
end Go.Rk
