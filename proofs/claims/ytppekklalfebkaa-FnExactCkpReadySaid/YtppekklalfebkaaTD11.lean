/- Whether all have told. -/
import Derived.Test.YtppekklalfebkaaTD9
namespace Go.Rk
set_option linter.unusedSimpArgs false
set_option linter.unusedVariables false
open Go.Proofs
def stIvint (n : Nat) (g : Nat → Int) (v : Int) (i : Nat) : St := ⟨[(8, .c (.d (eI i))), (7, .c (.d (eI n))), (0, .c (.d (.sl 1 n fun i => [eI (g i)]))), (1, .c (.d (eI v)))], []⟩
set_option maxRecDepth 100000 in
theorem c_IndexVint (n : Nat) (hn : n ≤ maxLen) (g : Nat → Int) (v : Int) : ∃ x, FirstIx n (fun i => v = g i) x ∧ Meets Try.prog 97 [.c (.d (.sl 1 n fun i => [eI (g i)])), .c (.d (eI v))] ⟨.one (.c (.d (eI x))), [none, none]⟩ := by
  obtain ⟨x, hx⟩ := firstIx_ex n fun i => v = g i
  refine ⟨x, hx, ?_⟩
  refine meets_of (H := []) (EX := EXA) ttok mixed Try.func97 rfl (by kernel_rfl) (by decide) ?_
  generalize hA : real = A
  generalize hM : Meets Try.prog = M
  cbv
  repeat' first
    | apply And.intro
    | exact True.intro
    | with_reducible rfl
    | exact same_of hA rfl
    | refine br_of hA (fun _ => ?_) (fun _ => ?_)
    | exact imp_of hA id
    | (refine imp_of hA ?_; subst hA; simp only [real, Bool.true_and]; exact id)
    | (refine ind_of hA ?_; decide +kernel)
  refine loop_of hA (α := { i : Nat // i ≤ n ∧ ∀ j, j < i → ¬ (v = g j) }) (fun x => stIvint n g v x.1) (fun x => n - x.1) ⟨0, Nat.zero_le _, fun j h => absurd h (Nat.not_lt_zero _)⟩ ?_ ?_
  · refine cov_of ?_ ?_ ?_
    · cbv; try (subst hA; repeat' first | apply And.intro | exact True.intro | rfl)
    · cbv; try (subst hA; repeat' first | apply And.intro | exact True.intro | rfl)
    · cbv
  rintro ⟨i, hi, hb⟩
  cbv
  repeat' first
    | apply And.intro
    | exact True.intro
    | with_reducible rfl
    | exact same_of hA rfl
    | refine br_of hA (fun _ => ?_) (fun _ => ?_)
    | exact imp_of hA id
    | (refine imp_of hA ?_; subst hA; simp only [real, Bool.true_and]; exact id)
    | (refine ind_of hA ?_; decide +kernel)
    | (refine inb_of hA fun _ => ?_; subst hA; simp only [real, Bool.and_eq_true, Bool.not_eq_true', Bool.not_eq_false', decide_eq_true_eq, Int.ofNat_eq_natCast, IntKind.wrap_i64] at *; omega)
  · rename_i hlt ht
    subst hA
    have ht : (v == g i) = true := ht
    have ht : v = g i := by simpa using ht
    have hlt' : i < n := by simp only [real, decide_eq_true_eq, Int.ofNat_eq_natCast] at hlt; omega
    obtain rfl := firstIx_one hx (.at i hlt' ht hb)
    rfl
  · rename_i hlt ht
    have hlt' : i < n := by subst hA; simp only [real, decide_eq_true_eq, Int.ofNat_eq_natCast] at hlt; omega
    have ht : ¬ (v = g i) := by
      subst hA
      have ht : (v == g i) = false := ht
      simpa using ht
    refine ⟨⟨i + 1, by omega, fun j hj => ?_⟩, by simp only; omega, cov_of ?_ ?_ ?_⟩
    · by_cases e : j = i
      · rw [e]; exact ht
      · exact hb j (by omega)
    · cbv
      subst hA
      repeat' first | apply And.intro | exact True.intro | exact congrArg (fun x => DV.v (.int .i64 x)) (up64 hlt' hn) | rfl | (intro k hk; exact push_at rfl _ _ _ _ k hk)
    · cbv
    · cbv
  · rename_i hge
    have hin : i = n := by
      subst hA
      simp only [real, decide_eq_false_iff_not, Int.ofNat_eq_natCast] at hge
      omega
    subst hin
    obtain rfl := firstIx_one hx (.none hb)
    rfl
set_option maxRecDepth 100000 in
theorem c_ContainsVint (n : Nat) (hn : n ≤ maxLen) (g : Nat → Int) (v : Int) : ∃ b, (b = true ↔ ∃ i, i < n ∧ v = g i) ∧ Meets Try.prog 78 [.c (.d (.sl 1 n fun i => [eI (g i)])), .c (.d (eI v))] ⟨.one (.c (.d (eB b))), [none, none]⟩ := by
  obtain ⟨x, hx, hm⟩ := c_IndexVint n hn g v
  obtain ⟨b, hb⟩ : ∃ b, b = decide (0 ≤ x) := ⟨_, rfl⟩
  have hxx := firstIx_neg hx
  refine ⟨b, by rw [hb, decide_eq_true_eq]; exact hxx.1, ?_⟩
  refine meets_of (H := []) (EX := EXA) ttok mixed Try.func78 rfl (by kernel_rfl) (by decide) ?_
  generalize hA : real = A
  generalize hM : Meets Try.prog = M
  cbv
  repeat' first
    | apply And.intro
    | exact True.intro
    | with_reducible rfl
    | exact same_of hA rfl
    | refine br_of hA (fun _ => ?_) (fun _ => ?_)
    | exact imp_of hA id
    | (refine imp_of hA ?_; subst hA; simp only [real, Bool.true_and]; exact id)
    | (refine ind_of hA ?_; decide +kernel)
    | (refine call_of hA hM _ hm ?_; cbv)
  all_goals subst hA
  all_goals refine congrArg (fun b => XA.one (.c (.d (eB b)))) (Bool.eq_iff_iff.2 ?_)
  all_goals subst_vars
  all_goals try simp only [real, bifA, bifB, bifC, bifD, decide_eq_true_eq, decide_eq_false_iff_not, beq_iff_eq, bne_iff_ne, beq_eq_false_iff_ne, bne_eq_false_iff_eq, ne_eq, Bool.and_eq_true, Bool.or_eq_true, Bool.not_eq_true', Bool.not_eq_false', Bool.and_eq_false_iff, Bool.or_eq_false_iff, Bool.false_eq_true, and_false, false_and, or_false, false_or, and_true, true_and, not_true_eq_false, not_false_eq_true, true_iff, false_iff, IntKind.wrap_i64] at *
  all_goals first
    | omega
    | skip
def stIvbool (n : Nat) (g : Nat → Bool) (v : Bool) (i : Nat) : St := ⟨[(8, .c (.d (eI i))), (7, .c (.d (eI n))), (0, .c (.d (.sl 1 n fun i => [eB (g i)]))), (1, .c (.d (eB v)))], []⟩
set_option maxRecDepth 100000 in
theorem c_IndexVbool (n : Nat) (hn : n ≤ maxLen) (g : Nat → Bool) (v : Bool) : ∃ x, FirstIx n (fun i => v = g i) x ∧ Meets Try.prog 98 [.c (.d (.sl 1 n fun i => [eB (g i)])), .c (.d (eB v))] ⟨.one (.c (.d (eI x))), [none, none]⟩ := by
  obtain ⟨x, hx⟩ := firstIx_ex n fun i => v = g i
  refine ⟨x, hx, ?_⟩
  refine meets_of (H := []) (EX := EXA) ttok mixed Try.func98 rfl (by kernel_rfl) (by decide) ?_
  generalize hA : real = A
  generalize hM : Meets Try.prog = M
  cbv
  repeat' first
    | apply And.intro
    | exact True.intro
    | with_reducible rfl
    | exact same_of hA rfl
    | refine br_of hA (fun _ => ?_) (fun _ => ?_)
    | exact imp_of hA id
    | (refine imp_of hA ?_; subst hA; simp only [real, Bool.true_and]; exact id)
    | (refine ind_of hA ?_; decide +kernel)
  refine loop_of hA (α := { i : Nat // i ≤ n ∧ ∀ j, j < i → ¬ (v = g j) }) (fun x => stIvbool n g v x.1) (fun x => n - x.1) ⟨0, Nat.zero_le _, fun j h => absurd h (Nat.not_lt_zero _)⟩ ?_ ?_
  · refine cov_of ?_ ?_ ?_
    · cbv; try (subst hA; repeat' first | apply And.intro | exact True.intro | rfl)
    · cbv; try (subst hA; repeat' first | apply And.intro | exact True.intro | rfl)
    · cbv
  rintro ⟨i, hi, hb⟩
  cbv
  repeat' first
    | apply And.intro
    | exact True.intro
    | with_reducible rfl
    | exact same_of hA rfl
    | refine br_of hA (fun _ => ?_) (fun _ => ?_)
    | exact imp_of hA id
    | (refine imp_of hA ?_; subst hA; simp only [real, Bool.true_and]; exact id)
    | (refine ind_of hA ?_; decide +kernel)
    | (refine inb_of hA fun _ => ?_; subst hA; simp only [real, Bool.and_eq_true, Bool.not_eq_true', Bool.not_eq_false', decide_eq_true_eq, Int.ofNat_eq_natCast, IntKind.wrap_i64] at *; omega)
  · rename_i hlt ht
    subst hA
    have ht : (v == g i) = true := ht
    have ht : v = g i := by simpa using ht
    have hlt' : i < n := by simp only [real, decide_eq_true_eq, Int.ofNat_eq_natCast] at hlt; omega
    obtain rfl := firstIx_one hx (.at i hlt' ht hb)
    rfl
  · rename_i hlt ht
    have hlt' : i < n := by subst hA; simp only [real, decide_eq_true_eq, Int.ofNat_eq_natCast] at hlt; omega
    have ht : ¬ (v = g i) := by
      subst hA
      have ht : (v == g i) = false := ht
      simpa using ht
    refine ⟨⟨i + 1, by omega, fun j hj => ?_⟩, by simp only; omega, cov_of ?_ ?_ ?_⟩
    · by_cases e : j = i
      · rw [e]; exact ht
      · exact hb j (by omega)
    · cbv
      subst hA
      repeat' first | apply And.intro | exact True.intro | exact congrArg (fun x => DV.v (.int .i64 x)) (up64 hlt' hn) | rfl | (intro k hk; exact push_at rfl _ _ _ _ k hk)
    · cbv
    · cbv
  · rename_i hge
    have hin : i = n := by
      subst hA
      simp only [real, decide_eq_false_iff_not, Int.ofNat_eq_natCast] at hge
      omega
    subst hin
    obtain rfl := firstIx_one hx (.none hb)
    rfl
set_option maxRecDepth 100000 in
theorem c_ContainsVbool (n : Nat) (hn : n ≤ maxLen) (g : Nat → Bool) (v : Bool) : ∃ b, (b = true ↔ ∃ i, i < n ∧ v = g i) ∧ Meets Try.prog 79 [.c (.d (.sl 1 n fun i => [eB (g i)])), .c (.d (eB v))] ⟨.one (.c (.d (eB b))), [none, none]⟩ := by
  obtain ⟨x, hx, hm⟩ := c_IndexVbool n hn g v
  obtain ⟨b, hb⟩ : ∃ b, b = decide (0 ≤ x) := ⟨_, rfl⟩
  have hxx := firstIx_neg hx
  refine ⟨b, by rw [hb, decide_eq_true_eq]; exact hxx.1, ?_⟩
  refine meets_of (H := []) (EX := EXA) ttok mixed Try.func79 rfl (by kernel_rfl) (by decide) ?_
  generalize hA : real = A
  generalize hM : Meets Try.prog = M
  cbv
  repeat' first
    | apply And.intro
    | exact True.intro
    | with_reducible rfl
    | exact same_of hA rfl
    | refine br_of hA (fun _ => ?_) (fun _ => ?_)
    | exact imp_of hA id
    | (refine imp_of hA ?_; subst hA; simp only [real, Bool.true_and]; exact id)
    | (refine ind_of hA ?_; decide +kernel)
    | (refine call_of hA hM _ hm ?_; cbv)
  all_goals subst hA
  all_goals refine congrArg (fun b => XA.one (.c (.d (eB b)))) (Bool.eq_iff_iff.2 ?_)
  all_goals subst_vars
  all_goals try simp only [real, bifA, bifB, bifC, bifD, decide_eq_true_eq, decide_eq_false_iff_not, beq_iff_eq, bne_iff_ne, beq_eq_false_iff_ne, bne_eq_false_iff_eq, ne_eq, Bool.and_eq_true, Bool.or_eq_true, Bool.not_eq_true', Bool.not_eq_false', Bool.and_eq_false_iff, Bool.or_eq_false_iff, Bool.false_eq_true, and_false, false_and, or_false, false_or, and_true, true_and, not_true_eq_false, not_false_eq_true, true_iff, false_iff, IntKind.wrap_i64] at *
  all_goals first
    | omega
    | skip
open Classical in
set_option maxRecDepth 100000 in
theorem c_readyD (c : CkpT) : ∃ b, (b = true ↔ ReadyP c) ∧ Meets Try.prog 39 [.c (.d (.p (eCkp c)))] ⟨.one (.c (.d (eB b))), [none]⟩ := by
  obtain ⟨b, hb⟩ : ∃ b : Bool, (b = true ↔ ReadyP c) := ⟨decide (ReadyP c), by rw [decide_eq_true_eq]⟩
  refine ⟨b, hb, ?_⟩
  refine meets_of (H := []) (EX := EXA) ttok mixed Try.func39 rfl (by kernel_rfl) (by decide) ?_
  generalize hA : real = A
  generalize hM : Meets Try.prog = M
  cbv
  repeat' first
    | apply And.intro
    | exact True.intro
    | with_reducible rfl
    | exact same_of hA rfl
    | refine br_of hA (fun _ => ?_) (fun _ => ?_)
    | exact imp_of hA id
    | (refine imp_of hA ?_; subst hA; simp only [real, Bool.true_and]; exact id)
    | (refine ind_of hA ?_; decide +kernel)
    | (refine call_ex hA hM (c_ContainsVint c.src.n c.src.hn c.src.g (-1)) (fun _ _ => ?_); cbv)
    | (refine call_ex hA hM (c_ContainsVbool c.tsk.n c.tsk.hn c.tsk.g false) (fun _ _ => ?_); cbv)
  rename_i b1 hb1 b2 hb2
  refine congrArg (fun b => XA.one (.c (.d (eB b)))) (Bool.eq_iff_iff.2 ?_)
  subst hA
  rw [hb]
  simp only [real, bifA, bifB, bifC, bifD, beqB, decide_eq_true_eq, decide_eq_false_iff_not, beqI, bneI, beqIF, bneIF, ne_eq, Bool.and_eq_true, Bool.or_eq_true, Bool.not_eq_true', Bool.not_eq_false', Bool.and_eq_false_iff, Bool.or_eq_false_iff, Bool.false_eq_true, and_false, false_and, or_false, false_or, and_true, true_and, not_true_eq_false, not_false_eq_true, true_iff, false_iff, Int.ofNat_eq_natCast, Int.toNat_natCast]
  unfold ReadyP
  rw [← Bool.not_eq_true b1, hb1, ← Bool.not_eq_true b2, hb2]
  constructor
  · rintro ⟨⟨h1, h2⟩, h3⟩
    refine ⟨h1, fun i hi e => h2 ⟨i, hi, e.symm⟩, fun i hi => ?_⟩
    cases e : c.tsk.g i with
    | true => rfl
    | false => exact absurd ⟨i, hi, e.symm⟩ h3
  · rintro ⟨h1, h2, h3⟩
    exact ⟨⟨h1, fun ⟨i, hi, e⟩ => h2 i hi e.symm⟩, fun ⟨i, hi, e⟩ => by rw [h3 i hi] at e; cases e⟩
def st_rd0 (cn : Int) (opn : Bool) (n1 : Nat) (g1 : Nat → Int) (hn1 : n1 ≤ maxLen) (n2 : Nat) (g2 : Nat → Bool) (hn2 : n2 ≤ maxLen) (n3 : Nat) (g3 : Nat → SnapT) (hn3 : n3 ≤ maxLen) (safe : SafeT) (i : Nat) : St := ⟨[(3, .c (.d (eI i))), (1, .c (.bp 64 1 0))], [(64, 1, .box ((eCkp ⟨cn, opn, ⟨n1, g1, hn1⟩, ⟨n2, g2, hn2⟩, ⟨n3, g3, hn3⟩, safe⟩).map .d))]⟩
def st_rd1 (cn : Int) (opn : Bool) (n1 : Nat) (g1 : Nat → Int) (hn1 : n1 ≤ maxLen) (n2 : Nat) (g2 : Nat → Bool) (hn2 : n2 ≤ maxLen) (n3 : Nat) (g3 : Nat → SnapT) (hn3 : n3 ≤ maxLen) (safe : SafeT) (i : Nat) : St := ⟨[(4, .c (.d (eI i))), (1, .c (.bp 64 1 0))], [(64, 1, .box ((eCkp ⟨cn, opn, ⟨n1, g1, hn1⟩, ⟨n2, g2, hn2⟩, ⟨n3, g3, hn3⟩, safe⟩).map .d))]⟩
open Classical in
set_option maxRecDepth 100000 in
theorem c_l9Ready (c : CkpT) (hok : ∀ i, i < c.src.n → -1 ≤ c.src.g i) : ∃ b, (b = true ↔ ReadyP c) ∧ Meets Try.prog 62 [xd (eCkp c)] ⟨.one (.c (.d (eB b))), [none]⟩ := by
  obtain ⟨b, hb⟩ : ∃ b : Bool, (b = true ↔ ReadyP c) := ⟨decide (ReadyP c), by rw [decide_eq_true_eq]⟩
  refine ⟨b, hb, ?_⟩
  obtain ⟨cn, opn, ⟨n1, g1, hn1⟩, ⟨n2, g2, hn2⟩, ⟨n3, g3, hn3⟩, safe⟩ := c
  have hok : ∀ i, i < n1 → -1 ≤ g1 i := hok
  refine meets_of (H := []) (EX := EXA) ttok mixed Try.func62 rfl (by kernel_rfl) (by decide) ?_
  generalize hA : real = A
  generalize hM : Meets Try.prog = M
  cbv
  repeat' first
    | apply And.intro
    | exact True.intro
    | with_reducible rfl
    | exact same_of hA rfl
    | refine br_of hA (fun _ => ?_) (fun _ => ?_)
    | exact imp_of hA id
    | (refine imp_of hA ?_; subst hA; simp only [real, Bool.true_and]; exact id)
    | (refine ind_of hA ?_; decide +kernel)
  refine loop_of hA (α := { i : Nat // i ≤ n1 ∧ ∀ k, k < i → g1 k ≠ -1 }) (fun x => st_rd0 cn opn n1 g1 hn1 n2 g2 hn2 n3 g3 hn3 safe x.1) (fun x => n1 - x.1) ⟨0, Nat.zero_le _, fun k h => absurd h (Nat.not_lt_zero k)⟩ ?_ ?_
  · refine cov_of ?_ ?_ ?_
    · cbv; try (subst hA; repeat' first | apply And.intro | exact True.intro | rfl)
    · cbv; try (subst hA; repeat' first | apply And.intro | exact True.intro | rfl)
    · cbv
  rintro ⟨i, hi, hk⟩
  cbv
  repeat' first
    | apply And.intro
    | exact True.intro
    | with_reducible rfl
    | exact same_of hA rfl
    | refine br_of hA (fun _ => ?_) (fun _ => ?_)
    | exact imp_of hA id
    | (refine imp_of hA ?_; subst hA; simp only [real, Bool.true_and]; exact id)
    | (refine ind_of hA ?_; decide +kernel)
    | (refine inb_of hA fun _ => ?_; subst hA; simp only [real, Bool.and_eq_true, Bool.not_eq_true', Bool.not_eq_false', decide_eq_true_eq, Int.ofNat_eq_natCast, IntKind.wrap_i64] at *; omega)
  · rename_i hlt hc
    have hlt' : i < n1 := by subst hA; simp only [real, decide_eq_true_eq, Int.ofNat_eq_natCast] at hlt; omega
    have hq : ¬ (g1 i ≠ -1) := by
      subst hA
      have hc : g1 i < 0 := of_decide_eq_true hc
      have := hok i hlt'
      omega
    refine congrArg (fun b => XA.one (.c (.d (eB b)))) ?_
    cases b with
    | false => rfl
    | true =>
      exfalso
      exact hq ((hb.1 rfl).2.1 i hlt')
  · rename_i hlt hc
    have hlt' : i < n1 := by subst hA; simp only [real, decide_eq_true_eq, Int.ofNat_eq_natCast] at hlt; omega
    have hq : g1 i ≠ -1 := by
      subst hA
      have hc : ¬ g1 i < 0 := of_decide_eq_false hc
      omega
    refine ⟨⟨i + 1, by omega, fun k hk' => ?_⟩, by simp only; omega, cov_of ?_ ?_ ?_⟩
    · by_cases e : k = i
      · rw [e]; exact hq
      · exact hk k (by omega)
    · cbv
      subst hA
      repeat' first | apply And.intro | exact True.intro | exact congrArg (fun x => DV.v (.int .i64 x)) (up64 hlt' hn1) | rfl | (intro k hk; exact push_at rfl _ _ _ _ k hk)
    · cbv; try (subst hA; repeat' first | apply And.intro | exact True.intro | rfl)
    · cbv
  rename_i hge
  have hall : ∀ k, k < n1 → g1 k ≠ -1 := fun k hk' => hk k (by subst hA; simp only [real, decide_eq_false_iff_not, Int.ofNat_eq_natCast] at hge; omega)
  clear hk hi hge
  have hall1 := hall
  clear hall
  refine loop_of hA (α := { i : Nat // i ≤ n2 ∧ ∀ k, k < i → g2 k = true }) (fun x => st_rd1 cn opn n1 g1 hn1 n2 g2 hn2 n3 g3 hn3 safe x.1) (fun x => n2 - x.1) ⟨0, Nat.zero_le _, fun k h => absurd h (Nat.not_lt_zero k)⟩ ?_ ?_
  · refine cov_of ?_ ?_ ?_
    · cbv; try (subst hA; repeat' first | apply And.intro | exact True.intro | rfl)
    · cbv; try (subst hA; repeat' first | apply And.intro | exact True.intro | rfl)
    · cbv
  rintro ⟨i, hi, hk⟩
  cbv
  repeat' first
    | apply And.intro
    | exact True.intro
    | with_reducible rfl
    | exact same_of hA rfl
    | refine br_of hA (fun _ => ?_) (fun _ => ?_)
    | exact imp_of hA id
    | (refine imp_of hA ?_; subst hA; simp only [real, Bool.true_and]; exact id)
    | (refine ind_of hA ?_; decide +kernel)
    | (refine inb_of hA fun _ => ?_; subst hA; simp only [real, Bool.and_eq_true, Bool.not_eq_true', Bool.not_eq_false', decide_eq_true_eq, Int.ofNat_eq_natCast, IntKind.wrap_i64] at *; omega)
  · rename_i hlt hc
    have hlt' : i < n2 := by subst hA; simp only [real, decide_eq_true_eq, Int.ofNat_eq_natCast] at hlt; omega
    have hq : ¬ (g2 i = true) := by
      subst hA
      have hc : (!(g2 i)) = true := hc
      simpa using hc
    refine congrArg (fun b => XA.one (.c (.d (eB b)))) ?_
    cases b with
    | false => rfl
    | true =>
      exfalso
      exact hq ((hb.1 rfl).2.2 i hlt')
  · rename_i hlt hc
    have hlt' : i < n2 := by subst hA; simp only [real, decide_eq_true_eq, Int.ofNat_eq_natCast] at hlt; omega
    have hq : g2 i = true := by
      subst hA
      have hc : (!(g2 i)) = false := hc
      simpa using hc
    refine ⟨⟨i + 1, by omega, fun k hk' => ?_⟩, by simp only; omega, cov_of ?_ ?_ ?_⟩
    · by_cases e : k = i
      · rw [e]; exact hq
      · exact hk k (by omega)
    · cbv
      subst hA
      repeat' first | apply And.intro | exact True.intro | exact congrArg (fun x => DV.v (.int .i64 x)) (up64 hlt' hn2) | rfl | (intro k hk; exact push_at rfl _ _ _ _ k hk)
    · cbv; try (subst hA; repeat' first | apply And.intro | exact True.intro | rfl)
    · cbv
  rename_i hge
  have hall : ∀ k, k < n2 → g2 k = true := fun k hk' => hk k (by subst hA; simp only [real, decide_eq_false_iff_not, Int.ofNat_eq_natCast] at hge; omega)
  clear hk hi hge
  refine congrArg (fun b => XA.one (.c (.d (eB b)))) (Bool.eq_iff_iff.2 ?_)
  rw [hb]
  exact ⟨fun h => ⟨h, hall1, hall⟩, fun h => h.1⟩
def EXB : FuncId → List Nat × Bool := fun f => (if f = 39 then [0] else [], false)
open Classical in
set_option maxRecDepth 100000 in
theorem c_CkpReady (j : JobT) (c : CkpT) : ∃ b, (b = true ↔ CkpOkP j c ∧ ReadyP c) ∧ Meets Try.prog 15 [xd (eJob j), xd (eCkp c)] ⟨.one (.c (.d (eB b))), [none, none]⟩ := by
  obtain ⟨b, hb⟩ : ∃ b : Bool, (b = true ↔ CkpOkP j c ∧ ReadyP c) := ⟨decide (CkpOkP j c ∧ ReadyP c), by rw [decide_eq_true_eq]⟩
  refine ⟨b, hb, ?_⟩
  refine meets_of (H := []) (EX := EXB) ttok mixed Try.func15 rfl (by kernel_rfl) (by decide) ?_
  generalize hA : real = A
  generalize hM : Meets Try.prog = M
  cbv
  repeat' first
    | apply And.intro
    | exact True.intro
    | with_reducible rfl
    | exact same_of hA rfl
    | refine br_of hA (fun _ => ?_) (fun _ => ?_)
    | exact imp_of hA id
    | (refine imp_of hA ?_; subst hA; simp only [real, Bool.true_and]; exact id)
    | (refine ind_of hA ?_; decide +kernel)
    | (refine call_ex hA hM (c_CkpOk j c) (fun _ _ => ?_); cbv)
    | (refine call_ex hA hM (c_readyD c) (fun _ _ => ?_); cbv)
  rename_i b1 hb1 b2 hb2
  refine congrArg (fun b => XA.one (.c (.d (eB b)))) (Bool.eq_iff_iff.2 ?_)
  subst hA
  rw [hb]
  simp only [real, bifA, bifB, bifC, bifD, beqB, decide_eq_true_eq, decide_eq_false_iff_not, beqI, bneI, beqIF, bneIF, ne_eq, Bool.and_eq_true, Bool.or_eq_true, Bool.not_eq_true', Bool.not_eq_false', Bool.and_eq_false_iff, Bool.or_eq_false_iff, Bool.false_eq_true, and_false, false_and, or_false, false_or, and_true, true_and, not_true_eq_false, not_false_eq_true, true_iff, false_iff, Int.ofNat_eq_natCast, Int.toNat_natCast]
  rw [hb1, hb2]
open Classical in
set_option maxRecDepth 100000 in
theorem c_sCkpReady (j : JobT) (c : CkpT) (hbd : bdCkp c) : ∃ b, (b = true ↔ CkpOkP j c ∧ ReadyP c) ∧ Meets Try.prog 23 [xd (eJob j), xd (eCkp c)] ⟨.one (.c (.d (eB b))), [none, none]⟩ := by
  obtain ⟨b, hb⟩ : ∃ b : Bool, (b = true ↔ CkpOkP j c ∧ ReadyP c) := ⟨decide (CkpOkP j c ∧ ReadyP c), by rw [decide_eq_true_eq]⟩
  refine ⟨b, hb, ?_⟩
  refine meets_of (H := []) (EX := EXA) ttok mixed Try.func23 rfl (by kernel_rfl) (by decide) ?_
  generalize hA : real = A
  generalize hM : Meets Try.prog = M
  cbv
  repeat' first
    | apply And.intro
    | exact True.intro
    | with_reducible rfl
    | exact same_of hA rfl
    | refine br_of hA (fun _ => ?_) (fun _ => ?_)
    | exact imp_of hA id
    | (refine imp_of hA ?_; subst hA; simp only [real, Bool.true_and]; exact id)
    | (refine ind_of hA ?_; decide +kernel)
    | (refine call_ex hA hM (c_sCkpOk j c hbd) (fun _ _ => ?_); cbv)
  rename_i b1 hb1
  refine call_exg (S := fun b2 => b2 = true ↔ ReadyP c) (out := fun b2 => ⟨.one (.c (.d (eB b2))), [none]⟩) hA hM ⟨decide (ReadyP c), by rw [decide_eq_true_eq]⟩ (fun b2 hb2 hg => ?_) (fun b2 hb2 => ?_)
  · subst hA
    have h1 := hb1.1 hg
    obtain ⟨b3, hb3, hm⟩ := c_l9Ready c (fun i hi => (h1.2.2.2.2.2.2.2.1 i hi).1.1)
    have e : b3 = b2 := Bool.eq_iff_iff.2 (hb3.trans hb2.symm)
    rw [← e]
    exact hm
  cbv
  repeat' first
    | apply And.intro
    | exact True.intro
    | with_reducible rfl
    | exact same_of hA rfl
    | refine br_of hA (fun _ => ?_) (fun _ => ?_)
    | exact imp_of hA id
    | (refine imp_of hA ?_; subst hA; simp only [real, Bool.true_and]; exact id)
    | (refine ind_of hA ?_; decide +kernel)
  refine congrArg (fun b => XA.one (.c (.d (eB b)))) (Bool.eq_iff_iff.2 ?_)
  subst hA
  rw [hb]
  simp only [real, bifA, bifB, bifC, bifD, beqB, decide_eq_true_eq, decide_eq_false_iff_not, beqI, bneI, beqIF, bneIF, ne_eq, Bool.and_eq_true, Bool.or_eq_true, Bool.not_eq_true', Bool.not_eq_false', Bool.and_eq_false_iff, Bool.or_eq_false_iff, Bool.false_eq_true, and_false, false_and, or_false, false_or, and_true, true_and, not_true_eq_false, not_false_eq_true, true_iff, false_iff, Int.ofNat_eq_natCast, Int.toNat_natCast]
  rw [hb1, hb2]
end Go.Rk
