/- The walk over this seat's functions, part 6: what each of them answers, at all data. -/
import Derived.Test.YtmgeaomdilinnaaM1
import Derived.Test.YtmgeaomdilinnaaM2
import Derived.Test.YtmgeaomdilinnaaM3
import Derived.Test.YtmgeaomdilinnaaM4
import Derived.Test.YtmgeaomdilinnaaM5
import Derived.Test.YtmgeaomdilinnaaRows
import Derived.WalkKit
import Derived.ProofKit
import Derived.OpenShut
import Derived.ShutString
import Derived.ChangeOld
import Derived.SizedLaws
import Derived.DataShut
/- Whether all have told. -/
namespace Go.Rk
set_option linter.unusedSimpArgs false
set_option linter.unusedVariables false
open Go.Proofs
def stIvint (n : Nat) (g : Nat → Int) (v : Int) (i : Nat) : St := ⟨[(8, .c (.d (eI i))), (7, .c (.d (eI n))), (0, .c (.d (.sl 1 n fun i => [eI (g i)]))), (1, .c (.d (eI v)))], []⟩
set_option maxRecDepth 100000 in
theorem c_IndexVint (n : Nat) (hn : n ≤ maxLen) (g : Nat → Int) (v : Int) : ∃ x, FirstIx n (fun i => v = g i) x ∧ Meets Try.prog 132 [.c (.d (.sl 1 n fun i => [eI (g i)])), .c (.d (eI v))] ⟨.one (.c (.d (eI x))), [none, none]⟩ := by
  obtain ⟨x, hx⟩ := firstIx_ex n fun i => v = g i
  refine ⟨x, hx, ?_⟩
  refine meets_of (H := []) (EX := EXA) ttok mixed Try.func132 rfl (by kernel_rfl) (by decide) ?_
  generalize hA : real = A
  generalize hM : MeetsB Try.prog = M
  cbv
  repeat' first
    | apply And.intro
    | exact True.intro
    | with_reducible rfl
    | exact same_of hA rfl
    | refine br_of hA (fun _ => ?_) (fun _ => ?_)
    | exact imp_of hA id
    | (refine imp_of hA ?_; subst hA; simp only [real, Bool.true_and]; exact id)
    | (refine ind_of hA ?_; decide +kernel)
    | fail
  refine loop_of hA (α := { i : Nat // i ≤ n ∧ ∀ j, j < i → ¬ (v = g j) }) (fun x => stIvint n g v x.1) (fun x => n - x.1) ⟨0, Nat.zero_le _, fun j h => absurd h (Nat.not_lt_zero _)⟩ ?_ ?_
  · refine cov_of ?_ ?_ ?_
    · cbv; try (subst hA; repeat' first | apply And.intro | exact True.intro | rfl)
    · cbv; try (subst hA; repeat' first | apply And.intro | exact True.intro | rfl)
    · cbv
  rintro ⟨i, hi, hb⟩
  cbv
  repeat' first
    | apply And.intro
    | exact True.intro
    | with_reducible rfl
    | exact same_of hA rfl
    | refine br_of hA (fun _ => ?_) (fun _ => ?_)
    | exact imp_of hA id
    | (refine imp_of hA ?_; subst hA; simp only [real, Bool.true_and]; exact id)
    | (refine ind_of hA ?_; decide +kernel)
    | (refine inb_of hA fun _ => ?_; subst hA; simp only [real, Bool.and_eq_true, Bool.not_eq_true', Bool.not_eq_false', decide_eq_true_eq, Int.ofNat_eq_natCast, IntKind.wrap_i64] at *; omega)
    | fail
  · rename_i hlt ht
    subst hA
    have ht : (v == g i) = true := ht
    have ht : v = g i := by simpa using ht
    have hlt' : i < n := by simp only [real, decide_eq_true_eq, Int.ofNat_eq_natCast] at hlt; omega
    obtain rfl := firstIx_one hx (.at i hlt' ht hb)
    rfl
  · rename_i hlt ht
    have hlt' : i < n := by subst hA; simp only [real, decide_eq_true_eq, Int.ofNat_eq_natCast] at hlt; omega
    have ht : ¬ (v = g i) := by
      subst hA
      have ht : (v == g i) = false := ht
      simpa using ht
    refine ⟨⟨i + 1, by omega, fun j hj => ?_⟩, by simp only; omega, cov_of ?_ ?_ ?_⟩
    · by_cases e : j = i
      · rw [e]; exact ht
      · exact hb j (by omega)
    · cbv
      subst hA
      repeat' first | apply And.intro | exact True.intro | exact congrArg (fun x => DV.v (.int .i64 x)) (up64 hlt' hn) | rfl | (intro k hk; exact push_at rfl _ _ _ _ k hk)
    · cbv
    · cbv
  · rename_i hge
    have hin : i = n := by
      subst hA
      simp only [real, decide_eq_false_iff_not, Int.ofNat_eq_natCast] at hge
      omega
    subst hin
    obtain rfl := firstIx_one hx (.none hb)
    rfl
set_option maxRecDepth 100000 in
theorem c_ContainsVint (n : Nat) (hn : n ≤ maxLen) (g : Nat → Int) (v : Int) : ∃ b, (b = true ↔ ∃ i, i < n ∧ v = g i) ∧ Meets Try.prog 109 [.c (.d (.sl 1 n fun i => [eI (g i)])), .c (.d (eI v))] ⟨.one (.c (.d (eB b))), [none, none]⟩ := by
  obtain ⟨x, hx, hm⟩ := c_IndexVint n hn g v
  obtain ⟨b, hb⟩ : ∃ b, b = decide (0 ≤ x) := ⟨_, rfl⟩
  have hxx := firstIx_neg hx
  refine ⟨b, by rw [hb, decide_eq_true_eq]; exact hxx.1, ?_⟩
  refine meets_of (H := []) (EX := EXA) ttok mixed Try.func109 rfl (by kernel_rfl) (by decide) ?_
  generalize hA : real = A
  generalize hM : MeetsB Try.prog = M
  cbv
  repeat' first
    | apply And.intro
    | exact True.intro
    | with_reducible rfl
    | exact same_of hA rfl
    | refine br_of hA (fun _ => ?_) (fun _ => ?_)
    | exact imp_of hA id
    | (refine imp_of hA ?_; subst hA; simp only [real, Bool.true_and]; exact id)
    | (refine ind_of hA ?_; decide +kernel)
    | (refine call_of hA hM _ hm ?_; cbv)
    | fail
  all_goals subst hA
  all_goals refine congrArg (fun b => XA.one (.c (.d (eB b)))) (Bool.eq_iff_iff.2 ?_)
  all_goals subst_vars
  all_goals try simp only [real, bifA, bifB, bifC, bifD, decide_eq_true_eq, decide_eq_false_iff_not, beq_iff_eq, bne_iff_ne, beq_eq_false_iff_ne, bne_eq_false_iff_eq, ne_eq, Bool.and_eq_true, Bool.or_eq_true, Bool.not_eq_true', Bool.not_eq_false', Bool.and_eq_false_iff, Bool.or_eq_false_iff, Bool.false_eq_true, and_false, false_and, or_false, false_or, and_true, true_and, not_true_eq_false, not_false_eq_true, true_iff, false_iff, IntKind.wrap_i64] at *
  all_goals first
    | omega
    | skip
def stIvbool (n : Nat) (g : Nat → Bool) (v : Bool) (i : Nat) : St := ⟨[(8, .c (.d (eI i))), (7, .c (.d (eI n))), (0, .c (.d (.sl 1 n fun i => [eB (g i)]))), (1, .c (.d (eB v)))], []⟩
set_option maxRecDepth 100000 in
theorem c_IndexVbool (n : Nat) (hn : n ≤ maxLen) (g : Nat → Bool) (v : Bool) : ∃ x, FirstIx n (fun i => v = g i) x ∧ Meets Try.prog 133 [.c (.d (.sl 1 n fun i => [eB (g i)])), .c (.d (eB v))] ⟨.one (.c (.d (eI x))), [none, none]⟩ := by
  obtain ⟨x, hx⟩ := firstIx_ex n fun i => v = g i
  refine ⟨x, hx, ?_⟩
  refine meets_of (H := []) (EX := EXA) ttok mixed Try.func133 rfl (by kernel_rfl) (by decide) ?_
  generalize hA : real = A
  generalize hM : MeetsB Try.prog = M
  cbv
  repeat' first
    | apply And.intro
    | exact True.intro
    | with_reducible rfl
    | exact same_of hA rfl
    | refine br_of hA (fun _ => ?_) (fun _ => ?_)
    | exact imp_of hA id
    | (refine imp_of hA ?_; subst hA; simp only [real, Bool.true_and]; exact id)
    | (refine ind_of hA ?_; decide +kernel)
    | fail
  refine loop_of hA (α := { i : Nat // i ≤ n ∧ ∀ j, j < i → ¬ (v = g j) }) (fun x => stIvbool n g v x.1) (fun x => n - x.1) ⟨0, Nat.zero_le _, fun j h => absurd h (Nat.not_lt_zero _)⟩ ?_ ?_
  · refine cov_of ?_ ?_ ?_
    · cbv; try (subst hA; repeat' first | apply And.intro | exact True.intro | rfl)
    · cbv; try (subst hA; repeat' first | apply And.intro | exact True.intro | rfl)
    · cbv
  rintro ⟨i, hi, hb⟩
  cbv
  repeat' first
    | apply And.intro
    | exact True.intro
    | with_reducible rfl
    | exact same_of hA rfl
    | refine br_of hA (fun _ => ?_) (fun _ => ?_)
    | exact imp_of hA id
    | (refine imp_of hA ?_; subst hA; simp only [real, Bool.true_and]; exact id)
    | (refine ind_of hA ?_; decide +kernel)
    | (refine inb_of hA fun _ => ?_; subst hA; simp only [real, Bool.and_eq_true, Bool.not_eq_true', Bool.not_eq_false', decide_eq_true_eq, Int.ofNat_eq_natCast, IntKind.wrap_i64] at *; omega)
    | fail
  · rename_i hlt ht
    subst hA
    have ht : (v == g i) = true := ht
    have ht : v = g i := by simpa using ht
    have hlt' : i < n := by simp only [real, decide_eq_true_eq, Int.ofNat_eq_natCast] at hlt; omega
    obtain rfl := firstIx_one hx (.at i hlt' ht hb)
    rfl
  · rename_i hlt ht
    have hlt' : i < n := by subst hA; simp only [real, decide_eq_true_eq, Int.ofNat_eq_natCast] at hlt; omega
    have ht : ¬ (v = g i) := by
      subst hA
      have ht : (v == g i) = false := ht
      simpa using ht
    refine ⟨⟨i + 1, by omega, fun j hj => ?_⟩, by simp only; omega, cov_of ?_ ?_ ?_⟩
    · by_cases e : j = i
      · rw [e]; exact ht
      · exact hb j (by omega)
    · cbv
      subst hA
      repeat' first | apply And.intro | exact True.intro | exact congrArg (fun x => DV.v (.int .i64 x)) (up64 hlt' hn) | rfl | (intro k hk; exact push_at rfl _ _ _ _ k hk)
    · cbv
    · cbv
  · rename_i hge
    have hin : i = n := by
      subst hA
      simp only [real, decide_eq_false_iff_not, Int.ofNat_eq_natCast] at hge
      omega
    subst hin
    obtain rfl := firstIx_one hx (.none hb)
    rfl
set_option maxRecDepth 100000 in
theorem c_ContainsVbool (n : Nat) (hn : n ≤ maxLen) (g : Nat → Bool) (v : Bool) : ∃ b, (b = true ↔ ∃ i, i < n ∧ v = g i) ∧ Meets Try.prog 110 [.c (.d (.sl 1 n fun i => [eB (g i)])), .c (.d (eB v))] ⟨.one (.c (.d (eB b))), [none, none]⟩ := by
  obtain ⟨x, hx, hm⟩ := c_IndexVbool n hn g v
  obtain ⟨b, hb⟩ : ∃ b, b = decide (0 ≤ x) := ⟨_, rfl⟩
  have hxx := firstIx_neg hx
  refine ⟨b, by rw [hb, decide_eq_true_eq]; exact hxx.1, ?_⟩
  refine meets_of (H := []) (EX := EXA) ttok mixed Try.func110 rfl (by kernel_rfl) (by decide) ?_
  generalize hA : real = A
  generalize hM : MeetsB Try.prog = M
  cbv
  repeat' first
    | apply And.intro
    | exact True.intro
    | with_reducible rfl
    | exact same_of hA rfl
    | refine br_of hA (fun _ => ?_) (fun _ => ?_)
    | exact imp_of hA id
    | (refine imp_of hA ?_; subst hA; simp only [real, Bool.true_and]; exact id)
    | (refine ind_of hA ?_; decide +kernel)
    | (refine call_of hA hM _ hm ?_; cbv)
    | fail
  all_goals subst hA
  all_goals refine congrArg (fun b => XA.one (.c (.d (eB b)))) (Bool.eq_iff_iff.2 ?_)
  all_goals subst_vars
  all_goals try simp only [real, bifA, bifB, bifC, bifD, decide_eq_true_eq, decide_eq_false_iff_not, beq_iff_eq, bne_iff_ne, beq_eq_false_iff_ne, bne_eq_false_iff_eq, ne_eq, Bool.and_eq_true, Bool.or_eq_true, Bool.not_eq_true', Bool.not_eq_false', Bool.and_eq_false_iff, Bool.or_eq_false_iff, Bool.false_eq_true, and_false, false_and, or_false, false_or, and_true, true_and, not_true_eq_false, not_false_eq_true, true_iff, false_iff, IntKind.wrap_i64] at *
  all_goals first
    | omega
    | skip
open Classical in
set_option maxRecDepth 100000 in
theorem c_readyD (c : CkpT) : ∃ b, (b = true ↔ ReadyP c) ∧ Meets Try.prog 62 [.c (.d (.p (eCkp c)))] ⟨.one (.c (.d (eB b))), [none]⟩ := by
  obtain ⟨b, hb⟩ : ∃ b : Bool, (b = true ↔ ReadyP c) := ⟨decide (ReadyP c), by rw [decide_eq_true_eq]⟩
  refine ⟨b, hb, ?_⟩
  refine meets_of (H := []) (EX := EXA) ttok mixed Try.func62 rfl (by kernel_rfl) (by decide) ?_
  generalize hA : real = A
  generalize hM : MeetsB Try.prog = M
  cbv
  repeat' first
    | apply And.intro
    | exact True.intro
    | with_reducible rfl
    | exact same_of hA rfl
    | refine br_of hA (fun _ => ?_) (fun _ => ?_)
    | exact imp_of hA id
    | (refine imp_of hA ?_; subst hA; simp only [real, Bool.true_and]; exact id)
    | (refine ind_of hA ?_; decide +kernel)
    | (refine call_ex hA hM (c_ContainsVint c.src.n c.src.hn c.src.g (-1)) (fun _ _ => ?_); cbv)
    | (refine call_ex hA hM (c_ContainsVbool c.tsk.n c.tsk.hn c.tsk.g false) (fun _ _ => ?_); cbv)
    | fail
  rename_i b1 hb1 b2 hb2
  refine congrArg (fun b => XA.one (.c (.d (eB b)))) (Bool.eq_iff_iff.2 ?_)
  subst hA
  rw [hb]
  simp only [real, bifA, bifB, bifC, bifD, beqB, decide_eq_true_eq, decide_eq_false_iff_not, beqI, bneI, beqIF, bneIF, ne_eq, Bool.and_eq_true, Bool.or_eq_true, Bool.not_eq_true', Bool.not_eq_false', Bool.and_eq_false_iff, Bool.or_eq_false_iff, Bool.false_eq_true, and_false, false_and, or_false, false_or, and_true, true_and, not_true_eq_false, not_false_eq_true, true_iff, false_iff, Int.ofNat_eq_natCast, Int.toNat_natCast]
  unfold ReadyP
  rw [← Bool.not_eq_true b1, hb1, ← Bool.not_eq_true b2, hb2]
  constructor
  · rintro ⟨⟨h1, h2⟩, h3⟩
    refine ⟨h1, fun i hi e => h2 ⟨i, hi, e.symm⟩, fun i hi => ?_⟩
    cases e : c.tsk.g i with
    | true => rfl
    | false => exact absurd ⟨i, hi, e.symm⟩ h3
  · rintro ⟨h1, h2, h3⟩
    exact ⟨⟨h1, fun ⟨i, hi, e⟩ => h2 i hi e.symm⟩, fun ⟨i, hi, e⟩ => by rw [h3 i hi] at e; cases e⟩
end Go.Rk
/- Rows of values are flat. -/
namespace Go.Rk
set_option linter.unusedSimpArgs false
set_option linter.unusedVariables false
theorem flat_int (x : Int) : FlatL [eI x] := ⟨⟨_, rfl⟩, trivial⟩
theorem flat_Row (x : RowT) : FlatL (eRow x) := by repeat' first | exact True.intro | exact ⟨_, rfl⟩ | apply And.intro
end Go.Rk
/- Rows of a table, as lists. -/
namespace Go.Rk
set_option linter.unusedSimpArgs false
set_option linter.unusedVariables false
def IsRow (key : Int) (w : WinT) (r : TabT) : Prop := r.key = key ∧ (r.win.s = w.s ∧ r.win.e = w.e)
instance (key : Int) (w : WinT) (r : TabT) : Decidable (IsRow key w r) := inferInstanceAs (Decidable (_ ∧ _))
def Ahead (r q : TabT) : Prop := r.key < q.key ∨ (r.key = q.key ∧ (r.win.s < q.win.s ∨ (r.win.s = q.win.s ∧ r.win.e < q.win.e)))
instance (r q : TabT) : Decidable (Ahead r q) := inferInstanceAs (Decidable (_ ∨ _))
theorem room_add2 {A : Ar} (hA : real = A) {n m b : Nat} (hn : n + m ≤ 2000000) (hb : b ≤ 100000) : A.room (A.add n m) b := by
  subst hA
  have h1 : (n + m) * b ≤ 2000000 * 100000 := Nat.mul_le_mul hn hb
  exact ⟨Nat.le_trans h1 (by omega), Nat.le_trans hn (by omega)⟩
def zAgg : AggT := ⟨0, 0, 0, 0⟩
end Go.Rk
/- What is known of values, by lists; tables that records lead to. -/
namespace Go.Rk
set_option linter.unusedSimpArgs false
set_option linter.unusedVariables false
def sumI : List Int → Int
  | [] => 0
  | x :: l => x + sumI l
/-- What is known of just these values. -/
structure AggIs (a : AggT) (L : List Int) : Prop where
  n : a.n = (L.length : Int)
  sum : a.sum = sumI L
  z : L = [] → a = zAgg
  nz : L ≠ [] → a.least ∈ L ∧ a.most ∈ L ∧ ∀ x, x ∈ L → a.least ≤ x ∧ x ≤ a.most
abbrev Rise (l : List TabT) : Prop := l.Pairwise Ahead
end Go.Rk
/- Tables of pairs of records and windows: what they say, and that they hang on no order. -/
namespace Go.Rk
set_option linter.unusedSimpArgs false
set_option linter.unusedVariables false
def valsW (k : Int) (w : WinT) (P : List LatT) : List Int := (P.filter fun l => decide (l.itm.key = k ∧ l.win.s = w.s ∧ l.win.e = w.e)).map (·.itm.v)
def valsS (k : Int) (w : WinT) (P : List LatT) : List Int := (P.filter fun l => decide (l.itm.key = k ∧ w.s ≤ l.win.s ∧ l.win.s < w.e)).map (·.itm.v)
/-! ## Windows that do not grow -/
structure InvW (P : List LatT) (T : List TabT) : Prop where
  rise : Rise T
  row : ∀ r, r ∈ T → valsW r.key r.win P ≠ [] ∧ AggIs r.agg (valsW r.key r.win P)
  has : ∀ l, l ∈ P → ∃ r, r ∈ T ∧ IsRow l.itm.key l.win r
/-! ## Sessions -/
def CovP (P : List LatT) (k p : Int) : Prop := ∃ l, l ∈ P ∧ l.itm.key = k ∧ l.win.s < p ∧ p < l.win.e
structure SessP (P : List LatT) (r : TabT) : Prop where
  lt : r.win.s < r.win.e
  fst : ∃ l, l ∈ P ∧ l.itm.key = r.key ∧ l.win.s = r.win.s
  lst : ∃ l, l ∈ P ∧ l.itm.key = r.key ∧ l.win.e = r.win.e
  mid : ∀ p, r.win.s < p → p < r.win.e → CovP P r.key p
  low : ¬ CovP P r.key r.win.s
  top : ¬ CovP P r.key r.win.e
  agg : AggIs r.agg (valsS r.key r.win P)
structure InvS (P : List LatT) (T : List TabT) : Prop where
  rise : Rise T
  row : ∀ r, r ∈ T → SessP P r
  has : ∀ l, l ∈ P → ∃ r, r ∈ T ∧ r.key = l.itm.key ∧ r.win.s ≤ l.win.s ∧ l.win.e ≤ r.win.e
end Go.Rk
/- Draws. -/
namespace Go.Rk
set_option linter.unusedSimpArgs false
set_option linter.unusedVariables false
theorem br_f {A : Ar} (hA : real = A) {t : Bool} {p q : Prop} (h : t = false) (hq : q) : A.br t p q := by subst hA; exact ⟨fun h2 => (by rw [h] at h2; cases h2), fun _ => hq⟩
abbrev eU (n : Int) : DV := .v (.int .u8 n)
def pickY (m : Nat) (b : Nat → Int) (p : Int) : Int := b (p.tmod m).toNat * 131 + b ((p * 7 + 3).tmod m).toNat * 1117 + p * 29 + p.tdiv m * 53
def pickX (y : Int) : Int := IntKind.i64.wrap (BitVec.ofInt 64 y ^^^ BitVec.ofInt 64 (y.tdiv 64)).toNat
def pickV (m : Nat) (b : Nat → Int) (p n : Int) : Int := if m = 0 then 0 else if p < m then (b p.toNat).tmod n else (pickX (pickY m b p)).tmod n
theorem xor_nn {a b : Int} (h0 : 0 ≤ a ∧ a < 4611686018427387904) (h1 : 0 ≤ b ∧ b < 4611686018427387904) : 0 ≤ ((BitVec.ofInt 64 a ^^^ BitVec.ofInt 64 b).toNat : Int) ∧ ((BitVec.ofInt 64 a ^^^ BitVec.ofInt 64 b).toNat : Int) < 4611686018427387904 := by
  have e : ∀ c : Int, 0 ≤ c ∧ c < 4611686018427387904 → (BitVec.ofInt 64 c).toNat < 2 ^ 62 := fun c hc => by
    rw [BitVec.toNat_ofInt]
    have h64 : ((2 ^ 64 : Nat) : Int) = 18446744073709551616 := by decide
    have h62 : (2 : Nat) ^ 62 = 4611686018427387904 := by decide
    rw [h64, h62]
    omega
  have h := Nat.xor_lt_two_pow (e a h0) (e b h1)
  rw [← BitVec.toNat_xor] at h
  have : (2 : Nat) ^ 62 = 4611686018427387904 := by decide
  exact ⟨by omega, by omega⟩
theorem tmod_in {a n : Int} (ha : 0 ≤ a) (hn : 1 ≤ n) : 0 ≤ a.tmod n ∧ a.tmod n < n := ⟨Int.tmod_nonneg n ha, Int.tmod_lt_of_pos a (by omega)⟩
theorem pickY_in {m : Nat} {b : Nat → Int} {p : Int} (hm : 1 ≤ m) (hb : ∀ i, 0 ≤ b i ∧ b i ≤ 255) (hp : 0 ≤ p ∧ p ≤ 1000000) : 0 ≤ pickY m b p ∧ pickY m b p ≤ 1000000000 := by
  unfold pickY
  have h1 := hb (p.tmod m).toNat
  have h2 := hb ((p * 7 + 3).tmod m).toNat
  have h3 : 0 ≤ p.tdiv m := Int.tdiv_nonneg hp.1 (by omega)
  have h4 : p.tdiv m ≤ p := by
    have := Int.tdiv_le_self (a := p) m hp.1
    exact this
  omega
theorem pickV_in {m : Nat} {b : Nat → Int} {p n : Int} (hb : ∀ i, 0 ≤ b i ∧ b i ≤ 255) (hp : 0 ≤ p ∧ p ≤ 1000000) (hn : 1 ≤ n) : 0 ≤ pickV m b p n ∧ pickV m b p n < n := by
  unfold pickV
  split
  · omega
  · split
    · exact tmod_in (hb _).1 hn
    · refine tmod_in ?_ hn
      have hy := pickY_in (m := m) (p := p) (by omega) hb hp
      have hd : 0 ≤ (pickY m b p).tdiv 64 := Int.tdiv_nonneg hy.1 (by decide)
      have hd2 : (pickY m b p).tdiv 64 ≤ pickY m b p := Int.tdiv_le_self 64 hy.1
      have hx := xor_nn (a := pickY m b p) (b := (pickY m b p).tdiv 64) ⟨hy.1, by omega⟩ ⟨hd, by omega⟩
      unfold pickX
      rw [IntWalk.i64_in _ (by omega)]
      exact hx.1
end Go.Rk
/- Tables of panes. -/
namespace Go.Rk
set_option linter.unusedSimpArgs false
set_option linter.unusedVariables false
theorem sub0r (f : Nat → List DV) : real.sub 0 f = f := sub0 rfl f
end Go.Rk
/- What a mark does to rows, in plain words. -/
namespace Go.Rk
set_option linter.unusedSimpArgs false
set_option linter.unusedVariables false
def mkRow (k : Int) : RowT := ⟨k, ⟨k + 1, k + 2⟩, ⟨k + 3, k + 4, k + 5, k + 6⟩, ⟨k + 7, k + 8, k + 9, k + 10⟩, k + 11, ((k + 12).tmod 3 == 0)⟩
end Go.Rk
/- What a record does to rows, in plain words. -/
namespace Go.Rk
set_option linter.unusedSimpArgs false
set_option linter.unusedVariables false
def IsR (k : Int) (w : WinT) (r : RowT) : Prop := r.key = k ∧ (r.win.s = w.s ∧ r.win.e = w.e)
instance (k : Int) (w : WinT) (r : RowT) : Decidable (IsR k w r) := inferInstanceAs (Decidable (_ ∧ _))
def RA (r q : RowT) : Prop := AheadP r.key r.win q.key q.win
instance (r q : RowT) : Decidable (RA r q) := inferInstanceAs (Decidable (_ ∨ (_ ∧ (_ ∨ (_ ∧ _)))))
end Go.Rk
/- Nests: clone. -/
namespace Go.Rk
set_option linter.unusedSimpArgs false
set_option linter.unusedVariables false
open Go.Proofs
set_option maxRecDepth 100000
set_option maxHeartbeats 1000000
theorem c_Cloneint (n : Nat) (hn : n ≤ 1080000) (g : Nat → Int) : Meets Try.prog 106 [.c (.d (.sl 1 n fun i => [eI (g i)]))] ⟨.one (.c (.own 1 n fun i => [eI (g i)])), [none]⟩ := by
  refine meets_slice (fun h0 ad cap => ?_) (fun h1 => ?_)
  · subst h0
    cases ad with
    | none =>
      refine meets_up (res := .one (.c (.d (.v nilS)))) (UpV.nil 1 fun i => [eI (g i)]) ?_
      refine meets_of (H := []) (EX := EXA) ttok mixed Try.func106 rfl (by kernel_rfl) (by decide) ?_
      generalize hA : real = A
      generalize hM : MeetsB Try.prog = M
      cbv
      repeat' first
        | exact absurd (show true = false by assumption) (by decide)
        | exact absurd (show false = true by assumption) (by decide)
        | apply And.intro
        | exact True.intro
        | with_reducible rfl
        | exact same_of hA rfl
        | refine br_of hA (fun _ => ?_) (fun _ => ?_)
        | exact imp_of hA id
        | (refine imp_of hA ?_; subst hA; simp only [real, Bool.true_and]; exact id)
        | (refine ind_of hA ?_; decide +kernel)
        | fail
    | some ad =>
      refine meets_up (res := .one (.c (.own 1 0 fun i => (real.rep ([eI 0]) i)))) (UpV.row fun i hi => absurd hi (Nat.not_lt_zero i)) ?_
      refine meets_of (H := []) (EX := EXA) ttok mixed Try.func106 rfl (by kernel_rfl) (by decide) ?_
      generalize hA : real = A
      generalize hM : MeetsB Try.prog = M
      cbv
      repeat' first
        | exact absurd (show true = false by assumption) (by decide)
        | exact absurd (show false = true by assumption) (by decide)
        | apply And.intro
        | exact True.intro
        | with_reducible rfl
        | exact same_of hA rfl
        | refine br_of hA (fun _ => ?_) (fun _ => ?_)
        | exact imp_of hA id
        | (refine imp_of hA ?_; subst hA; simp only [real, Bool.true_and]; exact id)
        | (refine ind_of hA ?_; decide +kernel)
        | exact room_z hA (by omega) (by decide)
        | fail
      exact own_cp hA (by subst hA; rfl)
  · skip
    refine meets_of (H := []) (EX := EXA) ttok mixed Try.func106 rfl (by kernel_rfl) (by decide) ?_
    generalize hA : real = A
    generalize hM : MeetsB Try.prog = M
    cbv
    repeat' first
      | exact absurd (show true = false by assumption) (by decide)
      | exact absurd (show false = true by assumption) (by decide)
      | apply And.intro
      | exact True.intro
      | with_reducible rfl
      | exact same_of hA rfl
      | refine br_of hA (fun _ => ?_) (fun _ => ?_)
      | exact imp_of hA id
      | (refine imp_of hA ?_; subst hA; simp only [real, Bool.true_and]; exact id)
      | (refine ind_of hA ?_; decide +kernel)
      | exact room_z hA (by omega) (by decide)
      | (refine inb_of hA (fun _ => ⟨by omega, by omega⟩))
      | (rename_i hb; cases hb; done)
      | fail
    exact own_cp hA rfl
theorem c_Clonebool (n : Nat) (hn : n ≤ 1080000) (g : Nat → Bool) : Meets Try.prog 107 [.c (.d (.sl 1 n fun i => [eB (g i)]))] ⟨.one (.c (.own 1 n fun i => [eB (g i)])), [none]⟩ := by
  refine meets_slice (fun h0 ad cap => ?_) (fun h1 => ?_)
  · subst h0
    cases ad with
    | none =>
      refine meets_up (res := .one (.c (.d (.v nilS)))) (UpV.nil 1 fun i => [eB (g i)]) ?_
      refine meets_of (H := []) (EX := EXA) ttok mixed Try.func107 rfl (by kernel_rfl) (by decide) ?_
      generalize hA : real = A
      generalize hM : MeetsB Try.prog = M
      cbv
      repeat' first
        | exact absurd (show true = false by assumption) (by decide)
        | exact absurd (show false = true by assumption) (by decide)
        | apply And.intro
        | exact True.intro
        | with_reducible rfl
        | exact same_of hA rfl
        | refine br_of hA (fun _ => ?_) (fun _ => ?_)
        | exact imp_of hA id
        | (refine imp_of hA ?_; subst hA; simp only [real, Bool.true_and]; exact id)
        | (refine ind_of hA ?_; decide +kernel)
        | fail
    | some ad =>
      refine meets_up (res := .one (.c (.own 1 0 fun i => (real.rep ([eB false]) i)))) (UpV.row fun i hi => absurd hi (Nat.not_lt_zero i)) ?_
      refine meets_of (H := []) (EX := EXA) ttok mixed Try.func107 rfl (by kernel_rfl) (by decide) ?_
      generalize hA : real = A
      generalize hM : MeetsB Try.prog = M
      cbv
      repeat' first
        | exact absurd (show true = false by assumption) (by decide)
        | exact absurd (show false = true by assumption) (by decide)
        | apply And.intro
        | exact True.intro
        | with_reducible rfl
        | exact same_of hA rfl
        | refine br_of hA (fun _ => ?_) (fun _ => ?_)
        | exact imp_of hA id
        | (refine imp_of hA ?_; subst hA; simp only [real, Bool.true_and]; exact id)
        | (refine ind_of hA ?_; decide +kernel)
        | exact room_z hA (by omega) (by decide)
        | fail
      exact own_cp hA (by subst hA; rfl)
  · skip
    refine meets_of (H := []) (EX := EXA) ttok mixed Try.func107 rfl (by kernel_rfl) (by decide) ?_
    generalize hA : real = A
    generalize hM : MeetsB Try.prog = M
    cbv
    repeat' first
      | exact absurd (show true = false by assumption) (by decide)
      | exact absurd (show false = true by assumption) (by decide)
      | apply And.intro
      | exact True.intro
      | with_reducible rfl
      | exact same_of hA rfl
      | refine br_of hA (fun _ => ?_) (fun _ => ?_)
      | exact imp_of hA id
      | (refine imp_of hA ?_; subst hA; simp only [real, Bool.true_and]; exact id)
      | (refine ind_of hA ?_; decide +kernel)
      | exact room_z hA (by omega) (by decide)
      | (refine inb_of hA (fun _ => ⟨by omega, by omega⟩))
      | (rename_i hb; cases hb; done)
      | fail
    exact own_cp hA rfl
theorem c_CloneRow (n : Nat) (hn : n ≤ 1080000) (g : Nat → RowT) : Meets Try.prog 85 [.c (.d (.sl 13 n fun i => eRow (g i)))] ⟨.one (.c (.own 13 n fun i => eRow (g i))), [none]⟩ := by
  refine meets_slice (fun h0 ad cap => ?_) (fun h1 => ?_)
  · subst h0
    cases ad with
    | none =>
      refine meets_up (res := .one (.c (.d (.v nilS)))) (UpV.nil 13 fun i => eRow (g i)) ?_
      refine meets_of (H := []) (EX := EXA) ttok mixed Try.func85 rfl (by kernel_rfl) (by decide) ?_
      generalize hA : real = A
      generalize hM : MeetsB Try.prog = M
      cbv
      repeat' first
        | exact absurd (show true = false by assumption) (by decide)
        | exact absurd (show false = true by assumption) (by decide)
        | apply And.intro
        | exact True.intro
        | with_reducible rfl
        | exact same_of hA rfl
        | refine br_of hA (fun _ => ?_) (fun _ => ?_)
        | exact imp_of hA id
        | (refine imp_of hA ?_; subst hA; simp only [real, Bool.true_and]; exact id)
        | (refine ind_of hA ?_; decide +kernel)
        | fail
    | some ad =>
      refine meets_up (res := .one (.c (.own 13 0 fun i => (real.rep ([eI 0, eI 0, eI 0, eI 0, eI 0, eI 0, eI 0, eI 0, eI 0, eI 0, eI 0, eI 0, eB false]) i)))) (UpV.row fun i hi => absurd hi (Nat.not_lt_zero i)) ?_
      refine meets_of (H := []) (EX := EXA) ttok mixed Try.func85 rfl (by kernel_rfl) (by decide) ?_
      generalize hA : real = A
      generalize hM : MeetsB Try.prog = M
      cbv
      repeat' first
        | exact absurd (show true = false by assumption) (by decide)
        | exact absurd (show false = true by assumption) (by decide)
        | apply And.intro
        | exact True.intro
        | with_reducible rfl
        | exact same_of hA rfl
        | refine br_of hA (fun _ => ?_) (fun _ => ?_)
        | exact imp_of hA id
        | (refine imp_of hA ?_; subst hA; simp only [real, Bool.true_and]; exact id)
        | (refine ind_of hA ?_; decide +kernel)
        | exact room_z hA (by omega) (by decide)
        | fail
      exact own_cp hA (by subst hA; rfl)
  · skip
    refine meets_of (H := []) (EX := EXA) ttok mixed Try.func85 rfl (by kernel_rfl) (by decide) ?_
    generalize hA : real = A
    generalize hM : MeetsB Try.prog = M
    cbv
    repeat' first
      | exact absurd (show true = false by assumption) (by decide)
      | exact absurd (show false = true by assumption) (by decide)
      | apply And.intro
      | exact True.intro
      | with_reducible rfl
      | exact same_of hA rfl
      | refine br_of hA (fun _ => ?_) (fun _ => ?_)
      | exact imp_of hA id
      | (refine imp_of hA ?_; subst hA; simp only [real, Bool.true_and]; exact id)
      | (refine ind_of hA ?_; decide +kernel)
      | exact room_z hA (by omega) (by decide)
      | (refine inb_of hA (fun _ => ⟨by omega, by omega⟩))
      | (rename_i hb; cases hb; done)
      | fail
    exact own_cp hA rfl
theorem c_copied (mk : Int) (n : Nat) (hn : n ≤ 1080000) (g : Nat → RowT) : Meets Try.prog 38 [.agg [.d (eI mk), .d (.sl 13 n fun i => eRow (g i))]] ⟨.one (.agg [.d (eI mk), .own 13 n fun i => eRow (g i)]), [none]⟩ := by
  refine meets_of (H := []) (EX := EXA) ttok mixed Try.func38 rfl (by kernel_rfl) (by decide) ?_
  generalize hA : real = A
  generalize hM : MeetsB Try.prog = M
  cbv
  repeat' first
    | apply And.intro
    | exact True.intro
    | with_reducible rfl
    | exact same_of hA rfl
    | refine br_of hA (fun _ => ?_) (fun _ => ?_)
    | exact imp_of hA id
    | (refine imp_of hA ?_; subst hA; simp only [real, Bool.true_and]; exact id)
    | (refine ind_of hA ?_; decide +kernel)
    | exact room_z hA (by omega) (by decide)
    | (refine call_of2 hA hM _ (c_CloneRow n hn g) rfl ?_; cbv)
    | fail
end Go.Rk
/- Nests: ckp. -/
namespace Go.Rk
set_option linter.unusedSimpArgs false
set_option linter.unusedVariables false
open Go.Proofs
set_option maxRecDepth 100000
set_option maxHeartbeats 1000000
theorem c_SnapCopied (x : SnapT) (hb : bdSnap x) : Meets Try.prog 131 [xd (eSnap x)] ⟨.one (.agg [.d (eI x.op.mark), .own 13 x.op.rows.n fun i => eRow (x.op.rows.g i), .own 1 x.marks.n fun i => [eI (x.marks.g i)]]), [none]⟩ := by
  refine meets_of (H := []) (EX := EXA) ttok mixed Try.func131 rfl (by kernel_rfl) (by decide) ?_
  generalize hA : real = A
  generalize hM : MeetsB Try.prog = M
  cbv
  repeat' first
    | apply And.intro
    | exact True.intro
    | with_reducible rfl
    | exact same_of hA rfl
    | refine br_of hA (fun _ => ?_) (fun _ => ?_)
    | exact imp_of hA id
    | (refine imp_of hA ?_; subst hA; simp only [real, Bool.true_and]; exact id)
    | (refine ind_of hA ?_; decide +kernel)
    | (refine call_of2 hA hM _ (c_copied x.op.mark x.op.rows.n (Nat.le_trans hb.1 (by decide)) x.op.rows.g) rfl ?_; cbv)
    | (refine call_of2 hA hM _ (c_Cloneint x.marks.n (Nat.le_trans hb.2 (by decide)) x.marks.g) rfl ?_; cbv)
    | fail
def st_snaps (n : Nat) (rd : Nat → SnapT) (i : Nat) : St := ⟨[(8, .c (.d (eI i))), (7, .c (.d (eI n))), (6, .c (.d (.sl 3 n fun i => eSnap (rd i)))), (3, .c (.nown 1024 i 1))], [(1024, 1, .nest 3 i (fun j => eSnap (rd j)) none)]⟩
theorem c_snaps (n : Nat) (hn : n ≤ 1048576) (rd : Nat → SnapT) (hb : ∀ i, i < n → bdSnap (rd i)) : Meets Try.prog 108 [.c (.d (.sl 3 n fun i => eSnap (rd i)))] ⟨.one (.c (.nown 3 n fun i => eSnap (rd i))), [none]⟩ := by
  have hn2 : n ≤ maxLen := Nat.le_trans hn (by decide)
  refine meets_of (H := []) (EX := EXA) ttok mixed Try.func108 rfl (by kernel_rfl) (by decide) ?_
  generalize hA : real = A
  generalize hM : MeetsB Try.prog = M
  cbv
  repeat' first
    | apply And.intro
    | exact True.intro
    | with_reducible rfl
    | exact same_of hA rfl
    | refine br_of hA (fun _ => ?_) (fun _ => ?_)
    | exact imp_of hA id
    | (refine imp_of hA ?_; subst hA; simp only [real, Bool.true_and]; exact id)
    | (refine ind_of hA ?_; decide +kernel)
    | fail
  refine loop_of hA (α := { i : Nat // i ≤ n }) (fun x => st_snaps n rd x.1) (fun x => n - x.1) ⟨0, Nat.zero_le _⟩ ?_ ?_
  · refine cov_promN 3 1024 1 3 (fun j => eSnap (rd j)) rfl rfl (cov_of ?_ ?_ ?_)
    · (subst hA; repeat' first | exact True.intro | exact rfl | apply And.intro | (intro _ _; rfl) | (intro _ _ _; rfl) | exact .inr (le_of_nble rfl) | exact .inl rfl)
    · (subst hA; repeat' first | exact True.intro | exact rfl | apply And.intro | (intro _ _; rfl) | (intro _ _ _; rfl) | exact .inr (le_of_nble rfl) | exact .inl rfl)
    · (subst hA; repeat' first | exact True.intro | exact rfl | apply And.intro | (intro _ _; rfl) | (intro _ _ _; rfl) | exact .inr (le_of_nble rfl) | exact .inl rfl)
  rintro ⟨i, hi⟩
  have hi : i ≤ n := hi
  cbv
  repeat' first
    | apply And.intro
    | exact True.intro
    | with_reducible rfl
    | exact same_of hA rfl
    | refine br_of hA (fun _ => ?_) (fun _ => ?_)
    | exact imp_of hA id
    | (refine imp_of hA ?_; subst hA; simp only [real, Bool.true_and]; exact id)
    | (refine ind_of hA ?_; decide +kernel)
    | (refine call_of hA hM _ (c_SnapCopied (rd (A.nat (Int.ofNat i))) (hb _ (by rename_i hlt; subst hA; simp only [real, decide_eq_true_eq, Int.ofNat_eq_natCast, Int.toNat_natCast] at *; omega))) ?_; cbv)
    | (refine inb_of hA fun _ => ?_; subst hA; simp only [real, decide_eq_true_eq, Int.ofNat_eq_natCast] at *; omega)
    | exact room_add2 hA (by omega) (by decide)
    | exact room_of2 hA (by omega) (by decide)
    | (refine room_add2 hA ?_ (by decide); rename_i hlt; subst hA; simp only [real, decide_eq_true_eq, Int.ofNat_eq_natCast] at hlt; omega)
    | (refine same_of hA ?_; subst hA; rfl)
    | fail
  · rename_i hlt
    have hlt' : i < n := by subst hA; simp only [real, decide_eq_true_eq, Int.ofNat_eq_natCast] at hlt; omega
    refine ⟨⟨i + 1, hlt'⟩, by simp only; omega, cov_close 1024 (fun j => eSnap (rd j)) (eSnap (rd i)) [(14 * 64 + 1, 1), (14 * 64 + 2, 1)] rfl ?_ rfl rfl (fun k _ _ => rfl) (cov_of ?_ ?_ ?_)⟩
    · subst hA; exact (close_v (close_own rfl (fun _ _ => rfl) (flatR fun _ => flat_Row _) (close_own rfl (fun _ _ => rfl) (flatR fun _ => flat_int _) close_end)))
    · (subst hA; repeat' first | exact True.intro | exact rfl | exact congrArg (fun x => DV.v (.int .i64 x)) (up64 hlt' hn2) | apply And.intro | (intro _ _; rfl) | (intro _ _ _; rfl) | exact .inr (le_of_nble rfl) | exact .inl rfl)
    · (subst hA; repeat' first | exact True.intro | exact rfl | exact congrArg (fun x => DV.v (.int .i64 x)) (up64 hlt' hn2) | apply And.intro | (intro _ _; rfl) | (intro _ _ _; rfl) | exact .inr (le_of_nble rfl) | exact .inl rfl)
    · (subst hA; repeat' first | exact True.intro | exact rfl | exact congrArg (fun x => DV.v (.int .i64 x)) (up64 hlt' hn2) | apply And.intro | (intro _ _; rfl) | (intro _ _ _; rfl) | exact .inr (le_of_nble rfl) | exact .inl rfl)
  · rename_i hge
    have hin : i = n := by
      subst hA
      have : ¬ ((i : Int) < (n : Int)) := of_decide_eq_false hge
      omega
    subst hin
    rfl
theorem c_CkpCopied (x : CkpT) (hb : bdCkp x) : Meets Try.prog 60 [xd (eCkp x)] ⟨.one (.agg [.d (eI x.n), .d (eB x.opn), .own 1 x.src.n fun i => [eI (x.src.g i)], .own 1 x.tsk.n fun i => [eB (x.tsk.g i)], .nown 3 x.snaps.n fun i => eSnap (x.snaps.g i), .d (eI x.safe.n), .own 1 x.safe.at_.n fun i => [eI (x.safe.at_.g i)], .nown 3 x.safe.snaps.n fun i => eSnap (x.safe.snaps.g i)]), [none]⟩ := by
  refine meets_of (H := []) (EX := EXA) ttok mixed Try.func60 rfl (by kernel_rfl) (by decide) ?_
  generalize hA : real = A
  generalize hM : MeetsB Try.prog = M
  cbv
  repeat' first
    | apply And.intro
    | exact True.intro
    | with_reducible rfl
    | exact same_of hA rfl
    | refine br_of hA (fun _ => ?_) (fun _ => ?_)
    | exact imp_of hA id
    | (refine imp_of hA ?_; subst hA; simp only [real, Bool.true_and]; exact id)
    | (refine ind_of hA ?_; decide +kernel)
    | (refine call_of2 hA hM _ (c_Cloneint x.src.n (Nat.le_trans hb.1 (by decide)) x.src.g) rfl ?_; cbv)
    | (refine call_of2 hA hM _ (c_Clonebool x.tsk.n (Nat.le_trans hb.2.1 (by decide)) x.tsk.g) rfl ?_; cbv)
    | (refine call_of2 hA hM _ (c_snaps x.snaps.n hb.2.2.1 x.snaps.g hb.2.2.2.1) rfl ?_; cbv)
    | (refine call_of2 hA hM _ (c_Cloneint x.safe.at_.n (Nat.le_trans hb.2.2.2.2.1 (by decide)) x.safe.at_.g) rfl ?_; cbv)
    | (refine call_of2 hA hM _ (c_snaps x.safe.snaps.n hb.2.2.2.2.2.1 x.safe.snaps.g hb.2.2.2.2.2.2) rfl ?_; cbv)
    | fail
end Go.Rk
/- Marks, in plain words. -/
namespace Go.Rk
set_option linter.unusedSimpArgs false
set_option linter.unusedVariables false
abbrev eint (x : Int) : List DV := [eI x]
def mkint (k : Int) : Int := k
def mkbool (k : Int) : Bool := k.tmod 3 == 0
/-- Where the marks of a row's parts begin, one behind the other. -/
def posS (len : Nat → Int) (s : Int) : Nat → Int
  | 0 => s
  | i + 1 => posS len s i + len i
def lenSnap (x : SnapT) : Int := 1 + 13 * (x.op.rows.n : Int) + (x.marks.n : Int)
def mkSnap (p : Int) (x : SnapT) : SnapT := ⟨⟨p, ⟨x.op.rows.n, fun i => mkRow (p + 1 + 13 * (i : Int)), x.op.rows.hn⟩⟩, ⟨x.marks.n, fun i => p + 1 + 13 * (x.op.rows.n : Int) + (i : Int), x.marks.hn⟩⟩
end Go.Rk
/- Marks of checkpoints and of tasks, as a whole. -/
namespace Go.Rk
set_option linter.unusedSimpArgs false
set_option linter.unusedVariables false
def lenS (s : Sl SnapT) : Int := posS (fun i => lenSnap (s.g i)) 0 s.n
/-- How many marks checkpoints take. -/
def totCkp (x : CkpT) : Int := (x.src.n : Int) + (x.tsk.n : Int) + lenS x.snaps + (x.safe.at_.n : Int) + lenS x.safe.snaps
structure CkpM (s : Int) (x : CkpT) where
  f1 : Nat → Int
  f2 : Nat → Bool
  f3 : Nat → SnapT
  f4 : Nat → Int
  f5 : Nat → SnapT
  p3 : Nat → Int
  p5 : Nat → Int
  k1 : Int
  k2 : Int
  k3 : Int
  k4 : Int
  k5 : Int
  h1 : ∀ i, f1 i = mkint (s + 1 * (i : Int))
  hk1 : k1 = s + 1 * (x.src.n : Int)
  h2 : ∀ i, f2 i = mkbool (k1 + 1 * (i : Int))
  hk2 : k2 = k1 + 1 * (x.tsk.n : Int)
  q0 : p3 0 = k2
  q1 : ∀ i, i < x.snaps.n → p3 (i + 1) = p3 i + lenSnap (x.snaps.g i)
  q2 : ∀ i, i ≤ x.snaps.n → 0 ≤ p3 i ∧ p3 i ≤ 50000000
  hk3 : k3 = p3 x.snaps.n
  h3 : ∀ i, f3 i = mkSnap (p3 i) (x.snaps.g i)
  h4 : ∀ i, f4 i = mkint (k3 + 1 * (i : Int))
  hk4 : k4 = k3 + 1 * (x.safe.at_.n : Int)
  r0 : p5 0 = k4
  r1 : ∀ i, i < x.safe.snaps.n → p5 (i + 1) = p5 i + lenSnap (x.safe.snaps.g i)
  r2 : ∀ i, i ≤ x.safe.snaps.n → 0 ≤ p5 i ∧ p5 i ≤ 50000000
  hk5 : k5 = p5 x.safe.snaps.n
  h5 : ∀ i, f5 i = mkSnap (p5 i) (x.safe.snaps.g i)
  b0 : 0 ≤ s ∧ s ≤ 50000000
  b1 : 0 ≤ k1 ∧ k1 ≤ 50000000
  b2 : 0 ≤ k2 ∧ k2 ≤ 50000000
  b3 : 0 ≤ k3 ∧ k3 ≤ 50000000
  b4 : 0 ≤ k4 ∧ k4 ≤ 50000000
  b5 : 0 ≤ k5 ∧ k5 ≤ 50000000
def CkpM.out {s : Int} {x : CkpT} (M : CkpM s x) : CkpT := ⟨x.n, x.opn, ⟨x.src.n, M.f1, x.src.hn⟩, ⟨x.tsk.n, M.f2, x.tsk.hn⟩, ⟨x.snaps.n, M.f3, x.snaps.hn⟩, ⟨x.safe.n, ⟨x.safe.at_.n, M.f4, x.safe.at_.hn⟩, ⟨x.safe.snaps.n, M.f5, x.safe.snaps.hn⟩⟩⟩
end Go.Rk
/- A slice of one number, repeated. -/
namespace Go.Rk
set_option linter.unusedSimpArgs false
set_option linter.unusedVariables false
open Go.Proofs
set_option maxRecDepth 100000
set_option maxHeartbeats 2000000
theorem c_Mul64 (y : Int) (hy : y = 1 ∨ y = 2 ∨ y = 3) : Meets Try.prog 137 [.c (.d (.v (.int .u64 1))), .c (.d (.v (.int .u64 y)))] ⟨.tup [.c (.d (.v (.int .u64 0))), .c (.d (.v (.int .u64 y)))], [none, none]⟩ := by
  refine meets_of (H := []) (EX := EXA) ttok mixed Try.func137 rfl (by kernel_rfl) (by decide) ?_
  generalize hA : real = A
  generalize hM : MeetsB Try.prog = M
  cbv
  repeat' first
    | apply And.intro
    | exact True.intro
    | with_reducible rfl
    | exact same_of hA rfl
    | refine br_of hA (fun _ => ?_) (fun _ => ?_)
    | exact imp_of hA id
    | (refine imp_of hA ?_; subst hA; simp only [real, Bool.true_and]; exact id)
    | (refine ind_of hA ?_; decide +kernel)
    | fail
  all_goals (subst hA; rcases hy with rfl | rfl | rfl <;> rfl)
theorem c_Mul (y : Int) (hy : y = 1 ∨ y = 2 ∨ y = 3) : Meets Try.prog 129 [.c (.d (.v (.int .u64 1))), .c (.d (.v (.int .u64 y)))] ⟨.tup [.c (.d (.v (.int .u64 0))), .c (.d (.v (.int .u64 y)))], [none, none]⟩ := by
  refine meets_of (H := []) (EX := EXA) ttok mixed Try.func129 rfl (by kernel_rfl) (by decide) ?_
  generalize hA : real = A
  generalize hM : MeetsB Try.prog = M
  cbv
  repeat' first
    | exact absurd (show false = true by assumption) (by decide)
    | apply And.intro
    | exact True.intro
    | with_reducible rfl
    | exact same_of hA rfl
    | refine br_of hA (fun _ => ?_) (fun _ => ?_)
    | exact imp_of hA id
    | (refine imp_of hA ?_; subst hA; simp only [real, Bool.true_and]; exact id)
    | (refine ind_of hA ?_; decide +kernel)
    | (refine call_of hA hM _ (c_Mul64 y hy) ?_; cbv)
    | fail
def st_rep (n : Nat) (row : Nat → List DV) (m : Nat) (R : Nat → List DV) : St := ⟨[(8, .c (.d (eI m))), (7, .c (.own 1920 0 n 1))], [(1920, 1, .arr 1 n R)]⟩
theorem c_RepeatM1 (n : Nat) (h1 : 1 ≤ n) (h3 : n ≤ 3) (row : Nat → List DV) (hrow : row 0 = [eI (-1)]) : Meets Try.prog 100 [.c (.d (.sl 1 1 row)), .c (.d (eI n))] ⟨.one (.c (.own 1 n fun _ => [eI (-1)])), [none, none]⟩ := by
  have hy : (n : Int) = 1 ∨ (n : Int) = 2 ∨ (n : Int) = 3 := by omega
  have hw : IntKind.i64.wrap (n : Int) = n := IntWalk.i64_in _ (by omega)
  have hu : IntKind.u64.wrap (n : Int) = n := by rcases hy with h | h | h <;> rw [h] <;> rfl
  have hbad : ∀ {A : Ar}, real = A → A.cmp .lss (n : Int) 0 = true → False := fun hA h => by
    subst hA
    have h : decide ((n : Int) < 0) = true := h
    have := of_decide_eq_true h
    omega
  have hbad2 : ∀ {A : Ar}, real = A → A.bite (A.cmp .gtr 0 0) true (A.cmp .gtr (n : Int) 9223372036854775807) = true → False := fun hA h => by
    subst hA
    have h : (bif decide ((0 : Int) > 0) then true else decide ((n : Int) > 9223372036854775807)) = true := h
    have h : decide ((n : Int) > 9223372036854775807) = true := h
    have := of_decide_eq_true h
    omega
  refine meets_of (H := [7, 10]) (EX := EXA) ttok mixed Try.func100 rfl (by kernel_rfl) (by decide) ?_
  generalize hA : real = A
  generalize hM : MeetsB Try.prog = M
  cbv
  repeat' first
    | exact (hbad hA (by assumption)).elim
    | exact (hbad2 hA (by assumption)).elim
    | apply And.intro
    | exact True.intro
    | with_reducible rfl
    | exact same_of hA rfl
    | refine br_of hA (fun _ => ?_) (fun _ => ?_)
    | exact imp_of hA id
    | (refine imp_of hA ?_; subst hA; simp only [real, Bool.true_and]; exact id)
    | (refine ind_of hA ?_; decide +kernel)
    | (refine call_of2 hA hM _ (c_Mul n hy) (by subst hA; show [XT.c (.d (.v (.int .u64 (IntKind.u64.wrap 1)))), XT.c (.d (.v (.int .u64 (IntKind.u64.wrap (n : Int)))))] = _; rw [hu]; rfl) ?_; cbv)
    | (subst hA; show 0 ≤ IntKind.i64.wrap (n : Int) ∧ IntKind.i64.wrap (n : Int) = IntKind.i64.wrap (n : Int) ∧ IntKind.i64.wrap (n : Int) * 8 ≤ 140737488355328 ∧ IntKind.i64.wrap (n : Int) ≤ 140737488355328; rw [hw]; exact ⟨by omega, rfl, by omega, by omega⟩)
    | fail
  refine stop_of hA ⟨[(0, .c (.d (.sl 1 1 row))), (7, .c (.own 1920 0 n 1))], [(1920, 1, .arr 1 n fun _ => [eI 0])]⟩ (cov_of ?_ ?_ ?_) ?_
  · subst hA
    have e : real.nat (real.wrap .i64 (Int.ofNat n)) = n := by show (IntKind.i64.wrap (n : Int)).toNat = n; rw [hw]; exact Int.toNat_natCast n
    repeat' first | exact True.intro | exact rfl | exact e | apply And.intro
  · subst hA
    have e : real.nat (real.wrap .i64 (Int.ofNat n)) = n := by show (IntKind.i64.wrap (n : Int)).toNat = n; rw [hw]; exact Int.toNat_natCast n
    repeat' first | exact True.intro | exact rfl | exact e | apply And.intro | (intro _ _; rfl)
  · subst hA; repeat' first | exact True.intro | exact rfl | apply And.intro | exact .inr (le_of_nble rfl) | exact .inl rfl
  cbv
  repeat' first
    | apply And.intro
    | exact True.intro
    | with_reducible rfl
    | exact same_of hA rfl
    | refine br_of hA (fun _ => ?_) (fun _ => ?_)
    | exact imp_of hA id
    | (refine imp_of hA ?_; subst hA; simp only [real, Bool.true_and]; exact id)
    | (refine ind_of hA ?_; decide +kernel)
    | fail
  refine loop_of hA (α := { q : Nat × (Nat → List DV) // 1 ≤ q.1 ∧ q.1 ≤ n ∧ ∀ i, i < q.1 → q.2 i = [eI (-1)] }) (fun y => st_rep n row y.1.1 y.1.2) (fun y => n - y.1.1) ⟨(1, fun i => if i < 1 then [eI (-1)] else [eI 0]), Nat.le_refl _, h1, fun i hi => if_pos hi⟩ ?_ ?_
  · have e : real.mn (real.int n) (real.int 1) = 1 := by
      show (if (1 : Int) < (n : Int) then (1 : Int) else (n : Int)) = 1
      split <;> omega
    refine cov_of ?_ ?_ ?_
    · subst hA; repeat' first | exact True.intro | exact rfl | exact congrArg (fun x => DV.v (.int .i64 x)) e | apply And.intro
    · subst hA
      refine ⟨⟨rfl, rfl, fun i hi => ?_⟩, trivial⟩
      show (if i < 0 then [eI 0] else if i - 0 < (real.mn (real.int n) (real.int 1)).toNat then row (i - 0) else [eI 0]) = if i < 1 then [eI (-1)] else [eI 0]
      rw [if_neg (by omega), e]
      by_cases c : i < 1
      · rw [if_pos c, if_pos (by simpa using c), show i - 0 = 0 by omega, hrow]
      · rw [if_neg c, if_neg (by simpa using c)]
    · subst hA; repeat' first | exact True.intro | exact rfl | apply And.intro | exact .inr (le_of_nble rfl) | exact .inl rfl
  rintro ⟨⟨m, R⟩, hm1, hmn, hR⟩
  have hm1 : 1 ≤ m := hm1
  have hmn : m ≤ n := hmn
  have hR : ∀ i, i < m → R i = [eI (-1)] := hR
  cbv
  repeat' first
    | apply And.intro
    | exact True.intro
    | with_reducible rfl
    | exact same_of hA rfl
    | refine br_of hA (fun _ => ?_) (fun _ => ?_)
    | exact imp_of hA id
    | (refine imp_of hA ?_; subst hA; simp only [real, Bool.true_and]; exact id)
    | (refine ind_of hA ?_; decide +kernel)
    | (subst hA; show _ ∧ _; simp only [real]; refine ⟨by omega, by omega, by omega⟩)
    | (subst hA; exact ⟨Int.natCast_nonneg _, Int.ofNat_le.2 hmn, Int.le_refl _⟩)
    | (subst hA; exact ⟨Int.le_refl _, Int.natCast_nonneg _, Int.ofNat_le.2 hmn⟩)
    | fail
  · rename_i hlt
    have hlt' : m < n := by subst hA; have h : ((m : Int) < (n : Int)) := of_decide_eq_true hlt; omega
    obtain ⟨k, hk⟩ : ∃ k : Nat, k = min (n - m) m := ⟨_, rfl⟩
    have e8 : real.mn (real.int (real.dif (real.int n) (Int.ofNat m))) (real.int (real.dif (Int.ofNat m) 0)) = (k : Int) := by
      show (if ((((m : Int) - 0).toNat : Nat) : Int) < ((((n : Int) - (m : Int)).toNat : Nat) : Int) then ((((m : Int) - 0).toNat : Nat) : Int) else ((((n : Int) - (m : Int)).toNat : Nat) : Int)) = _
      rw [hk]; split <;> omega
    have hkp : 1 ≤ k ∧ m + k ≤ n ∧ k ≤ m := by rw [hk]; omega
    have e9 : real.ar .add .i64 (Int.ofNat m) (real.mn (real.int (real.dif (real.int n) (Int.ofNat m))) (real.int (real.dif (Int.ofNat m) 0))) = ((m + k : Nat) : Int) := by
      rw [e8]
      show IntKind.i64.wrap ((m : Int) + (k : Int)) = _
      rw [IntWalk.i64_in _ (by omega)]; omega
    refine ⟨⟨(m + k, fun i => if i < m then R i else if i - m < k then R (i - m) else R i), by simp only; omega, by simp only; omega, fun i hi => ?_⟩, by simp only; omega, cov_of ?_ ?_ ?_⟩
    · simp only at hi ⊢
      by_cases c : i < m
      · rw [if_pos c]; exact hR i c
      · rw [if_neg c, if_pos (by omega)]; exact hR _ (by omega)
    · subst hA; repeat' first | exact True.intro | exact rfl | exact congrArg (fun x => DV.v (.int .i64 x)) e9 | apply And.intro
    · subst hA
      refine ⟨⟨rfl, rfl, fun i hi => ?_⟩, trivial⟩
      show (if i < 0 + m then R i else if i - (0 + m) < (real.mn (real.int (real.dif (real.int n) (Int.ofNat m))) (real.int (real.dif (Int.ofNat m) 0))).toNat then R (0 + 0 + (i - (0 + m))) else R (0 + m + (real.mn (real.int (real.dif (real.int n) (Int.ofNat m))) (real.int (real.dif (Int.ofNat m) 0))).toNat + (i - (0 + m) - (real.mn (real.int (real.dif (real.int n) (Int.ofNat m))) (real.int (real.dif (Int.ofNat m) 0))).toNat))) = if i < m then R i else if i - m < k then R (i - m) else R i
      rw [e8, Int.toNat_natCast, Nat.zero_add]
      by_cases c : i < m
      · rw [if_pos c, if_pos c]
      · rw [if_neg c, if_neg c]
        by_cases c2 : i - m < k
        · rw [if_pos c2, if_pos c2]; congr 1; omega
        · rw [if_neg c2, if_neg c2]; congr 1; omega
    · subst hA; repeat' first | exact True.intro | exact rfl | apply And.intro | exact .inr (le_of_nble rfl) | exact .inl rfl
  · rename_i hge
    have hin : m = n := by
      subst hA
      have : ¬ ((m : Int) < (n : Int)) := of_decide_eq_false hge
      omega
    subst hin
    refine stop_of hA ⟨[(7, .c (.own 1920 0 m 1))], [(1920, 1, .arr 1 m fun _ => [eI (-1)])]⟩ (cov_of ?_ ?_ ?_) ?_
    · subst hA; repeat' first | exact True.intro | exact rfl | apply And.intro
    · subst hA; exact ⟨⟨rfl, rfl, fun i hi => hR i hi⟩, trivial⟩
    · subst hA; repeat' first | exact True.intro | exact rfl | apply And.intro | exact .inr (le_of_nble rfl) | exact .inl rfl
    cbv
    repeat' first
      | apply And.intro
      | exact True.intro
      | with_reducible rfl
      | exact same_of hA rfl
      | refine br_of hA (fun _ => ?_) (fun _ => ?_)
      | exact imp_of hA id
      | (refine imp_of hA ?_; subst hA; simp only [real, Bool.true_and]; exact id)
      | (refine ind_of hA ?_; decide +kernel)
      | fail
end Go.Rk
/- What asking, saving and giving up come to, in plain words. -/
namespace Go.Rk
set_option linter.unusedSimpArgs false
set_option linter.unusedVariables false
def zSlI : Sl Int := ⟨0, fun _ => 0, Nat.zero_le _⟩
def zSlB : Sl Bool := ⟨0, fun _ => false, Nat.zero_le _⟩
def zRw : RowT := ⟨0, ⟨0, 0⟩, ⟨0, 0, 0, 0⟩, ⟨0, 0, 0, 0⟩, 0, false⟩
def zSlR : Sl RowT := ⟨0, fun _ => zRw, Nat.zero_le _⟩
def zSnp : SnapT := ⟨⟨0, zSlR⟩, zSlI⟩
def zSlS : Sl SnapT := ⟨0, fun _ => zSnp, Nat.zero_le _⟩
def zCkp : CkpT := ⟨0, false, zSlI, zSlB, zSlS, ⟨0, zSlI, zSlS⟩⟩
theorem jobS {j : JobT} (h : JobOkP j) : 1 ≤ j.srcs.toNat ∧ j.srcs.toNat ≤ 3 ∧ (j.srcs.toNat : Int) = j.srcs := by unfold JobOkP at h; omega
theorem jobT {j : JobT} (h : JobOkP j) : 1 ≤ j.tsks.toNat ∧ j.tsks.toNat ≤ 2 ∧ (j.tsks.toNat : Int) = j.tsks := by unfold JobOkP at h; omega
theorem small_len {n : Nat} (h : n ≤ 3) : n ≤ maxLen := Nat.le_trans h (by decide)
/-- Nothing is under way. -/
def idleP (j : JobT) (h : JobOkP j) (x : CkpT) : CkpT :=
  ⟨x.n, false, ⟨j.srcs.toNat, fun _ => -1, small_len (jobS h).2.1⟩, ⟨j.tsks.toNat, fun _ => false, small_len (Nat.le_trans (jobT h).2.1 (by decide))⟩, ⟨j.tsks.toNat, fun _ => zSnp, small_len (Nat.le_trans (jobT h).2.1 (by decide))⟩, x.safe⟩
def asks (x : CkpT) : CkpT := bif (!x.opn && decide (x.n < 900)) then ⟨x.n + 1, true, x.src, x.tsk, x.snaps, x.safe⟩ else x
theorem ckpJob {j : JobT} {x : CkpT} (h : CkpOkP j x) : JobOkP j := h.1
open Classical in
noncomputable def saveP (j : JobT) (x : CkpT) : CkpT × Bool :=
  if h : CkpOkP j x then (if ReadyP x then (idleP j (ckpJob h) ⟨x.n, x.opn, x.src, x.tsk, x.snaps, ⟨x.n, x.src, x.snaps⟩⟩, true) else (x, false)) else (zCkp, false)
end Go.Rk
/- How long the results are. -/
namespace Go.Rk
set_option linter.unusedSimpArgs false
set_option linter.unusedVariables false
theorem bd_zSnp : bdSnap zSnp := ⟨Nat.zero_le _, Nat.zero_le _⟩
theorem bd_zCkp : bdCkp zCkp := ⟨Nat.zero_le _, Nat.zero_le _, Nat.zero_le _, fun i h => absurd h (Nat.not_lt_zero i), Nat.zero_le _, Nat.zero_le _, fun i h => absurd h (Nat.not_lt_zero i)⟩
theorem tot_zCkp : totCkp zCkp = 0 := rfl
theorem lenS_le {n : Nat} (h : n ≤ 3) (hn : n ≤ maxLen) : lenS ⟨n, fun _ => zSnp, hn⟩ ≤ 3 := by
  have e : ∀ k : Nat, posS (fun _ => lenSnap zSnp) 0 k = (k : Int) := fun k => by
    induction k with
    | zero => rfl
    | succ k ih =>
      show posS (fun _ => lenSnap zSnp) 0 k + 1 = _
      rw [ih]; rfl
  show posS (fun _ => lenSnap zSnp) 0 n ≤ 3
  rw [e]; omega
end Go.Rk
/- What a new checkpoint is, in plain words. -/
namespace Go.Rk
set_option linter.unusedSimpArgs false
set_option linter.unusedVariables false
def nSnp (a : Nat) (ha : a ≤ 3) : SnapT := ⟨⟨0, zSlR⟩, ⟨a, fun _ => 0, small_len ha⟩⟩
def newC (a b : Nat) (ha : a ≤ 3) (hb : b ≤ 2) : CkpT :=
  ⟨0, false, ⟨a, fun _ => -1, small_len ha⟩, ⟨b, fun _ => false, small_len (Nat.le_trans hb (by decide))⟩, ⟨b, fun _ => zSnp, small_len (Nat.le_trans hb (by decide))⟩, ⟨0, ⟨a, fun _ => 0, small_len ha⟩, ⟨b, fun _ => nSnp a ha, small_len (Nat.le_trans hb (by decide))⟩⟩⟩
open Classical in
noncomputable def newP (j : JobT) : CkpT := if h : JobOkP j then newC j.srcs.toNat j.tsks.toNat (jobS h).2.1 (jobT h).2.1 else zCkp
theorem lenN_le {a n : Nat} (ha : a ≤ 3) (h : n ≤ 3) (hn : n ≤ maxLen) : lenS ⟨n, fun _ => nSnp a ha, hn⟩ ≤ 12 := by
  have e : ∀ k : Nat, posS (fun _ => lenSnap (nSnp a ha)) 0 k = (k : Int) * (1 + (a : Int)) := fun k => by
    induction k with
    | zero => show (0 : Int) = _; rw [show ((0 : Nat) : Int) = 0 from rfl, Int.zero_mul]
    | succ k ih =>
      show posS (fun _ => lenSnap (nSnp a ha)) 0 k + lenSnap (nSnp a ha) = _
      rw [ih, show lenSnap (nSnp a ha) = 1 + (a : Int) from by unfold lenSnap nSnp zSlR; show 1 + 13 * 0 + (a : Int) = _; omega, show ((k + 1 : Nat) : Int) = (k : Int) + 1 from rfl, Int.add_mul, Int.one_mul]
  show posS (fun _ => lenSnap (nSnp a ha)) 0 n ≤ 12
  rw [e]
  have h1 : (n : Int) * (1 + (a : Int)) ≤ 3 * 4 := by
    have : n = 0 ∨ n = 1 ∨ n = 2 ∨ n = 3 := by omega
    rcases this with rfl | rfl | rfl | rfl <;> omega
  omega
theorem newC_bd {a b : Nat} (ha : a ≤ 3) (hb : b ≤ 2) : bdCkp (newC a b ha hb) ∧ totCkp (newC a b ha hb) ≤ 40000000 := by
  have d : (3 : Nat) ≤ 1048576 := by decide
  refine ⟨⟨by show a ≤ _; omega, by show b ≤ _; omega, by show b ≤ _; omega, fun _ _ => bd_zSnp, ⟨by show a ≤ _; omega, by show b ≤ _; omega, fun i _ => ⟨Nat.zero_le _, by show a ≤ _; omega⟩⟩⟩, ?_⟩
  have e3 : lenS (newC a b ha hb).snaps ≤ 3 := lenS_le (by omega) _
  have e4 : lenS (newC a b ha hb).safe.snaps ≤ 12 := lenN_le _ (by omega) _
  show (a : Int) + (b : Int) + lenS (newC a b ha hb).snaps + (a : Int) + lenS (newC a b ha hb).safe.snaps ≤ _
  omega
theorem new_bd {j : JobT} {y : CkpT} (hy : y = newP j) : bdCkp y ∧ totCkp y ≤ 40000000 := by
  subst hy
  unfold newP
  by_cases h : JobOkP j
  · rw [dif_pos h]; exact newC_bd _ _
  · rw [dif_neg h]; exact ⟨bd_zCkp, by rw [tot_zCkp]; omega⟩
end Go.Rk
/- Checkpoints: new. -/
namespace Go.Rk
set_option linter.unusedSimpArgs false
set_option linter.unusedVariables false
open Go.Proofs
set_option maxRecDepth 100000
set_option maxHeartbeats 2000000
def EXIdleN : FuncId → List Nat × Bool := fun f => bif nbeq f 1 then ([9801], false) else  ([], false)
theorem k_idleN  (a b : Nat) (ha1 : 1 ≤ a) (ha3 : a ≤ 3) (hb1 : 1 ≤ b) (hb2 : b ≤ 2) (r2 r3 r4 r5 r6 r7 r8 r9 : DV) :
    MeetsO Try.prog 51 [.c (.bp 192 1 0), .agg [.d (eI (a : Int)), .d (eI (b : Int)), .d r2, .d r3, .d r4, .d r5, .d r6, .d r7, .d r8, .d r9]] [(192, 1, .box [.d (eI 0), .d (eB false), .d (.v nilS), .d (.v nilS), .d (.v nilS), .d (eI 0), .own 640 0 a 1, .d (.v nilS)]), (640, 1, .arr 1 a fun _ => [eI 0])] (.tup []) [(192, 1, .box [.d (eI 0), .d (eB false), .own 10633 0 a 1, .own 10825 0 b 1, .own 11017 0 b 1, .d (eI 0), .own 640 0 a 1, .d (.v nilS)]), (640, 1, .arr 1 a fun _ => [eI 0]), (10633, 1, .arr 1 a fun _ => [eI (-1)]), (10825, 1, .arr 1 b fun _ => [eB false]), (11017, 1, .arr 3 b fun _ => [eI 0, .v nilS, .v nilS]), (9993, 1, .dead), (10441, 1, .dead)] := by
  refine inl_of (EX := EXIdleN) ttok mixed Try.func51 rfl (by kernel_rfl) (by decide) (by kernel_rfl) rfl rfl ?_
  generalize hA : real = A
  generalize hM : MeetsB Try.prog = M9
  cbv
  repeat' first
    | apply And.intro
    | exact True.intro
    | with_reducible rfl
    | exact same_of hA rfl
    | refine br_of hA (fun _ => ?_) (fun _ => ?_)
    | exact imp_of hA id
    | (refine imp_of hA ?_; subst hA; simp only [real, Bool.true_and]; exact id)
    | (refine ind_of hA ?_; decide +kernel)
    | (intro _ _; rfl)
    | (refine call_of2 hA hM _ (c_RepeatM1 a ha1 ha3 _ rfl) (by subst hA; rfl) ?_; cbv)
    | (subst hA; show 0 ≤ (b : Int) ∧ (b : Int) = (b : Int) ∧ (b : Int) * _ ≤ 140737488355328 ∧ (b : Int) ≤ 140737488355328; refine ⟨by omega, rfl, by omega, by omega⟩)
    | (subst hA; exact flatR fun _ => flat_int _)
    | (subst hA; rfl)
    | (intro _ _; subst hA; rfl)
    | fail
def EXNew : FuncId → List Nat × Bool := fun f => bif nbeq f 51 then ([99], false) else ([], false)
def st_new (a b : Nat) (ha : a ≤ 3) (r2 r3 r4 r5 r6 r7 r8 r9 : DV) (i : Nat) : St := ⟨[(17, .c (.d (eI i))), (16, .c (.d (eI b))), (1, .c (.bp 64 1 0)), (2, .c (.bp 128 1 0)), (3, .c (.bp 192 1 0))], [(64, 1, .box [.d (eI (a : Int)), .d (eI (b : Int)), .d r2, .d r3, .d r4, .d r5, .d r6, .d r7, .d r8, .d r9]), (128, 1, .box [.d (eI 0), .d (eB false), .d (.v nilS), .d (.v nilS), .d (.v nilS), .d (eI 0), .d (.v nilS), .d (.v nilS)]), (192, 1, .box [.d (eI 0), .d (eB false), .own 10633 0 a 1, .own 10825 0 b 1, .own 11017 0 b 1, .d (eI 0), .own 640 0 a 1, .nown 8000 i 1]), (10633, 1, .arr 1 a fun _ => [eI (-1)]), (10825, 1, .arr 1 b fun _ => [eB false]), (11017, 1, .arr 3 b fun _ => [eI 0, .v nilS, .v nilS]), (640, 1, .arr 1 a fun _ => [eI 0]), (8000, 1, .nest 3 i (fun _ => eSnap (nSnp a ha)) none)]⟩
theorem c_CkpNew (j : JobT) (y : CkpT) (hy : y = newP j) : Meets Try.prog 20 [xd (eJob j)] ⟨.one (.agg [.d (eI y.n), .d (eB y.opn), .own 1 y.src.n fun i => [eI (y.src.g i)], .own 1 y.tsk.n fun i => [eB (y.tsk.g i)], .nown 3 y.snaps.n fun i => eSnap (y.snaps.g i), .d (eI y.safe.n), .own 1 y.safe.at_.n fun i => [eI (y.safe.at_.g i)], .nown 3 y.safe.snaps.n fun i => eSnap (y.safe.snaps.g i)]), [none]⟩ := by
  obtain ⟨t, ht, hm⟩ := c_JobOkP j
  cases t with
  | false =>
    have hno : ¬ JobOkP j := fun h => by have := ht.2 h; cases this
    obtain rfl : y = zCkp := by rw [hy]; unfold newP; rw [dif_neg hno]
    refine meets_wk (r := .one (.agg [.d (eI 0), .d (eB false), .d (.v nilS), .d (.v nilS), .d (.v nilS), .d (eI 0), .d (.v nilS), .d (.v nilS)])) ?_ (by repeat' first | exact True.intro | exact rfl | exact DLe.rfl | exact NLe.rfl | exact nle_nil _ _ | apply And.intro | (intro _ _; exact LsLe.rfl) | (intro _ _; exact NsLe.rfl) | exact (flatR fun _ => flatL ⟨⟨_, rfl⟩, ⟨_, rfl⟩, ⟨_, rfl⟩, trivial⟩) | exact (flatR fun _ => ⟨⟨_, rfl⟩, ⟨_, rfl⟩, ⟨_, rfl⟩, trivial⟩) | (intro _ _; exact ⟨NLe.rfl, nle_nil _ _, nle_nil _ _, trivial⟩))
    refine meets_of (H := [4]) (EX := EXNew) ttok mixed Try.func20 rfl (by kernel_rfl) (by decide) ?_
    generalize hA : real = A
    generalize hM : MeetsB Try.prog = M
    cbv
    repeat' first
      | exact absurd (show false = true by subst hA; assumption) (by decide)
      | exact absurd (show true = false by subst hA; assumption) (by decide)
      | apply And.intro
      | exact True.intro
      | with_reducible rfl
      | exact same_of hA rfl
      | refine br_of hA (fun _ => ?_) (fun _ => ?_)
      | exact imp_of hA id
      | (refine imp_of hA ?_; subst hA; simp only [real, Bool.true_and]; exact id)
      | (refine ind_of hA ?_; decide +kernel)
      | (refine call_of hA hM _ hm ?_; cbv)
      | fail
  | true =>
    have hok : JobOkP j := ht.1 rfl
    have ea := jobS hok
    have eb := jobT hok
    obtain ⟨a, ha⟩ : ∃ a : Nat, a = j.srcs.toNat := ⟨_, rfl⟩
    obtain ⟨b, hbb⟩ : ∃ b : Nat, b = j.tsks.toNat := ⟨_, rfl⟩
    obtain ⟨ha1, ha3, ja⟩ : 1 ≤ a ∧ a ≤ 3 ∧ (a : Int) = j.srcs := by rw [ha]; exact ea
    obtain ⟨hb1, hb2, jb⟩ : 1 ≤ b ∧ b ≤ 2 ∧ (b : Int) = j.tsks := by rw [hbb]; exact eb
    obtain rfl : y = newC a b ha3 hb2 := by
      rw [hy]; unfold newP; rw [dif_pos hok]; subst ha hbb; rfl
    clear hy
    obtain ⟨j0, j1, j2, j3, j4, j5, j6, j7, j8, j9⟩ := j
    obtain rfl : (a : Int) = j0 := ja
    obtain rfl : (b : Int) = j1 := jb
    refine meets_wk (r := .one (.agg [.d (eI 0), .d (eB false), .own 1 a fun _ => [eI (-1)], .own 1 b fun _ => [eB false], .own 3 b fun _ => [eI 0, .v nilS, .v nilS], .d (eI 0), .own 1 a fun _ => [eI 0], .nown 3 b fun _ => eSnap (nSnp a ha3)])) ?_ (by repeat' first | exact True.intro | exact rfl | exact DLe.rfl | exact NLe.rfl | exact nle_nil _ _ | apply And.intro | (intro _ _; exact LsLe.rfl) | (intro _ _; exact NsLe.rfl) | exact (flatR fun _ => flatL ⟨⟨_, rfl⟩, ⟨_, rfl⟩, ⟨_, rfl⟩, trivial⟩) | exact (flatR fun _ => ⟨⟨_, rfl⟩, ⟨_, rfl⟩, ⟨_, rfl⟩, trivial⟩) | (intro _ _; exact ⟨NLe.rfl, nle_nil _ _, nle_nil _ _, trivial⟩))
    clear ht ha hbb hok ea eb
    refine meets_of (H := [4]) (EX := EXNew) ttok mixed Try.func20 rfl (by kernel_rfl) (by decide) ?_
    generalize hA : real = A
    generalize hM : MeetsB Try.prog = M
    cbv
    repeat' first
      | exact absurd (show false = true by subst hA; assumption) (by decide)
      | exact absurd (show true = false by subst hA; assumption) (by decide)
      | apply And.intro
      | exact True.intro
      | with_reducible rfl
      | exact same_of hA rfl
      | refine br_of hA (fun _ => ?_) (fun _ => ?_)
      | exact imp_of hA id
      | (refine imp_of hA ?_; subst hA; simp only [real, Bool.true_and]; exact id)
      | (refine ind_of hA ?_; decide +kernel)
      | (refine call_of hA hM _ hm ?_; cbv)
      | (subst hA; show 0 ≤ (b : Int) ∧ (b : Int) = (b : Int) ∧ (b : Int) * _ ≤ 140737488355328 ∧ (b : Int) ≤ 140737488355328; refine ⟨by omega, rfl, by omega, by omega⟩)
      | (subst hA; show 0 ≤ (a : Int) ∧ (a : Int) = (a : Int) ∧ (a : Int) * _ ≤ 140737488355328 ∧ (a : Int) ≤ 140737488355328; refine ⟨by omega, rfl, by omega, by omega⟩)
      | fail
    refine stop_of hA ⟨[(1, .c (.bp 64 1 0)), (2, .c (.bp 128 1 0)), (3, .c (.bp 192 1 0))], [(64, 1, .box [.d (eI (a : Int)), .d (eI (b : Int)), .d (eI j2), .d (eI j3), .d (eI j4), .d (eI j5), .d (eI j6), .d (eB j7), .d (eI j8), .d (eI j9)]), (128, 1, .box [.d (eI 0), .d (eB false), .d (.v nilS), .d (.v nilS), .d (.v nilS), .d (eI 0), .d (.v nilS), .d (.v nilS)]), (192, 1, .box [.d (eI 0), .d (eB false), .d (.v nilS), .d (.v nilS), .d (.v nilS), .d (eI 0), .own 640 0 a 1, .d (.v nilS)]), (640, 1, .arr 1 a fun _ => [eI 0])]⟩ (cov_of ?_ ?_ ?_) ?_
    · (subst hA; repeat' first | exact True.intro | exact rfl | apply And.intro | (intro _ _; rfl) | (intro _ _ _; rfl) | (intro q hq; exact absurd hq (Nat.not_lt_zero q)))
    · (subst hA; repeat' first | exact True.intro | exact rfl | apply And.intro | (intro _ _; rfl) | (intro _ _ _; rfl) | (intro q hq; exact absurd hq (Nat.not_lt_zero q)))
    · (subst hA; repeat' first | exact True.intro | exact rfl | apply And.intro | (intro _ _; rfl) | (intro _ _ _; rfl) | (intro q hq; exact absurd hq (Nat.not_lt_zero q)) | exact .inr (le_of_nble rfl) | exact .inl rfl)
    cbv
    repeat' first
      | exact absurd (show false = true by subst hA; assumption) (by decide)
      | exact absurd (show true = false by subst hA; assumption) (by decide)
      | apply And.intro
      | exact True.intro
      | with_reducible rfl
      | exact same_of hA rfl
      | refine br_of hA (fun _ => ?_) (fun _ => ?_)
      | exact imp_of hA id
      | (refine imp_of hA ?_; subst hA; simp only [real, Bool.true_and]; exact id)
      | (refine ind_of hA ?_; decide +kernel)
      | (refine call_of hA hM _ hm ?_; cbv)
      | (subst hA; show 0 ≤ (b : Int) ∧ (b : Int) = (b : Int) ∧ (b : Int) * _ ≤ 140737488355328 ∧ (b : Int) ≤ 140737488355328; refine ⟨by omega, rfl, by omega, by omega⟩)
      | (subst hA; show 0 ≤ (a : Int) ∧ (a : Int) = (a : Int) ∧ (a : Int) * _ ≤ 140737488355328 ∧ (a : Int) ≤ 140737488355328; refine ⟨by omega, rfl, by omega, by omega⟩)
      | (refine inl_call hA _ _ _ ⟨fun _ => (by rw [← hM]; exact (k_idleN a b ha1 ha3 hb1 hb2 (eI j2) (eI j3) (eI j4) (eI j5) (eI j6) (eB j7) (eI j8) (eI j9))), (by cbv; repeat' first | apply And.intro | exact True.intro | rfl | exact .inr trivial | exact .inl trivial), ?_⟩; cbv)
      | fail
    refine loop_of hA (α := { i : Nat // i ≤ b }) (fun x => st_new a b ha3 (eI j2) (eI j3) (eI j4) (eI j5) (eI j6) (eB j7) (eI j8) (eI j9) x.1) (fun x => b - x.1) ⟨0, Nat.zero_le _⟩ ?_ ?_
    · refine cov_promCN 192 8000 1 3 (fun _ => eSnap (nSnp a ha3)) [.d (eI 0), .d (eB false), .own 10633 0 a 1, .own 10825 0 b 1, .own 11017 0 b 1, .d (eI 0), .own 640 0 a 1] [] rfl rfl rfl (cov_of ?_ ?_ ?_)
      · (subst hA; repeat' first | exact True.intro | exact rfl | apply And.intro | (intro _ _; rfl) | (intro _ _ _; rfl) | (intro q hq; exact absurd hq (Nat.not_lt_zero q)))
      · (subst hA; repeat' first | exact True.intro | exact rfl | apply And.intro | (intro _ _; rfl) | (intro _ _ _; rfl) | (intro q hq; exact absurd hq (Nat.not_lt_zero q)))
      · (subst hA; repeat' first | exact True.intro | exact rfl | apply And.intro | (intro _ _; rfl) | (intro _ _ _; rfl) | (intro q hq; exact absurd hq (Nat.not_lt_zero q)) | exact .inr (le_of_nble rfl) | exact .inl rfl)
    rintro ⟨i, hi⟩
    have hi : i ≤ b := hi
    cbv
    repeat' first
      | apply And.intro
      | exact True.intro
      | with_reducible rfl
      | exact same_of hA rfl
      | refine br_of hA (fun _ => ?_) (fun _ => ?_)
      | exact imp_of hA id
      | (refine imp_of hA ?_; subst hA; simp only [real, Bool.true_and]; exact id)
      | (refine ind_of hA ?_; decide +kernel)
      | (subst hA; show 0 ≤ (b : Int) ∧ (b : Int) = (b : Int) ∧ (b : Int) * _ ≤ 140737488355328 ∧ (b : Int) ≤ 140737488355328; refine ⟨by omega, rfl, by omega, by omega⟩)
      | (subst hA; show 0 ≤ (a : Int) ∧ (a : Int) = (a : Int) ∧ (a : Int) * _ ≤ 140737488355328 ∧ (a : Int) ≤ 140737488355328; refine ⟨by omega, rfl, by omega, by omega⟩)
      | exact room_add2 hA (by omega) (by decide)
      | exact room_of2 hA (by omega) (by decide)
      | (refine same_of hA ?_; subst hA; rfl)
      | fail
    · rename_i hlt
      have hlt' : i < b := by subst hA; have h : ((i : Int) < (b : Int)) := of_decide_eq_true hlt; omega
      have hn2 : b ≤ maxLen := Nat.le_trans hb2 (by decide)
      refine ⟨⟨i + 1, hlt'⟩, by simp only; omega, cov_close 8000 (fun _ => eSnap (nSnp a ha3)) (eSnap (nSnp a ha3)) [(1536, 1)] rfl ?_ rfl rfl (fun k _ _ => rfl) (cov_of ?_ ?_ ?_)⟩
      · subst hA; exact close_v (close_nil (close_own rfl (fun _ _ => rfl) (flatR fun _ => flat_int _) close_end))
      · (subst hA; repeat' first | exact True.intro | exact rfl | exact congrArg (fun x => DV.v (.int .i64 x)) (up64 hlt' hn2) | apply And.intro | (intro _ _; rfl) | (intro _ _ _; rfl) | (intro q hq; exact absurd hq (Nat.not_lt_zero q)))
      · (subst hA; repeat' first | exact True.intro | exact rfl | exact congrArg (fun x => DV.v (.int .i64 x)) (up64 hlt' hn2) | apply And.intro | (intro _ _; rfl) | (intro _ _ _; rfl) | (intro q hq; exact absurd hq (Nat.not_lt_zero q)))
      · (subst hA; repeat' first | exact True.intro | exact rfl | exact congrArg (fun x => DV.v (.int .i64 x)) (up64 hlt' hn2) | apply And.intro | (intro _ _; rfl) | (intro _ _ _; rfl) | (intro q hq; exact absurd hq (Nat.not_lt_zero q)) | exact .inr (le_of_nble rfl) | exact .inl rfl)
    · rename_i hge
      have hin : i = b := by
        subst hA
        have : ¬ ((i : Int) < (b : Int)) := of_decide_eq_false hge
        omega
      subst hin
      rfl
end Go.Rk
/- Checkpoints, as said: drop. -/
namespace Go.Rk
set_option linter.unusedSimpArgs false
set_option linter.unusedVariables false
open Go.Proofs
set_option maxRecDepth 100000
set_option maxHeartbeats 2000000
def st_nb1 (a b : Nat) (r2 r3 r4 r5 r6 r7 r8 r9 : DV) (i : Nat) : St := ⟨[(8, .c (.d (eI i))), (1, .c (.bp 64 1 0)), (5, .c (.own 640 0 i 1)), (6, .c (.own 704 0 0 1)), (7, .c (.own 768 0 0 1))], [(64, 1, .box [.d (eI (a : Int)), .d (eI (b : Int)), .d r2, .d r3, .d r4, .d r5, .d r6, .d r7, .d r8, .d r9]), (640, 1, .arr 1 i fun _ => [eI (-1)]), (704, 1, .arr 1 0 fun _ => [eB false]), (768, 1, .arr 3 0 fun _ => [eI 0, .v nilS, .v nilS])]⟩
def st_nb2 (a b : Nat) (r2 r3 r4 r5 r6 r7 r8 r9 : DV) (i : Nat) : St := ⟨[(9, .c (.d (eI i))), (1, .c (.bp 64 1 0)), (5, .c (.own 640 0 a 1)), (6, .c (.own 704 0 i 1)), (7, .c (.own 768 0 i 1))], [(64, 1, .box [.d (eI (a : Int)), .d (eI (b : Int)), .d r2, .d r3, .d r4, .d r5, .d r6, .d r7, .d r8, .d r9]), (640, 1, .arr 1 a fun _ => [eI (-1)]), (704, 1, .arr 1 i fun _ => [eB false]), (768, 1, .arr 3 i fun _ => [eI 0, .v nilS, .v nilS])]⟩
theorem c_nobody (a b : Nat) (ha3 : a ≤ 3) (hb2 : b ≤ 2) (r2 r3 r4 r5 r6 r7 r8 r9 : DV) : Meets Try.prog 54 [xd [eI (a : Int), eI (b : Int), r2, r3, r4, r5, r6, r7, r8, r9]] ⟨.tup [.c (.d (.sl 1 a fun _ => [eI (-1)])), .c (.d (.sl 1 b fun _ => [eB false])), .c (.d (.sl 3 b fun _ => eSnap zSnp))], [none]⟩ := by
  refine meets_wk (r := .tup [.c (.d (.sl 1 a fun _ => [eI (-1)])), .c (.d (.sl 1 b fun _ => [eB false])), .c (.d (.sl 3 b fun _ => [eI 0, .v nilS, .v nilS]))]) ?_ (by repeat' first | exact True.intro | exact rfl | exact DLe.rfl | exact dle_nil _ _ | apply And.intro | (intro _ _; exact LsLe.rfl) | (refine dle_sl fun _ _ => ?_; exact ⟨DLe.rfl, dle_nil _ _, dle_nil _ _, trivial⟩))
  refine meets_frz (r := .tup [.c (.own 1 a fun _ => [eI (-1)]), .c (.own 1 b fun _ => [eB false]), .c (.own 3 b fun _ => [eI 0, .v nilS, .v nilS])]) ?_ rfl
  refine meets_of (H := []) (EX := EXA) ttok mixed Try.func54 rfl (by kernel_rfl) (by decide) ?_
  generalize hA : real = A
  generalize hM : MeetsB Try.prog = M
  cbv
  repeat' first
    | apply And.intro
    | exact True.intro
    | with_reducible rfl
    | exact same_of hA rfl
    | refine br_of hA (fun _ => ?_) (fun _ => ?_)
    | exact imp_of hA id
    | (refine imp_of hA ?_; subst hA; simp only [real, Bool.true_and]; exact id)
    | (refine ind_of hA ?_; decide +kernel)
    | fail
  refine loop_of hA (α := { i : Nat // i ≤ a }) (fun x => st_nb1 a b r2 r3 r4 r5 r6 r7 r8 r9 x.1) (fun x => a - x.1) ⟨0, Nat.zero_le _⟩ ?_ ?_
  · refine cov_of ?_ ?_ ?_
    · (subst hA; repeat' first | exact True.intro | exact rfl | apply And.intro | (intro q hq; exact absurd hq (Nat.not_lt_zero q)) | (intro _ _; rfl) | exact .inr (le_of_nble rfl) | exact .inl rfl)
    · (subst hA; repeat' first | exact True.intro | exact rfl | apply And.intro | (intro q hq; exact absurd hq (Nat.not_lt_zero q)) | (intro _ _; rfl) | exact .inr (le_of_nble rfl) | exact .inl rfl)
    · (subst hA; repeat' first | exact True.intro | exact rfl | apply And.intro | (intro q hq; exact absurd hq (Nat.not_lt_zero q)) | (intro _ _; rfl) | exact .inr (le_of_nble rfl) | exact .inl rfl)
  rintro ⟨i, hi⟩
  have hi : i ≤ a := hi
  have hn3 : a ≤ 3 := by omega
  cbv
  repeat' first
    | apply And.intro
    | exact True.intro
    | with_reducible rfl
    | exact same_of hA rfl
    | refine br_of hA (fun _ => ?_) (fun _ => ?_)
    | exact imp_of hA id
    | (refine imp_of hA ?_; subst hA; simp only [real, Bool.true_and]; exact id)
    | (refine ind_of hA ?_; decide +kernel)
    | exact room_add2 hA (by omega) (by decide)
    | exact room_of2 hA (by omega) (by decide)
    | (refine same_of hA ?_; subst hA; rfl)
    | fail
  · rename_i hlt
    have hlt' : i < a := by subst hA; have h : ((i : Int) < (a : Int)) := of_decide_eq_true hlt; omega
    have hn2 : a ≤ maxLen := Nat.le_trans hn3 (by decide)
    refine ⟨⟨i + 1, hlt'⟩, by simp only; omega, cov_of ?_ ?_ ?_⟩
    · (subst hA; repeat' first | exact True.intro | exact rfl | exact congrArg (fun x => DV.v (.int .i64 x)) (up64 hlt' hn2) | apply And.intro | (intro q hq; have hq : q < i + 1 := hq; exact (push_at rfl i (fun _ => [eI (-1)]) [eI (-1)] _ q hq).trans (ite_self _)) | (intro _ _; rfl) | exact .inr (le_of_nble rfl) | exact .inl rfl)
    · (subst hA; repeat' first | exact True.intro | exact rfl | exact congrArg (fun x => DV.v (.int .i64 x)) (up64 hlt' hn2) | apply And.intro | (intro q hq; have hq : q < i + 1 := hq; exact (push_at rfl i (fun _ => [eI (-1)]) [eI (-1)] _ q hq).trans (ite_self _)) | (intro _ _; rfl) | exact .inr (le_of_nble rfl) | exact .inl rfl)
    · (subst hA; repeat' first | exact True.intro | exact rfl | exact congrArg (fun x => DV.v (.int .i64 x)) (up64 hlt' hn2) | apply And.intro | (intro q hq; have hq : q < i + 1 := hq; exact (push_at rfl i (fun _ => [eI (-1)]) [eI (-1)] _ q hq).trans (ite_self _)) | (intro _ _; rfl) | exact .inr (le_of_nble rfl) | exact .inl rfl)
  · rename_i hge
    have hin : i = a := by
      subst hA
      have : ¬ ((i : Int) < (a : Int)) := of_decide_eq_false hge
      omega
    subst hin
    refine loop_of hA (α := { i2 : Nat // i2 ≤ b }) (fun x => st_nb2 i b r2 r3 r4 r5 r6 r7 r8 r9 x.1) (fun x => b - x.1) ⟨0, Nat.zero_le _⟩ ?_ ?_
    · refine cov_of ?_ ?_ ?_
      · (subst hA; repeat' first | exact True.intro | exact rfl | apply And.intro | (intro q hq; exact absurd hq (Nat.not_lt_zero q)) | (intro _ _; rfl) | exact .inr (le_of_nble rfl) | exact .inl rfl)
      · (subst hA; repeat' first | exact True.intro | exact rfl | apply And.intro | (intro q hq; exact absurd hq (Nat.not_lt_zero q)) | (intro _ _; rfl) | exact .inr (le_of_nble rfl) | exact .inl rfl)
      · (subst hA; repeat' first | exact True.intro | exact rfl | apply And.intro | (intro q hq; exact absurd hq (Nat.not_lt_zero q)) | (intro _ _; rfl) | exact .inr (le_of_nble rfl) | exact .inl rfl)
    rintro ⟨i2, hi⟩
    have hi : i2 ≤ b := hi
    have hn3 : b ≤ 3 := by omega
    cbv
    repeat' first
      | apply And.intro
      | exact True.intro
      | with_reducible rfl
      | exact same_of hA rfl
      | refine br_of hA (fun _ => ?_) (fun _ => ?_)
      | exact imp_of hA id
      | (refine imp_of hA ?_; subst hA; simp only [real, Bool.true_and]; exact id)
      | (refine ind_of hA ?_; decide +kernel)
      | exact room_add2 hA (by omega) (by decide)
      | exact room_of2 hA (by omega) (by decide)
      | (refine same_of hA ?_; subst hA; rfl)
      | fail
    · rename_i hlt
      have hlt' : i2 < b := by subst hA; have h : ((i2 : Int) < (b : Int)) := of_decide_eq_true hlt; omega
      have hn2 : b ≤ maxLen := Nat.le_trans hn3 (by decide)
      refine ⟨⟨i2 + 1, hlt'⟩, by simp only; omega, cov_of ?_ ?_ ?_⟩
      · (subst hA; repeat' first | exact True.intro | exact rfl | exact congrArg (fun x => DV.v (.int .i64 x)) (up64 hlt' hn2) | apply And.intro | (intro q hq; have hq : q < i2 + 1 := hq; exact (push_at rfl i2 (fun _ => [eB false]) [eB false] _ q hq).trans (ite_self _)) | (intro q hq; have hq : q < i2 + 1 := hq; exact (push_at rfl i2 (fun _ => [eI 0, .v nilS, .v nilS]) [eI 0, .v nilS, .v nilS] _ q hq).trans (ite_self _)) | (intro _ _; rfl) | exact .inr (le_of_nble rfl) | exact .inl rfl)
      · (subst hA; repeat' first | exact True.intro | exact rfl | exact congrArg (fun x => DV.v (.int .i64 x)) (up64 hlt' hn2) | apply And.intro | (intro q hq; have hq : q < i2 + 1 := hq; exact (push_at rfl i2 (fun _ => [eB false]) [eB false] _ q hq).trans (ite_self _)) | (intro q hq; have hq : q < i2 + 1 := hq; exact (push_at rfl i2 (fun _ => [eI 0, .v nilS, .v nilS]) [eI 0, .v nilS, .v nilS] _ q hq).trans (ite_self _)) | (intro _ _; rfl) | exact .inr (le_of_nble rfl) | exact .inl rfl)
      · (subst hA; repeat' first | exact True.intro | exact rfl | exact congrArg (fun x => DV.v (.int .i64 x)) (up64 hlt' hn2) | apply And.intro | (intro q hq; have hq : q < i2 + 1 := hq; exact (push_at rfl i2 (fun _ => [eB false]) [eB false] _ q hq).trans (ite_self _)) | (intro q hq; have hq : q < i2 + 1 := hq; exact (push_at rfl i2 (fun _ => [eI 0, .v nilS, .v nilS]) [eI 0, .v nilS, .v nilS] _ q hq).trans (ite_self _)) | (intro _ _; rfl) | exact .inr (le_of_nble rfl) | exact .inl rfl)
    · rename_i hge
      have hin : i2 = b := by
        subst hA
        have : ¬ ((i2 : Int) < (b : Int)) := of_decide_eq_false hge
        omega
      subst hin
      repeat' first
        | apply And.intro
        | exact True.intro
        | with_reducible rfl
        | exact same_of hA rfl
        | refine br_of hA (fun _ => ?_) (fun _ => ?_)
        | exact imp_of hA id
        | (refine imp_of hA ?_; subst hA; simp only [real, Bool.true_and]; exact id)
        | (refine ind_of hA ?_; decide +kernel)
        | (subst hA; rfl)
        | fail
end Go.Rk
/- Checkpoints, as said: new. -/
namespace Go.Rk
set_option linter.unusedSimpArgs false
set_option linter.unusedVariables false
open Go.Proofs
set_option maxRecDepth 100000
set_option maxHeartbeats 2000000
def st_sn1 (a b : Nat) (r2 r3 r4 r5 r6 r7 r8 r9 : DV) (i : Nat) : St := ⟨[(7, .c (.d (eI i))), (1, .c (.bp 64 1 0)), (2, .c (.bp 128 1 0)), (6, .c (.bp 384 1 0))], [(64, 1, .box [.d (eI (a : Int)), .d (eI (b : Int)), .d r2, .d r3, .d r4, .d r5, .d r6, .d r7, .d r8, .d r9]), (128, 1, .box [.d (eI 0), .d (eB false), .d (.v nilS), .d (.v nilS), .d (.v nilS), .d (eI 0), .d (.v nilS), .d (.v nilS)]), (384, 1, .box [.d (eI 0), .d (eB false), .d (.sl 1 a fun _ => [eI (-1)]), .d (.sl 1 b fun _ => [eB false]), .d (.sl 3 b fun _ => eSnap zSnp), .d (eI 0), .own 8001 0 i 1, .d (.v nilS)]), (8001, 1, .arr 1 i fun _ => [eI 0])]⟩
def st_sn2 (a b : Nat) (r2 r3 r4 r5 r6 r7 r8 r9 : DV) (ha : a ≤ 3) (i : Nat) : St := ⟨[(8, .c (.d (eI i))), (1, .c (.bp 64 1 0)), (2, .c (.bp 128 1 0)), (6, .c (.bp 384 1 0))], [(64, 1, .box [.d (eI (a : Int)), .d (eI (b : Int)), .d r2, .d r3, .d r4, .d r5, .d r6, .d r7, .d r8, .d r9]), (128, 1, .box [.d (eI 0), .d (eB false), .d (.v nilS), .d (.v nilS), .d (.v nilS), .d (eI 0), .d (.v nilS), .d (.v nilS)]), (384, 1, .box [.d (eI 0), .d (eB false), .d (.sl 1 a fun _ => [eI (-1)]), .d (.sl 1 b fun _ => [eB false]), .d (.sl 3 b fun _ => eSnap zSnp), .d (eI 0), .own 8001 0 a 1, .nown 8000 i 1]), (8001, 1, .arr 1 a fun _ => [eI 0]), (8000, 1, .nest 3 i (fun _ => eSnap (nSnp a ha)) none)]⟩
def EXSNew : FuncId → List Nat × Bool := fun f =>  ([], false)
theorem c_sCkpNew (j : JobT) (y : CkpT) (hy : y = newP j) : Meets Try.prog 22 [xd (eJob j)] ⟨.one (xd (eCkp y)), [none]⟩ := by
  obtain ⟨t, ht, hm⟩ := c_sJobOkP j
  cases t with
  | false =>
    have hno : ¬ JobOkP j := fun h => by have := ht.2 h; cases this
    obtain rfl : y = zCkp := by rw [hy]; unfold newP; rw [dif_neg hno]
    refine meets_wk (r := .one (.agg [.d (eI 0), .d (eB false), .d (.v nilS), .d (.v nilS), .d (.v nilS), .d (eI 0), .d (.v nilS), .d (.v nilS)])) ?_ (by repeat' first | exact True.intro | exact rfl | exact DLe.rfl | exact dle_nil _ _ | apply And.intro | (intro _ _; exact LsLe.rfl) | (refine dle_sl fun _ _ => ?_; exact ⟨DLe.rfl, dle_nil _ _, dle_nil _ _, trivial⟩))
    refine meets_of (H := []) (EX := EXSNew) ttok mixed Try.func22 rfl (by kernel_rfl) (by decide) ?_
    generalize hA : real = A
    generalize hM : MeetsB Try.prog = M
    cbv
    repeat' first
      | exact absurd (show false = true by subst hA; assumption) (by decide)
      | exact absurd (show true = false by subst hA; assumption) (by decide)
      | apply And.intro
      | exact True.intro
      | with_reducible rfl
      | exact same_of hA rfl
      | refine br_of hA (fun _ => ?_) (fun _ => ?_)
      | exact imp_of hA id
      | (refine imp_of hA ?_; subst hA; simp only [real, Bool.true_and]; exact id)
      | (refine ind_of hA ?_; decide +kernel)
      | (refine call_of hA hM _ hm ?_; cbv)
      | fail
  | true =>
    have hok : JobOkP j := ht.1 rfl
    have ea := jobS hok
    have eb := jobT hok
    obtain ⟨a, ha⟩ : ∃ a : Nat, a = j.srcs.toNat := ⟨_, rfl⟩
    obtain ⟨b, hbb⟩ : ∃ b : Nat, b = j.tsks.toNat := ⟨_, rfl⟩
    obtain ⟨ha1, ha3, ja⟩ : 1 ≤ a ∧ a ≤ 3 ∧ (a : Int) = j.srcs := by rw [ha]; exact ea
    obtain ⟨hb1, hb2, jb⟩ : 1 ≤ b ∧ b ≤ 2 ∧ (b : Int) = j.tsks := by rw [hbb]; exact eb
    obtain rfl : y = newC a b ha3 hb2 := by
      rw [hy]; unfold newP; rw [dif_pos hok]; subst ha hbb; rfl
    clear hy
    obtain ⟨j0, j1, j2, j3, j4, j5, j6, j7, j8, j9⟩ := j
    obtain rfl : (a : Int) = j0 := ja
    obtain rfl : (b : Int) = j1 := jb
    clear ht ha hbb hok ea eb
    refine meets_frz (r := .one (.agg [.d (eI 0), .d (eB false), .d (.sl 1 a fun _ => [eI (-1)]), .d (.sl 1 b fun _ => [eB false]), .d (.sl 3 b fun _ => eSnap zSnp), .d (eI 0), .own 1 a fun _ => [eI 0], .nown 3 b fun _ => eSnap (nSnp a ha3)])) ?_ rfl
    refine meets_of (H := []) (EX := EXSNew) ttok mixed Try.func22 rfl (by kernel_rfl) (by decide) ?_
    generalize hA : real = A
    generalize hM : MeetsB Try.prog = M
    cbv
    repeat' first
      | exact absurd (show false = true by subst hA; assumption) (by decide)
      | exact absurd (show true = false by subst hA; assumption) (by decide)
      | apply And.intro
      | exact True.intro
      | with_reducible rfl
      | exact same_of hA rfl
      | refine br_of hA (fun _ => ?_) (fun _ => ?_)
      | exact imp_of hA id
      | (refine imp_of hA ?_; subst hA; simp only [real, Bool.true_and]; exact id)
      | (refine ind_of hA ?_; decide +kernel)
      | (refine call_of hA hM _ hm ?_; cbv)
      | (refine call_of hA hM _ (c_nobody a b ha3 hb2 (eI j2) (eI j3) (eI j4) (eI j5) (eI j6) (eB j7) (eI j8) (eI j9)) ?_; cbv)
      | fail
    refine loop_of hA (α := { i : Nat // i ≤ a }) (fun x => st_sn1 a b (eI j2) (eI j3) (eI j4) (eI j5) (eI j6) (eB j7) (eI j8) (eI j9) x.1) (fun x => a - x.1) ⟨0, Nat.zero_le _⟩ ?_ ?_
    · refine cov_promC 384 8001 1 1 (fun _ => [eI 0]) [.d (eI 0), .d (eB false), .d (.sl 1 a fun _ => [eI (-1)]), .d (.sl 1 b fun _ => [eB false]), .d (.sl 3 b fun _ => eSnap zSnp), .d (eI 0)] [.d (.v nilS)] rfl rfl rfl (cov_of ?_ ?_ ?_)
      · (subst hA; repeat' first | exact True.intro | exact rfl | apply And.intro | (intro _ _; rfl) | (intro _ _ _; rfl) | (intro q hq; exact absurd hq (Nat.not_lt_zero q)))
      · (subst hA; repeat' first | exact True.intro | exact rfl | apply And.intro | (intro _ _; rfl) | (intro _ _ _; rfl) | (intro q hq; exact absurd hq (Nat.not_lt_zero q)))
      · (subst hA; repeat' first | exact True.intro | exact rfl | apply And.intro | (intro _ _; rfl) | (intro _ _ _; rfl) | (intro q hq; exact absurd hq (Nat.not_lt_zero q)) | exact .inr (le_of_nble rfl) | exact .inl rfl)
    rintro ⟨i, hi⟩
    have hi : i ≤ a := hi
    cbv
    repeat' first
      | apply And.intro
      | exact True.intro
      | with_reducible rfl
      | exact same_of hA rfl
      | refine br_of hA (fun _ => ?_) (fun _ => ?_)
      | exact imp_of hA id
      | (refine imp_of hA ?_; subst hA; simp only [real, Bool.true_and]; exact id)
      | (refine ind_of hA ?_; decide +kernel)
      | exact room_z hA (by omega) (by decide)
      | exact room_add2 hA (by omega) (by decide)
      | exact room_of2 hA (by omega) (by decide)
      | (refine same_of hA ?_; subst hA; rfl)
      | (subst hA; show 0 ≤ (a : Int) ∧ (a : Int) = (a : Int) ∧ (a : Int) * _ ≤ 140737488355328 ∧ (a : Int) ≤ 140737488355328; refine ⟨by omega, rfl, by omega, by omega⟩)
      | fail
    · rename_i hlt
      have hlt' : i < a := by subst hA; have h : ((i : Int) < (a : Int)) := of_decide_eq_true hlt; omega
      have hn2 : a ≤ maxLen := small_len ha3
      refine ⟨⟨i + 1, hlt'⟩, by simp only; omega, cov_of ?_ ?_ ?_⟩
      · (subst hA; repeat' first | exact True.intro | exact rfl | apply And.intro | exact congrArg (fun x => DV.v (.int .i64 x)) (up64 hlt' hn2) | (intro q hq; have hq : q < i + 1 := hq; exact (push_at rfl i (fun _ => [eI 0]) [eI 0] _ q hq).trans (ite_self _)) | (intro _ _; rfl) | (intro _ _ _; rfl) | (intro q hq; exact absurd hq (Nat.not_lt_zero q)))
      · (subst hA; repeat' first | exact True.intro | exact rfl | apply And.intro | exact congrArg (fun x => DV.v (.int .i64 x)) (up64 hlt' hn2) | (intro q hq; have hq : q < i + 1 := hq; exact (push_at rfl i (fun _ => [eI 0]) [eI 0] _ q hq).trans (ite_self _)) | (intro _ _; rfl) | (intro _ _ _; rfl) | (intro q hq; exact absurd hq (Nat.not_lt_zero q)))
      · (subst hA; repeat' first | exact True.intro | exact rfl | apply And.intro | exact congrArg (fun x => DV.v (.int .i64 x)) (up64 hlt' hn2) | (intro q hq; have hq : q < i + 1 := hq; exact (push_at rfl i (fun _ => [eI 0]) [eI 0] _ q hq).trans (ite_self _)) | (intro _ _; rfl) | (intro _ _ _; rfl) | (intro q hq; exact absurd hq (Nat.not_lt_zero q)) | exact .inr (le_of_nble rfl) | exact .inl rfl)
    have hin : i = a := by
      rename_i hge
      subst hA
      have : ¬ ((i : Int) < (a : Int)) := of_decide_eq_false hge
      omega
    subst hin
    refine loop_of hA (α := { k : Nat // k ≤ b }) (fun x => st_sn2 i b (eI j2) (eI j3) (eI j4) (eI j5) (eI j6) (eB j7) (eI j8) (eI j9) ha3 x.1) (fun x => b - x.1) ⟨0, Nat.zero_le _⟩ ?_ ?_
    · refine cov_promCN 384 8000 1 3 (fun _ => eSnap (nSnp i ha3)) [.d (eI 0), .d (eB false), .d (.sl 1 i fun _ => [eI (-1)]), .d (.sl 1 b fun _ => [eB false]), .d (.sl 3 b fun _ => eSnap zSnp), .d (eI 0), .own 8001 0 i 1] [] rfl rfl rfl (cov_of ?_ ?_ ?_)
      · (subst hA; repeat' first | exact True.intro | exact rfl | apply And.intro | (intro _ _; rfl) | (intro _ _ _; rfl) | (intro q hq; exact absurd hq (Nat.not_lt_zero q)))
      · (subst hA; repeat' first | exact True.intro | exact rfl | apply And.intro | (intro _ _; rfl) | (intro _ _ _; rfl) | (intro q hq; exact absurd hq (Nat.not_lt_zero q)))
      · (subst hA; repeat' first | exact True.intro | exact rfl | apply And.intro | (intro _ _; rfl) | (intro _ _ _; rfl) | (intro q hq; exact absurd hq (Nat.not_lt_zero q)) | exact .inr (le_of_nble rfl) | exact .inl rfl)
    rintro ⟨k, hk⟩
    have hk : k ≤ b := hk
    cbv
    repeat' first
      | apply And.intro
      | exact True.intro
      | with_reducible rfl
      | exact same_of hA rfl
      | refine br_of hA (fun _ => ?_) (fun _ => ?_)
      | exact imp_of hA id
      | (refine imp_of hA ?_; subst hA; simp only [real, Bool.true_and]; exact id)
      | (refine ind_of hA ?_; decide +kernel)
      | exact room_z hA (by omega) (by decide)
      | exact room_add2 hA (by omega) (by decide)
      | exact room_of2 hA (by omega) (by decide)
      | (refine same_of hA ?_; subst hA; rfl)
      | (subst hA; show 0 ≤ (i : Int) ∧ (i : Int) = (i : Int) ∧ (i : Int) * _ ≤ 140737488355328 ∧ (i : Int) ≤ 140737488355328; refine ⟨by omega, rfl, by omega, by omega⟩)
      | fail
    · rename_i hlt
      have hlt' : k < b := by subst hA; have h : ((k : Int) < (b : Int)) := of_decide_eq_true hlt; omega
      have hn2 : b ≤ maxLen := Nat.le_trans hb2 (by decide)
      refine ⟨⟨k + 1, hlt'⟩, by simp only; omega, cov_close 8000 (fun _ => eSnap (nSnp i ha3)) (eSnap (nSnp i ha3)) [(47 * 64, 1)] rfl ?_ rfl rfl (fun k _ _ => rfl) (cov_of ?_ ?_ ?_)⟩
      · subst hA; exact close_v (close_nil (close_own rfl (fun _ _ => rfl) (flatR fun _ => flat_int _) close_end))
      · (subst hA; repeat' first | exact True.intro | exact rfl | apply And.intro | exact congrArg (fun x => DV.v (.int .i64 x)) (up64 hlt' hn2) | (intro q hq; have hq : q < i + 1 := hq; exact (push_at rfl i (fun _ => [eI 0]) [eI 0] _ q hq).trans (ite_self _)) | (intro _ _; rfl) | (intro _ _ _; rfl) | (intro q hq; exact absurd hq (Nat.not_lt_zero q)))
      · (subst hA; repeat' first | exact True.intro | exact rfl | apply And.intro | exact congrArg (fun x => DV.v (.int .i64 x)) (up64 hlt' hn2) | (intro q hq; have hq : q < i + 1 := hq; exact (push_at rfl i (fun _ => [eI 0]) [eI 0] _ q hq).trans (ite_self _)) | (intro _ _; rfl) | (intro _ _ _; rfl) | (intro q hq; exact absurd hq (Nat.not_lt_zero q)))
      · (subst hA; repeat' first | exact True.intro | exact rfl | apply And.intro | exact congrArg (fun x => DV.v (.int .i64 x)) (up64 hlt' hn2) | (intro q hq; have hq : q < i + 1 := hq; exact (push_at rfl i (fun _ => [eI 0]) [eI 0] _ q hq).trans (ite_self _)) | (intro _ _; rfl) | (intro _ _ _; rfl) | (intro q hq; exact absurd hq (Nat.not_lt_zero q)) | exact .inr (le_of_nble rfl) | exact .inl rfl)
    · rename_i hge
      have hin : k = b := by
        subst hA
        have : ¬ ((k : Int) < (b : Int)) := of_decide_eq_false hge
        omega
      subst hin
      rfl
end Go.Rk
/- A divisor that is not nought. -/
namespace Go.Rk
set_option linter.unusedSimpArgs false
set_option linter.unusedVariables false
theorem nz_of {A : Ar} (hA : real = A) {g : Bool} {n : Int} (h : n ≠ 0) : A.nz g n := by subst hA; exact fun _ => h
end Go.Rk
/- Draws: pick. -/
namespace Go.Rk
set_option linter.unusedSimpArgs false
set_option linter.unusedVariables false
open Go.Proofs
set_option maxRecDepth 100000
set_option maxHeartbeats 1000000
set_option maxRecDepth 100000 in
theorem m_open (M0 : Nat) (b : Nat → Int) (m : Nat) (hm : m = if 2000 < M0 then 2000 else M0) : Meets Try.prog 49 [.c (.d (.sl 1 M0 fun i => [eU (b i)]))] ⟨.one (.c (.box [.d (.sl 1 m fun i => [eU (b i)]), .d (eI 0)])), [none]⟩ := by
  refine meets_of (H := []) (EX := EXA) ttok mixed Try.func49 rfl (by kernel_rfl) (by decide) ?_
  generalize hA : real = A
  generalize hM : MeetsB Try.prog = M
  cbv
  repeat' first
    | apply And.intro
    | exact True.intro
    | with_reducible rfl
    | exact same_of hA rfl
    | refine br_of hA (fun _ => ?_) (fun _ => ?_)
    | exact imp_of hA id
    | (refine imp_of hA ?_; subst hA; simp only [real, Bool.true_and]; exact id)
    | (refine ind_of hA ?_; decide +kernel)
    | (refine cut_of hA ?_; rename_i h; subst hA; have h9 : decide ((M0 : Int) > 2000) = true := h; have := of_decide_eq_true h9; exact ⟨Int.le_refl _, (by decide), (show (2000 : Int) ≤ (M0 : Int) by omega)⟩)
    | fail
  · rename_i h
    subst hA
    have h9 : decide ((M0 : Int) > 2000) = true := h
    have h8 := of_decide_eq_true h9
    have e : m = 2000 := by rw [hm]; exact if_pos (by omega)
    subst e
    have e2 : (fun i => (fun i => [eU (b i)]) (0 + i)) = fun i => [eU (b i)] := by funext i; rw [Nat.zero_add]
    exact congrArg (fun f => XA.one (XT.c (.box [.d (.sl 1 2000 f), .d (eI 0)]))) e2
  · rename_i h
    subst hA
    have h9 : decide ((M0 : Int) > 2000) = false := h
    have h8 := of_decide_eq_false h9
    have e : m = M0 := by rw [hm]; exact if_neg (by omega)
    subst e
    rfl
set_option maxRecDepth 100000 in
theorem m_pick (m : Nat) (hm : m ≤ 2000) (b : Nat → Int) (hb : ∀ i, 0 ≤ b i ∧ b i ≤ 255) (p : Int) (hp : 0 ≤ p ∧ p ≤ 1000000) (n : Int) (hn : 1 ≤ n ∧ n ≤ 1000000) (x : Int) (hx : x = pickV m b p n) (q : Int) (hq : q = p + 1) : Meets Try.prog 98 [.c (.box [.d (.sl 1 m fun i => [eU (b i)]), .d (eI p)]), .c (.d (eI n))] ⟨.one (.c (.d (eI x))), [some (.box [.d (.sl 1 m fun i => [eU (b i)]), .d (eI q)]), none]⟩ := by
  have w1 : IntKind.i64.wrap (p + 1) = q := by rw [IntWalk.i64_in _ (by omega)]; omega
  have w2 : IntKind.i64.wrap (q - 1) = p := by rw [IntWalk.i64_in _ (by omega)]; omega
  have w7 : IntKind.i64.wrap (p * 7) = p * 7 := IntWalk.i64_in _ (by omega)
  have w73 : IntKind.i64.wrap (p * 7 + 3) = p * 7 + 3 := IntWalk.i64_in _ (by omega)
  have mpos : real.bite (real.cmp .lss n 1) true (real.cmp .eql (real.int m) 0) = false → 1 ≤ m := fun h => by
    have h : (bif decide (n < 1) then true else ((m : Int) == 0)) = false := h
    rw [decide_eq_false (by omega)] at h
    have h : ((m : Int) == 0) = false := h
    have h : ¬ (m : Int) = 0 := by simpa using h
    omega
  refine meets_of (H := []) (EX := EXA) ttok mixed Try.func98 rfl (by kernel_rfl) (by decide) ?_
  generalize hA : real = A
  generalize hM : MeetsB Try.prog = M
  cbv
  repeat' first
    | apply And.intro
    | exact True.intro
    | with_reducible rfl
    | exact same_of hA rfl
    | refine br_of hA (fun _ => ?_) (fun _ => ?_)
    | exact imp_of hA id
    | (refine imp_of hA ?_; subst hA; simp only [real, Bool.true_and]; exact id)
    | (refine ind_of hA ?_; decide +kernel)
    | (refine nz_of hA ?_; first | (show n ≠ 0; omega) | (show (64 : Int) ≠ 0; decide) | (rename_i h1 h2; subst hA; have h3 := mpos h1; show (m : Int) ≠ 0; omega))
    | fail
  · rename_i hbad
    subst hA
    have h : (bif decide (n < 1) then true else ((m : Int) == 0)) = true := hbad
    rw [decide_eq_false (by omega)] at h
    have h : ((m : Int) == 0) = true := h
    have h : (m : Int) = 0 := by simpa using h
    refine congrArg (fun z => XA.one (.c (.d (eI z)))) ?_
    rw [hx]; unfold pickV; rw [if_pos (by omega)]
  · rename_i hbad
    subst hA
    exact congrArg (fun z => [some (XV.box [XC.d (DV.sl 1 m fun i => [eU (b i)]), XC.d (eI z)]), none]) w1
  · rename_i hg hlt
    refine inb_of hA fun _ => ?_
    subst hA
    have hlt : decide (IntKind.i64.wrap (IntKind.i64.wrap (p + 1) - 1) < (m : Int)) = true := hlt
    have hlt := of_decide_eq_true hlt
    show 0 ≤ IntKind.i64.wrap (IntKind.i64.wrap (p + 1) - 1) ∧ IntKind.i64.wrap (IntKind.i64.wrap (p + 1) - 1) < (m : Int)
    rw [w1, w2] at hlt ⊢
    exact ⟨hp.1, hlt⟩
  · rename_i hg hlt
    subst hA
    have hlt : decide (IntKind.i64.wrap (IntKind.i64.wrap (p + 1) - 1) < (m : Int)) = true := hlt
    have hlt := of_decide_eq_true hlt
    rw [w1, w2] at hlt
    refine congrArg (fun z => XA.one (.c (.d (eI z)))) ?_
    have h1 := mpos hg
    show (IntKind.i64.wrap (b (IntKind.i64.wrap (IntKind.i64.wrap (p + 1) - 1)).toNat)).tmod n = x
    have hbb := hb p.toNat
    rw [w1, w2, IntWalk.i64_in _ (by omega), hx]
    unfold pickV
    rw [if_neg (by omega), if_pos hlt]
  · rename_i hg hlt
    subst hA
    exact congrArg (fun z => [some (XV.box [XC.d (DV.sl 1 m fun i => [eU (b i)]), XC.d (eI z)]), none]) w1
  · rename_i hg hlt
    refine inb_of hA fun _ => ?_
    subst hA
    have h1 := mpos hg
    show 0 ≤ (IntKind.i64.wrap (IntKind.i64.wrap (p + 1) - 1)).tmod (m : Int) ∧ (IntKind.i64.wrap (IntKind.i64.wrap (p + 1) - 1)).tmod (m : Int) < (m : Int)
    rw [w1, w2]
    exact tmod_in hp.1 (Int.ofNat_le.2 h1)
  · rename_i hg hlt
    refine inb_of hA fun _ => ?_
    subst hA
    have h1 := mpos hg
    show 0 ≤ (IntKind.i64.wrap (IntKind.i64.wrap (IntKind.i64.wrap (IntKind.i64.wrap (p + 1) - 1) * 7) + 3)).tmod (m : Int) ∧ (IntKind.i64.wrap (IntKind.i64.wrap (IntKind.i64.wrap (IntKind.i64.wrap (p + 1) - 1) * 7) + 3)).tmod (m : Int) < (m : Int)
    rw [w1, w2, w7, w73]
    exact tmod_in (by omega) (Int.ofNat_le.2 h1)
  · rename_i hg hlt
    subst hA
    have hlt : decide (IntKind.i64.wrap (IntKind.i64.wrap (p + 1) - 1) < (m : Int)) = false := hlt
    have hlt := of_decide_eq_false hlt
    rw [w1, w2] at hlt
    have h1 := mpos hg
    refine congrArg (fun z => XA.one (.c (.d (eI z)))) ?_
    rw [hx]; unfold pickV
    rw [if_neg (by omega), if_neg hlt]
    have hy := pickY_in (m := m) (p := p) (b := b) h1 hb hp
    obtain ⟨W, hW⟩ : ∃ W, W = IntKind.i64.wrap (IntKind.i64.wrap (p + 1) - 1) := ⟨_, rfl⟩
    have hWp : W = p := by rw [hW, w1, w2]
    obtain ⟨Y, hY⟩ : ∃ Y, Y = IntKind.i64.wrap (IntKind.i64.wrap (IntKind.i64.wrap (IntKind.i64.wrap (IntKind.i64.wrap (b (W.tmod (m : Int)).toNat) * 131) + IntKind.i64.wrap (IntKind.i64.wrap (b ((IntKind.i64.wrap (IntKind.i64.wrap (W * 7) + 3)).tmod (m : Int)).toNat) * 1117)) + IntKind.i64.wrap (W * 29)) + IntKind.i64.wrap (IntKind.i64.wrap (W.tdiv (m : Int)) * 53)) := ⟨_, rfl⟩
    have hYp : Y = pickY m b p := by
      rw [hY, hWp, w7, w73]
      unfold pickY
      have b1 := hb (p.tmod (m : Int)).toNat
      have b2 := hb ((p * 7 + 3).tmod (m : Int)).toNat
      have d1 : 0 ≤ p.tdiv (m : Int) := Int.tdiv_nonneg hp.1 (Int.natCast_nonneg m)
      have d2 : p.tdiv (m : Int) ≤ p := Int.tdiv_le_self (m : Int) hp.1
      generalize b (p.tmod (m : Int)).toNat = c1 at b1 ⊢
      generalize b ((p * 7 + 3).tmod (m : Int)).toNat = c2 at b2 ⊢
      generalize p.tdiv (m : Int) = d at d1 d2 ⊢
      rw [IntWalk.i64_in c1 (by omega), IntWalk.i64_in c2 (by omega), IntWalk.i64_in d (by omega), IntWalk.i64_in (c1 * 131) (by omega), IntWalk.i64_in (c2 * 1117) (by omega), IntWalk.i64_in (p * 29) (by omega), IntWalk.i64_in (d * 53) (by omega), IntWalk.i64_in (c1 * 131 + c2 * 1117) (by omega), IntWalk.i64_in (c1 * 131 + c2 * 1117 + p * 29) (by omega), IntWalk.i64_in _ (by omega)]
    have q1 : 0 ≤ (pickY m b p).tdiv 64 := Int.tdiv_nonneg hy.1 (by decide)
    have q2 : (pickY m b p).tdiv 64 ≤ pickY m b p := Int.tdiv_le_self 64 hy.1
    have key : (IntKind.i64.wrap (BitVec.ofInt 64 Y ^^^ BitVec.ofInt 64 (IntKind.i64.wrap (Y.tdiv 64))).toNat).tmod n = (pickX (pickY m b p)).tmod n := by
      rw [hYp, IntWalk.i64_in ((pickY m b p).tdiv 64) (by omega)]; rfl
    rw [← key, hY, hW]
    rfl
  · rename_i hg hlt
    subst hA
    exact congrArg (fun z => [some (XV.box [XC.d (DV.sl 1 m fun i => [eU (b i)]), XC.d (eI z)]), none]) w1
end Go.Rk
/- Draws: a job. -/
namespace Go.Rk
set_option linter.unusedSimpArgs false
set_option linter.unusedVariables false
open Go.Proofs
set_option maxRecDepth 100000
set_option maxHeartbeats 1000000
def EXD : FuncId → List Nat × Bool := fun f => ([], nbeq f 0)
theorem x_pick (m : Nat) (hm : m ≤ 2000) (b : Nat → Int) (hb : ∀ i, 0 ≤ b i ∧ b i ≤ 255) (p : Int) (hp : 0 ≤ p ∧ p ≤ 1000000) (n : Int) (hn : 1 ≤ n ∧ n ≤ 1000000) : ∃ y : Int × Int, (0 ≤ y.1 ∧ y.1 < n ∧ y.2 = p + 1) ∧ Meets Try.prog 98 [.c (.box [.d (.sl 1 m fun i => [eU (b i)]), .d (eI p)]), .c (.d (eI n))] ⟨.one (.c (.d (eI y.1))), [some (.box [.d (.sl 1 m fun i => [eU (b i)]), .d (eI y.2)]), none]⟩ :=
  ⟨(pickV m b p n, p + 1), ⟨(pickV_in hb hp hn.1).1, (pickV_in hb hp hn.1).2, rfl⟩, m_pick m hm b hb p hp n hn _ rfl _ rfl⟩
theorem x_job (m : Nat) (hm : m ≤ 2000) (b : Nat → Int) (hb : ∀ i, 0 ≤ b i ∧ b i ≤ 255) (p : Int) (hp : 0 ≤ p ∧ p ≤ 150000)  : ∃ y : JobT × Int, (p ≤ y.2 ∧ y.2 ≤ p + 20) ∧ Meets Try.prog 97 [.c (.box [.d (.sl 1 m fun i => [eU (b i)]), .d (eI p)])] ⟨.one (xd (eJob y.1)), [some (.box [.d (.sl 1 m fun i => [eU (b i)]), .d (eI y.2)])]⟩ := by
  refine meets_ex (H := []) (EX := EXD) ttok mixed ([some (.box [.d (.sl 1 m fun i => [eU (b i)]), .d (eI 0)])]) Try.func97 rfl (by kernel_rfl) (by decide) (fun _ => rfl) ?_
  generalize hA : real = A
  generalize hM : MeetsB Try.prog = M
  cbv
  repeat' first
    | apply And.intro
    | exact True.intro
    | with_reducible rfl
    | exact same_of hA rfl
    | refine br_of hA (fun _ => ?_) (fun _ => ?_)
    | exact imp_of hA id
    | (refine imp_of hA ?_; subst hA; simp only [real, Bool.true_and]; exact id)
    | (refine ind_of hA ?_; decide +kernel)
    | (refine call_ex hA hM (x_pick m hm b hb _ (by omega) _ (by omega)) ?_; rintro ⟨x, q⟩ ⟨hx0, hx1, hq⟩; dsimp only at hx0 hx1 hq; cbv)
    | (refine inb_of hA (fun _ => ?_); (first | omega | (constructor <;> omega)))
    | (refine nz_of hA ?_; first | (show (2 : Int) ≠ 0; decide) | (subst hA; show IntKind.i64.wrap (1 + x) ≠ 0; rw [IntWalk.i64_in _ (by omega)]; omega))
    | (refine fin_of hA ⟨⟨⟨_, _, _, _, _, _, _, _, _, _⟩, _⟩, ?_, rfl, rfl⟩; simp only; omega)
    | fail
theorem x_anyJob (m : Nat) (hm : m ≤ 2000) (b : Nat → Int) (hb : ∀ i, 0 ≤ b i ∧ b i ≤ 255) (p : Int) (hp : 0 ≤ p ∧ p ≤ 100000) (n : Int) (hn : 1 ≤ n ∧ n ≤ 100) : ∃ y : JobT × Int, (p ≤ y.2 ∧ y.2 ≤ p + 40) ∧ Meets Try.prog 48 [.c (.box [.d (.sl 1 m fun i => [eU (b i)]), .d (eI p)]), .c (.d (eI n))] ⟨.one (xd (eJob y.1)), [some (.box [.d (.sl 1 m fun i => [eU (b i)]), .d (eI y.2)]), none]⟩ := by
  refine meets_ex (H := []) (EX := EXD) ttok mixed ([some (.box [.d (.sl 1 m fun i => [eU (b i)]), .d (eI 0)]), none]) Try.func48 rfl (by kernel_rfl) (by decide) (fun _ => rfl) ?_
  generalize hA : real = A
  generalize hM : MeetsB Try.prog = M
  cbv
  repeat' first
    | apply And.intro
    | exact True.intro
    | with_reducible rfl
    | exact same_of hA rfl
    | refine br_of hA (fun _ => ?_) (fun _ => ?_)
    | exact imp_of hA id
    | (refine imp_of hA ?_; subst hA; simp only [real, Bool.true_and]; exact id)
    | (refine ind_of hA ?_; decide +kernel)
    | (refine call_ex hA hM (x_job m hm b hb _ (by omega)) ?_; rintro ⟨j, q⟩ ⟨hq0, hq1⟩; dsimp only at hq0 hq1; cbv)
    | (refine call_ex hA hM (x_pick m hm b hb _ (by omega) _ (by omega)) ?_; rintro ⟨x, q⟩ ⟨hx0, hx1, hq⟩; dsimp only at hx0 hx1 hq; cbv)
    | (refine inb_of hA (fun _ => ?_); (first | omega | (constructor <;> omega)))
    | (refine fin_of hA ⟨⟨⟨_, _, _, _, _, _, _, _, _, _⟩, _⟩, ?_, rfl, rfl⟩; simp only; omega)
    | fail
end Go.Rk
/- Draws: comparisons of checkpoints. -/
namespace Go.Rk
set_option linter.unusedSimpArgs false
set_option linter.unusedVariables false
open Go.Proofs
set_option maxRecDepth 100000
set_option maxHeartbeats 1000000
def st_frInts (n : Nat) (g : Nat → Int) (i : Nat) : St := ⟨[(5, .c (.d (eI i))), (0, .c (.d (.sl 1 n fun i => eint (g i)))), (1, .c (.d (.sl 1 n fun i => eint (g i))))], []⟩
theorem c_frInts (n : Nat) (hn : n ≤ maxLen) (g : Nat → Int) : Meets Try.prog 52 [.c (.d (.sl 1 n fun i => eint (g i))), .c (.d (.sl 1 n fun i => eint (g i)))] ⟨.one (.c (.d (eB true))), [none, none]⟩ := by
  refine meets_of (H := []) (EX := EXA) ttok mixed Try.func52 rfl (by kernel_rfl) (by decide) ?_
  generalize hA : real = A
  generalize hM : MeetsB Try.prog = M
  cbv
  repeat' first
    | (refine br_f hA ?_ ?_; focus (subst hA; simp [real]; done))
    | apply And.intro
    | exact True.intro
    | with_reducible rfl
    | exact same_of hA rfl
    | refine br_of hA (fun _ => ?_) (fun _ => ?_)
    | exact imp_of hA id
    | (refine imp_of hA ?_; subst hA; simp only [real, Bool.true_and]; exact id)
    | (refine ind_of hA ?_; decide +kernel)
    | fail
  refine loop_of hA (α := { i : Nat // i ≤ n }) (fun x => st_frInts n g x.1) (fun x => n - x.1) ⟨0, Nat.zero_le _⟩ ?_ ?_
  · refine cov_of ?_ ?_ ?_
    · cbv; try (subst hA; repeat' first | apply And.intro | exact True.intro | rfl)
    · cbv; try (subst hA; repeat' first | apply And.intro | exact True.intro | rfl)
    · cbv
  rintro ⟨i, hi⟩
  cbv
  repeat' first
    | (refine br_f hA ?_ ?_; focus (subst hA; simp [real]; done))
    | apply And.intro
    | exact True.intro
    | with_reducible rfl
    | exact same_of hA rfl
    | refine br_of hA (fun _ => ?_) (fun _ => ?_)
    | exact imp_of hA id
    | (refine imp_of hA ?_; subst hA; simp only [real, Bool.true_and]; exact id)
    | (refine ind_of hA ?_; decide +kernel)
    | (refine inb_of hA fun _ => ?_; subst hA; simp only [real, Bool.and_eq_true, Bool.not_eq_true', Bool.not_eq_false', decide_eq_true_eq, Int.ofNat_eq_natCast, IntKind.wrap_i64] at *; omega)
    | fail
  rename_i hlt
  have hlt' : i < n := by subst hA; simp only [real, decide_eq_true_eq, Int.ofNat_eq_natCast] at hlt; omega
  refine ⟨⟨i + 1, by omega⟩, by simp only; omega, cov_of ?_ ?_ ?_⟩
  · cbv
    subst hA
    repeat' first | apply And.intro | exact True.intro | exact congrArg (fun x => DV.v (.int .i64 x)) (up64 hlt' hn) | rfl | (intro k hk; exact push_at rfl _ _ _ _ k hk)
  · cbv; try (subst hA; repeat' first | apply And.intro | exact True.intro | rfl)
  · cbv
def st_frOp (mk : Int) (n : Nat) (g : Nat → RowT) (i : Nat) : St := ⟨[(5, .c (.d (eI i))), (3, .c (.bp 192 1 0)), (2, .c (.bp 128 1 0))], [(192, 1, .box [.d (eI mk), .d (.sl 13 n fun i => eRow (g i))]), (128, 1, .box [.d (eI mk), .d (.sl 13 n fun i => eRow (g i))])]⟩
theorem c_frOp (mk : Int) (n : Nat) (hn : n ≤ maxLen) (g : Nat → RowT) : Meets Try.prog 101 [.agg [.d (eI mk), .d (.sl 13 n fun i => eRow (g i))], .agg [.d (eI mk), .d (.sl 13 n fun i => eRow (g i))]] ⟨.one (.c (.d (eB true))), [none, none]⟩ := by
  refine meets_of (H := []) (EX := EXA) ttok mixed Try.func101 rfl (by kernel_rfl) (by decide) ?_
  generalize hA : real = A
  generalize hM : MeetsB Try.prog = M
  cbv
  repeat' first
    | (refine br_f hA ?_ ?_; focus (subst hA; simp [real]; done))
    | apply And.intro
    | exact True.intro
    | with_reducible rfl
    | exact same_of hA rfl
    | refine br_of hA (fun _ => ?_) (fun _ => ?_)
    | exact imp_of hA id
    | (refine imp_of hA ?_; subst hA; simp only [real, Bool.true_and]; exact id)
    | (refine ind_of hA ?_; decide +kernel)
    | fail
  refine loop_of hA (α := { i : Nat // i ≤ n }) (fun x => st_frOp mk n g x.1) (fun x => n - x.1) ⟨0, Nat.zero_le _⟩ ?_ ?_
  · refine cov_of ?_ ?_ ?_
    · cbv; try (subst hA; repeat' first | apply And.intro | exact True.intro | rfl)
    · cbv; try (subst hA; repeat' first | apply And.intro | exact True.intro | rfl)
    · cbv
  rintro ⟨i, hi⟩
  cbv
  repeat' first
    | (refine br_f hA ?_ ?_; focus (subst hA; simp [real]; done))
    | apply And.intro
    | exact True.intro
    | with_reducible rfl
    | exact same_of hA rfl
    | refine br_of hA (fun _ => ?_) (fun _ => ?_)
    | exact imp_of hA id
    | (refine imp_of hA ?_; subst hA; simp only [real, Bool.true_and]; exact id)
    | (refine ind_of hA ?_; decide +kernel)
    | (refine inb_of hA fun _ => ?_; subst hA; simp only [real, Bool.and_eq_true, Bool.not_eq_true', Bool.not_eq_false', decide_eq_true_eq, Int.ofNat_eq_natCast, IntKind.wrap_i64] at *; omega)
    | fail
  rename_i hlt
  have hlt' : i < n := by subst hA; simp only [real, decide_eq_true_eq, Int.ofNat_eq_natCast] at hlt; omega
  refine ⟨⟨i + 1, by omega⟩, by simp only; omega, cov_of ?_ ?_ ?_⟩
  · cbv
    subst hA
    repeat' first | apply And.intro | exact True.intro | exact congrArg (fun x => DV.v (.int .i64 x)) (up64 hlt' hn) | rfl | (intro k hk; exact push_at rfl _ _ _ _ k hk)
  · cbv; try (subst hA; repeat' first | apply And.intro | exact True.intro | rfl)
  · cbv; try (subst hA; repeat' first | apply And.intro | exact True.intro | rfl | exact .inr trivial | exact .inl trivial)
theorem c_frOk : Meets Try.prog 25 [] ⟨.one (.c (.d (eB true))), []⟩ := by
  have h : Meets Try.prog 59 [.agg [.d (eI 0), .d (eI 1)]] ⟨.one (.c (.d (eB true))), [none]⟩ := by
    obtain ⟨b, hb, h⟩ := c_WinOk 0 1
    have e : b = true := by rw [hb]; decide
    rw [e] at h; exact h
  refine meets_of (H := []) (EX := EXA) ttok mixed Try.func25 rfl (by kernel_rfl) (by decide) ?_
  generalize hA : real = A
  generalize hM : MeetsB Try.prog = M
  cbv
  repeat' first
    | apply And.intro
    | exact True.intro
    | with_reducible rfl
    | exact same_of hA rfl
    | refine br_of hA (fun _ => ?_) (fun _ => ?_)
    | exact imp_of hA id
    | (refine imp_of hA ?_; subst hA; simp only [real, Bool.true_and]; exact id)
    | (refine ind_of hA ?_; decide +kernel)
    | (refine call_of hA hM _ h ?_; cbv)
    | fail
def st_frSnaps (n : Nat) (g : Nat → SnapT) (i : Nat) : St := ⟨[(5, .c (.d (eI i))), (0, .c (.d (.sl 3 n fun i => eSnap (g i)))), (1, .c (.d (.sl 3 n fun i => eSnap (g i))))], []⟩
theorem c_frSnaps (n : Nat) (hn : n ≤ maxLen) (g : Nat → SnapT) : Meets Try.prog 53 [.c (.d (.sl 3 n fun i => eSnap (g i))), .c (.d (.sl 3 n fun i => eSnap (g i)))] ⟨.one (.c (.d (eB true))), [none, none]⟩ := by
  refine meets_of (H := []) (EX := EXA) ttok mixed Try.func53 rfl (by kernel_rfl) (by decide) ?_
  generalize hA : real = A
  generalize hM : MeetsB Try.prog = M
  cbv
  repeat' first
    | (refine br_f hA ?_ ?_; focus (subst hA; simp [real]; done))
    | apply And.intro
    | exact True.intro
    | with_reducible rfl
    | exact same_of hA rfl
    | refine br_of hA (fun _ => ?_) (fun _ => ?_)
    | exact imp_of hA id
    | (refine imp_of hA ?_; subst hA; simp only [real, Bool.true_and]; exact id)
    | (refine ind_of hA ?_; decide +kernel)
    | fail
  refine loop_of hA (α := { i : Nat // i ≤ n }) (fun x => st_frSnaps n g x.1) (fun x => n - x.1) ⟨0, Nat.zero_le _⟩ ?_ ?_
  · refine cov_of ?_ ?_ ?_
    · (subst hA; repeat' first | exact True.intro | exact rfl |  apply And.intro | (intro _ _; rfl) | (intro _ _ _; rfl) | exact .inr (le_of_nble rfl) | exact .inl rfl | exact .inr (Nat.le_refl _))
    · (subst hA; repeat' first | exact True.intro | exact rfl |  apply And.intro | (intro _ _; rfl) | (intro _ _ _; rfl) | exact .inr (le_of_nble rfl) | exact .inl rfl | exact .inr (Nat.le_refl _))
    · (subst hA; repeat' first | exact True.intro | exact rfl |  apply And.intro | (intro _ _; rfl) | (intro _ _ _; rfl) | exact .inr (le_of_nble rfl) | exact .inl rfl | exact .inr (Nat.le_refl _))
  rintro ⟨i, hi⟩
  have hi : i ≤ n := hi
  cbv
  repeat' first
    | apply And.intro
    | exact True.intro
    | with_reducible rfl
    | exact same_of hA rfl
    | refine br_of hA (fun _ => ?_) (fun _ => ?_)
    | exact imp_of hA id
    | (refine imp_of hA ?_; subst hA; simp only [real, Bool.true_and]; exact id)
    | (refine ind_of hA ?_; decide +kernel)
    | (refine inb_of hA fun _ => ?_; subst hA; simp only [real, decide_eq_true_eq, Int.ofNat_eq_natCast] at *; omega)
    | (refine call_of2 hA hM _ (c_frOp (g i).op.mark (g i).op.rows.n (g i).op.rows.hn (g i).op.rows.g) (by subst hA; rfl) ?_; cbv)
    | (refine call_of2 hA hM _ (c_frInts (g i).marks.n (g i).marks.hn (g i).marks.g) (by subst hA; rfl) ?_; cbv)
    | (exfalso; rename_i h; subst hA; simp [real] at h; done)
    | fail
  · rename_i hlt _
    have hlt' : i < n := by subst hA; have h : ((i : Int) < (n : Int)) := of_decide_eq_true hlt; omega
    refine ⟨⟨i + 1, hlt'⟩, by simp only; omega, cov_of ?_ ?_ ?_⟩
    · (subst hA; repeat' first | exact True.intro | exact rfl | exact congrArg (fun x => DV.v (.int .i64 x)) (up64 hlt' hn) |  apply And.intro | (intro _ _; rfl) | (intro _ _ _; rfl) | exact .inr (le_of_nble rfl) | exact .inl rfl | exact .inr (Nat.le_refl _))
    · (subst hA; repeat' first | exact True.intro | exact rfl | exact congrArg (fun x => DV.v (.int .i64 x)) (up64 hlt' hn) |  apply And.intro | (intro _ _; rfl) | (intro _ _ _; rfl) | exact .inr (le_of_nble rfl) | exact .inl rfl | exact .inr (Nat.le_refl _))
    · (subst hA; repeat' first | exact True.intro | exact rfl | exact congrArg (fun x => DV.v (.int .i64 x)) (up64 hlt' hn) |  apply And.intro | (intro _ _; rfl) | (intro _ _ _; rfl) | exact .inr (le_of_nble rfl) | exact .inl rfl | exact .inr (Nat.le_refl _))
def st_frCkp (x : CkpT) (i : Nat) : St := ⟨[(5, .c (.d (eI i))), (3, .c (.bp 192 1 0)), (2, .c (.bp 128 1 0))], [(192, 1, .box [.d (eI x.n), .d (eB x.opn), .d (.sl 1 x.src.n fun i => [eI (x.src.g i)]), .d (.sl 1 x.tsk.n fun i => [eB (x.tsk.g i)]), .d (.sl 3 x.snaps.n fun i => eSnap (x.snaps.g i)), .d (eI x.safe.n), .d (.sl 1 x.safe.at_.n fun i => [eI (x.safe.at_.g i)]), .d (.sl 3 x.safe.snaps.n fun i => eSnap (x.safe.snaps.g i))]), (128, 1, .box [.d (eI x.n), .d (eB x.opn), .d (.sl 1 x.src.n fun i => [eI (x.src.g i)]), .d (.sl 1 x.tsk.n fun i => [eB (x.tsk.g i)]), .d (.sl 3 x.snaps.n fun i => eSnap (x.snaps.g i)), .d (eI x.safe.n), .d (.sl 1 x.safe.at_.n fun i => [eI (x.safe.at_.g i)]), .d (.sl 3 x.safe.snaps.n fun i => eSnap (x.safe.snaps.g i))])]⟩
theorem c_frCkp (x : CkpT) : Meets Try.prog 21 [xd (eCkp x), xd (eCkp x)] ⟨.one (.c (.d (eB true))), [none, none]⟩ := by
  have hn : x.tsk.n ≤ maxLen := x.tsk.hn
  refine meets_of (H := []) (EX := EXA) ttok mixed Try.func21 rfl (by kernel_rfl) (by decide) ?_
  generalize hA : real = A
  generalize hM : MeetsB Try.prog = M
  cbv
  repeat' first
    | apply And.intro
    | exact True.intro
    | with_reducible rfl
    | exact same_of hA rfl
    | refine br_of hA (fun _ => ?_) (fun _ => ?_)
    | exact imp_of hA id
    | (refine imp_of hA ?_; subst hA; simp only [real, Bool.true_and]; exact id)
    | (refine ind_of hA ?_; decide +kernel)
    | (refine call_of2 hA hM _ (c_frInts x.src.n x.src.hn x.src.g) (by subst hA; rfl) ?_; cbv)
    | (refine call_of2 hA hM _ (c_frInts x.safe.at_.n x.safe.at_.hn x.safe.at_.g) (by subst hA; rfl) ?_; cbv)
    | (refine call_of2 hA hM _ (c_frSnaps x.snaps.n x.snaps.hn x.snaps.g) (by subst hA; rfl) ?_; cbv)
    | (refine call_of2 hA hM _ (c_frSnaps x.safe.snaps.n x.safe.snaps.hn x.safe.snaps.g) (by subst hA; rfl) ?_; cbv)
    | (exfalso; rename_i h; subst hA; simp [real] at h; done)
    | fail
  refine loop_of hA (α := { i : Nat // i ≤ x.tsk.n }) (fun y => st_frCkp x y.1) (fun y => x.tsk.n - y.1) ⟨0, Nat.zero_le _⟩ ?_ ?_
  · refine cov_of ?_ ?_ ?_
    · (subst hA; repeat' first | exact True.intro | exact rfl |  apply And.intro | (intro _ _; rfl) | (intro _ _ _; rfl) | exact .inr (le_of_nble rfl) | exact .inl rfl | exact .inr (Nat.le_refl _))
    · (subst hA; repeat' first | exact True.intro | exact rfl |  apply And.intro | (intro _ _; rfl) | (intro _ _ _; rfl) | exact .inr (le_of_nble rfl) | exact .inl rfl | exact .inr (Nat.le_refl _))
    · (subst hA; repeat' first | exact True.intro | exact rfl |  apply And.intro | (intro _ _; rfl) | (intro _ _ _; rfl) | exact .inr (le_of_nble rfl) | exact .inl rfl | exact .inr (Nat.le_refl _))
  rintro ⟨i, hi⟩
  have hi : i ≤ x.tsk.n := hi
  cbv
  repeat' first
    | apply And.intro
    | exact True.intro
    | with_reducible rfl
    | exact same_of hA rfl
    | refine br_of hA (fun _ => ?_) (fun _ => ?_)
    | exact imp_of hA id
    | (refine imp_of hA ?_; subst hA; simp only [real, Bool.true_and]; exact id)
    | (refine ind_of hA ?_; decide +kernel)
    | (refine inb_of hA fun _ => ?_; subst hA; simp only [real, decide_eq_true_eq, Int.ofNat_eq_natCast] at *; exact ⟨by omega, by omega⟩)
    | (refine inb_of hA fun _ => ⟨Int.natCast_nonneg _, ?_⟩; subst hA; exact of_decide_eq_true (by assumption))
    | (exfalso; rename_i h; subst hA; simp [real] at h; done)
    | fail
  · rename_i hlt _
    have hlt' : i < x.tsk.n := by subst hA; have h : ((i : Int) < (x.tsk.n : Int)) := of_decide_eq_true hlt; omega
    refine ⟨⟨i + 1, hlt'⟩, by simp only; omega, cov_of ?_ ?_ ?_⟩
    · (subst hA; repeat' first | exact True.intro | exact rfl | exact congrArg (fun x => DV.v (.int .i64 x)) (up64 hlt' hn) |  apply And.intro | (intro _ _; rfl) | (intro _ _ _; rfl) | exact .inr (le_of_nble rfl) | exact .inl rfl | exact .inr (Nat.le_refl _))
    · (subst hA; repeat' first | exact True.intro | exact rfl | exact congrArg (fun x => DV.v (.int .i64 x)) (up64 hlt' hn) |  apply And.intro | (intro _ _; rfl) | (intro _ _ _; rfl) | exact .inr (le_of_nble rfl) | exact .inl rfl | exact .inr (Nat.le_refl _))
    · (subst hA; repeat' first | exact True.intro | exact rfl | exact congrArg (fun x => DV.v (.int .i64 x)) (up64 hlt' hn) |  apply And.intro | (intro _ _; rfl) | (intro _ _ _; rfl) | exact .inr (le_of_nble rfl) | exact .inl rfl | exact .inr (Nat.le_refl _))
end Go.Rk
/- Checkpoints: ksave. -/
namespace Go.Rk
set_option linter.unusedSimpArgs false
set_option linter.unusedVariables false
open Go.Proofs
set_option maxRecDepth 100000
set_option maxHeartbeats 2000000
def EXIdle2 : FuncId → List Nat × Bool := fun f => bif nbeq f 1 then ([10901], false) else  ([], false)
theorem k_idle2 (x : CkpT) (a b : Nat) (ha1 : 1 ≤ a) (ha3 : a ≤ 3) (hb1 : 1 ≤ b) (hb2 : b ≤ 2) (r2 r3 r4 r5 r6 r7 r8 r9 : DV) :
    MeetsO Try.prog 51 [.c (.bp 384 1 0), .agg [.d (eI (a : Int)), .d (eI (b : Int)), .d r2, .d r3, .d r4, .d r5, .d r6, .d r7, .d r8, .d r9]] [(384, 1, .box [.d (eI x.n), .d (eB x.opn), .own 898 0 x.src.n 1, .own 899 0 x.tsk.n 1, .nown 900 x.snaps.n 1, .d (eI x.n), .own 898 0 x.src.n 1, .nown 900 x.snaps.n 1]), (898, 1, .arr 1 x.src.n fun i => [eI (x.src.g i)]), (899, 1, .arr 1 x.tsk.n fun i => [eB (x.tsk.g i)]), (900, 1, .nest 3 x.snaps.n (fun i => eSnap (x.snaps.g i)) none)] (.tup []) [(384, 1, .box [.d (eI x.n), .d (eB false), .own 11733 0 a 1, .own 11925 0 b 1, .own 12117 0 b 1, .d (eI x.n), .own 898 0 x.src.n 1, .nown 900 x.snaps.n 1]), (898, 1, .arr 1 x.src.n fun i => [eI (x.src.g i)]), (899, 1, .arr 1 x.tsk.n fun i => [eB (x.tsk.g i)]), (900, 1, .nest 3 x.snaps.n (fun i => eSnap (x.snaps.g i)) none), (11733, 1, .arr 1 a fun _ => [eI (-1)]), (11925, 1, .arr 1 b fun _ => [eB false]), (12117, 1, .arr 3 b fun _ => [eI 0, .v nilS, .v nilS]), (11093, 1, .dead), (11541, 1, .dead)] := by
  refine inl_of (EX := EXIdle2) ttok mixed Try.func51 rfl (by kernel_rfl) (by decide) (by kernel_rfl) rfl rfl ?_
  generalize hA : real = A
  generalize hM : MeetsB Try.prog = M9
  cbv
  repeat' first
    | apply And.intro
    | exact True.intro
    | with_reducible rfl
    | exact same_of hA rfl
    | refine br_of hA (fun _ => ?_) (fun _ => ?_)
    | exact imp_of hA id
    | (refine imp_of hA ?_; subst hA; simp only [real, Bool.true_and]; exact id)
    | (refine ind_of hA ?_; decide +kernel)
    | (intro _ _; rfl)
    | (refine call_of2 hA hM _ (c_RepeatM1 a ha1 ha3 _ rfl) (by subst hA; rfl) ?_; cbv)
    | (subst hA; show 0 ≤ (b : Int) ∧ (b : Int) = (b : Int) ∧ (b : Int) * _ ≤ 140737488355328 ∧ (b : Int) ≤ 140737488355328; refine ⟨by omega, rfl, by omega, by omega⟩)
    | (subst hA; exact flatR fun _ => flat_int _)
    | (subst hA; rfl)
    | (intro _ _; subst hA; rfl)
    | fail
def EXSave : FuncId → List Nat × Bool := fun f => bif nbeq f 1 then ([9901], false) else bif nbeq f 51 then ([99], false) else bif nbeq f 62 then ([0], false) else ([], false)
theorem k_saveT (x : CkpT) (hr : ReadyP x) (a b : Nat) (ha1 : 1 ≤ a) (ha3 : a ≤ 3) (hb1 : 1 ≤ b) (hb2 : b ≤ 2) (r2 r3 r4 r5 r6 r7 r8 r9 : DV) :
    MeetsO Try.prog 61 [.c (.bp 384 1 0), .agg [.d (eI (a : Int)), .d (eI (b : Int)), .d r2, .d r3, .d r4, .d r5, .d r6, .d r7, .d r8, .d r9]] [(384, 1, .box [.d (eI x.n), .d (eB x.opn), .own 898 0 x.src.n 1, .own 899 0 x.tsk.n 1, .nown 900 x.snaps.n 1, .d (eI x.safe.n), .own 902 0 x.safe.at_.n 1, .nown 903 x.safe.snaps.n 1]), (898, 1, .arr 1 x.src.n fun i => [eI (x.src.g i)]), (899, 1, .arr 1 x.tsk.n fun i => [eB (x.tsk.g i)]), (900, 1, .nest 3 x.snaps.n (fun i => eSnap (x.snaps.g i)) none), (902, 1, .arr 1 x.safe.at_.n fun i => [eI (x.safe.at_.g i)]), (903, 1, .nest 3 x.safe.snaps.n (fun i => eSnap (x.safe.snaps.g i)) none)] (.c (.d (eB true))) [(384, 1, .box [.d (eI x.n), .d (eB false), .own 11733 0 a 1, .own 11925 0 b 1, .own 12117 0 b 1, .d (eI x.n), .own 898 0 x.src.n 1, .nown 900 x.snaps.n 1]), (898, 1, .arr 1 x.src.n fun i => [eI (x.src.g i)]), (899, 1, .arr 1 x.tsk.n fun i => [eB (x.tsk.g i)]), (900, 1, .nest 3 x.snaps.n (fun i => eSnap (x.snaps.g i)) none), (902, 1, .arr 1 x.safe.at_.n fun i => [eI (x.safe.at_.g i)]), (903, 1, .nest 3 x.safe.snaps.n (fun i => eSnap (x.safe.snaps.g i)) none), (11733, 1, .arr 1 a fun _ => [eI (-1)]), (11925, 1, .arr 1 b fun _ => [eB false]), (12117, 1, .arr 3 b fun _ => [eI 0, .v nilS, .v nilS]), (11093, 1, .dead), (11541, 1, .dead), (10093, 1, .dead)] := by
  obtain ⟨t, ht, hm⟩ := c_readyD x
  obtain rfl : t = true := ht.2 hr
  refine inl_of (EX := EXSave) ttok mixed Try.func61 rfl (by kernel_rfl) (by decide) (by kernel_rfl) rfl rfl ?_
  generalize hA : real = A
  generalize hM : MeetsB Try.prog = M9
  cbv
  repeat' first
    | exact absurd (show false = true by subst hA; assumption) (by decide)
    | exact absurd (show true = false by subst hA; assumption) (by decide)
    | apply And.intro
    | exact True.intro
    | with_reducible rfl
    | exact same_of hA rfl
    | refine br_of hA (fun _ => ?_) (fun _ => ?_)
    | exact imp_of hA id
    | (refine imp_of hA ?_; subst hA; simp only [real, Bool.true_and]; exact id)
    | (refine ind_of hA ?_; decide +kernel)
    | (refine call_of2 hA hM _ hm (by subst hA; first | rfl | (simp only [sub0r]; done) | (simp only [sub0r]; rfl)) ?_; cbv)
    | (refine inl_call hA _ _ _ ⟨fun _ => (by rw [← hM]; exact (k_idle2 x a b ha1 ha3 hb1 hb2 r2 r3 r4 r5 r6 r7 r8 r9)), (by cbv; repeat' first | apply And.intro | exact True.intro | rfl | exact .inr trivial | exact .inl trivial), ?_⟩; cbv)
    | (intro _ _; rfl)
    | (subst hA; exact flatR fun _ => flat_int _)
    | (subst hA; rfl)
    | (intro _ _; subst hA; rfl)
    | fail
theorem k_saveF (x : CkpT) (hr : ¬ ReadyP x) (a b : Nat) (ha1 : 1 ≤ a) (ha3 : a ≤ 3) (hb1 : 1 ≤ b) (hb2 : b ≤ 2) (r2 r3 r4 r5 r6 r7 r8 r9 : DV) :
    MeetsO Try.prog 61 [.c (.bp 384 1 0), .agg [.d (eI (a : Int)), .d (eI (b : Int)), .d r2, .d r3, .d r4, .d r5, .d r6, .d r7, .d r8, .d r9]] [(384, 1, .box [.d (eI x.n), .d (eB x.opn), .own 898 0 x.src.n 1, .own 899 0 x.tsk.n 1, .nown 900 x.snaps.n 1, .d (eI x.safe.n), .own 902 0 x.safe.at_.n 1, .nown 903 x.safe.snaps.n 1]), (898, 1, .arr 1 x.src.n fun i => [eI (x.src.g i)]), (899, 1, .arr 1 x.tsk.n fun i => [eB (x.tsk.g i)]), (900, 1, .nest 3 x.snaps.n (fun i => eSnap (x.snaps.g i)) none), (902, 1, .arr 1 x.safe.at_.n fun i => [eI (x.safe.at_.g i)]), (903, 1, .nest 3 x.safe.snaps.n (fun i => eSnap (x.safe.snaps.g i)) none)] (.c (.d (eB false))) [(384, 1, .box [.d (eI x.n), .d (eB x.opn), .own 898 0 x.src.n 1, .own 899 0 x.tsk.n 1, .nown 900 x.snaps.n 1, .d (eI x.safe.n), .own 902 0 x.safe.at_.n 1, .nown 903 x.safe.snaps.n 1]), (898, 1, .arr 1 x.src.n fun i => [eI (x.src.g i)]), (899, 1, .arr 1 x.tsk.n fun i => [eB (x.tsk.g i)]), (900, 1, .nest 3 x.snaps.n (fun i => eSnap (x.snaps.g i)) none), (902, 1, .arr 1 x.safe.at_.n fun i => [eI (x.safe.at_.g i)]), (903, 1, .nest 3 x.safe.snaps.n (fun i => eSnap (x.safe.snaps.g i)) none), (10093, 1, .dead)] := by
  obtain ⟨t, ht, hm⟩ := c_readyD x
  obtain rfl : t = false := (by cases t; rfl; exact absurd (ht.1 rfl) hr)
  refine inl_of (EX := EXSave) ttok mixed Try.func61 rfl (by kernel_rfl) (by decide) (by kernel_rfl) rfl rfl ?_
  generalize hA : real = A
  generalize hM : MeetsB Try.prog = M9
  cbv
  repeat' first
    | exact absurd (show false = true by subst hA; assumption) (by decide)
    | exact absurd (show true = false by subst hA; assumption) (by decide)
    | apply And.intro
    | exact True.intro
    | with_reducible rfl
    | exact same_of hA rfl
    | refine br_of hA (fun _ => ?_) (fun _ => ?_)
    | exact imp_of hA id
    | (refine imp_of hA ?_; subst hA; simp only [real, Bool.true_and]; exact id)
    | (refine ind_of hA ?_; decide +kernel)
    | (refine call_of2 hA hM _ hm (by subst hA; first | rfl | (simp only [sub0r]; done) | (simp only [sub0r]; rfl)) ?_; cbv)
    | (refine inl_call hA _ _ _ ⟨fun _ => (by rw [← hM]; exact (k_idle2 x a b ha1 ha3 hb1 hb2 r2 r3 r4 r5 r6 r7 r8 r9)), (by cbv; repeat' first | apply And.intro | exact True.intro | rfl | exact .inr trivial | exact .inl trivial), ?_⟩; cbv)
    | (intro _ _; rfl)
    | (subst hA; exact flatR fun _ => flat_int _)
    | (subst hA; rfl)
    | (intro _ _; subst hA; rfl)
    | fail
end Go.Rk
/- Checkpoints: csave. -/
namespace Go.Rk
set_option linter.unusedSimpArgs false
set_option linter.unusedVariables false
open Go.Proofs
set_option maxRecDepth 100000
set_option maxHeartbeats 2000000
def EXCCkpSave : FuncId → List Nat × Bool := fun f => bif nbeq f 61 then ([99], false) else ([], false)
theorem c_CkpSave (j : JobT) (x : CkpT) (hb : bdCkp x) (y : CkpT × Bool) (hy : y = saveP j x) : Meets Try.prog 26 [xd (eJob j), xd (eCkp x)] ⟨.tup [.agg [.d (eI y.1.n), .d (eB y.1.opn), .own 1 y.1.src.n fun i => [eI (y.1.src.g i)], .own 1 y.1.tsk.n fun i => [eB (y.1.tsk.g i)], .nown 3 y.1.snaps.n fun i => eSnap (y.1.snaps.g i), .d (eI y.1.safe.n), .own 1 y.1.safe.at_.n fun i => [eI (y.1.safe.at_.g i)], .nown 3 y.1.safe.snaps.n fun i => eSnap (y.1.safe.snaps.g i)], .c (.d (eB y.2))], [none, none]⟩ := by
  obtain ⟨t, ht, hm⟩ := c_CkpOk j x
  have hcp := c_CkpCopied x hb
  cases t with
  | false =>
    have hno : ¬ CkpOkP j x := fun h => by have := ht.2 h; cases this
    obtain rfl : y = (zCkp, false) := by rw [hy]; unfold saveP; rw [dif_neg hno]
    refine meets_wk (r := .tup [.agg [.d (eI 0), .d (eB false), .d (.v nilS), .d (.v nilS), .d (.v nilS), .d (eI 0), .d (.v nilS), .d (.v nilS)], .c (.d (eB false))]) ?_ (by repeat' first | exact True.intro | exact rfl | exact DLe.rfl | exact NLe.rfl | exact nle_nil _ _ | apply And.intro | (intro _ _; exact LsLe.rfl) | (intro _ _; exact NsLe.rfl) | exact (flatR fun _ => flatL ⟨⟨_, rfl⟩, ⟨_, rfl⟩, ⟨_, rfl⟩, trivial⟩) | exact (flatR fun _ => ⟨⟨_, rfl⟩, ⟨_, rfl⟩, ⟨_, rfl⟩, trivial⟩) | (intro _ _; exact ⟨NLe.rfl, nle_nil _ _, nle_nil _ _, trivial⟩))
    refine meets_of (H := []) (EX := EXCCkpSave) ttok mixed Try.func26 rfl (by kernel_rfl) (by decide) ?_
    generalize hA : real = A
    generalize hM : MeetsB Try.prog = M
    cbv
    repeat' first
      | exact absurd (show false = true by subst hA; assumption) (by decide)
      | exact absurd (show true = false by subst hA; assumption) (by decide)
      | apply And.intro
      | exact True.intro
      | with_reducible rfl
      | exact same_of hA rfl
      | refine br_of hA (fun _ => ?_) (fun _ => ?_)
      | exact imp_of hA id
      | (refine imp_of hA ?_; subst hA; simp only [real, Bool.true_and]; exact id)
      | (refine ind_of hA ?_; decide +kernel)
      | (refine call_of hA hM _ hm ?_; cbv)
      | fail
  | true =>
    have hok : CkpOkP j x := ht.1 rfl
    have ea := jobS (ckpJob hok)
    have eb := jobT (ckpJob hok)
    obtain ⟨a, ha⟩ : ∃ a : Nat, a = j.srcs.toNat := ⟨_, rfl⟩
    obtain ⟨b, hbb⟩ : ∃ b : Nat, b = j.tsks.toNat := ⟨_, rfl⟩
    obtain ⟨ha1, ha3, ja⟩ : 1 ≤ a ∧ a ≤ 3 ∧ (a : Int) = j.srcs := by rw [ha]; exact ea
    obtain ⟨hb1, hb2, jb⟩ : 1 ≤ b ∧ b ≤ 2 ∧ (b : Int) = j.tsks := by rw [hbb]; exact eb
    by_cases hr : ReadyP x
    · obtain rfl : y = (⟨x.n, false, ⟨a, fun _ => -1, small_len ha3⟩, ⟨b, fun _ => false, small_len (Nat.le_trans hb2 (by decide))⟩, ⟨b, fun _ => zSnp, small_len (Nat.le_trans hb2 (by decide))⟩, ⟨x.n, x.src, x.snaps⟩⟩, true) := by
        rw [hy]; unfold saveP; rw [dif_pos hok, if_pos hr]; unfold idleP; subst ha hbb; rfl
      obtain ⟨j0, j1, j2, j3, j4, j5, j6, j7, j8, j9⟩ := j
      obtain rfl : (a : Int) = j0 := ja
      obtain rfl : (b : Int) = j1 := jb
      refine meets_wk (r := .tup [.agg [.d (eI x.n), .d (eB false), .own 1 a fun _ => [eI (-1)], .own 1 b fun _ => [eB false], .own 3 b fun _ => [eI 0, .v nilS, .v nilS], .d (eI x.n), .own 1 x.src.n fun i => [eI (x.src.g i)], .nown 3 x.snaps.n fun i => eSnap (x.snaps.g i)], .c (.d (eB true))]) ?_ (by repeat' first | exact True.intro | exact rfl | exact DLe.rfl | exact NLe.rfl | exact nle_nil _ _ | apply And.intro | (intro _ _; exact LsLe.rfl) | (intro _ _; exact NsLe.rfl) | exact (flatR fun _ => flatL ⟨⟨_, rfl⟩, ⟨_, rfl⟩, ⟨_, rfl⟩, trivial⟩) | exact (flatR fun _ => ⟨⟨_, rfl⟩, ⟨_, rfl⟩, ⟨_, rfl⟩, trivial⟩) | (intro _ _; exact ⟨NLe.rfl, nle_nil _ _, nle_nil _ _, trivial⟩))
      refine meets_of (H := []) (EX := EXCCkpSave) ttok mixed Try.func26 rfl (by kernel_rfl) (by decide) ?_
      generalize hA : real = A
      generalize hM : MeetsB Try.prog = M
      cbv
      repeat' first
        | exact absurd (show false = true by subst hA; assumption) (by decide)
        | exact absurd (show true = false by subst hA; assumption) (by decide)
        | apply And.intro
        | exact True.intro
        | with_reducible rfl
        | exact same_of hA rfl
        | refine br_of hA (fun _ => ?_) (fun _ => ?_)
        | exact imp_of hA id
        | (refine imp_of hA ?_; subst hA; simp only [real, Bool.true_and]; exact id)
        | (refine ind_of hA ?_; decide +kernel)
        | (refine call_of hA hM _ hm ?_; cbv)
        | (refine call_of hA hM _ hcp ?_; cbv)
        | (refine inl_call hA _ _ _ ⟨fun _ => (by rw [← hM]; exact (k_saveT x hr a b ha1 ha3 hb1 hb2 (eI j2) (eI j3) (eI j4) (eI j5) (eI j6) (eB j7) (eI j8) (eI j9))), (by cbv; repeat' first | apply And.intro | exact True.intro | rfl | exact .inr trivial | exact .inl trivial), ?_⟩; cbv)
        | fail
    · obtain rfl : y = (x, false) := by
        rw [hy]; unfold saveP; rw [dif_pos hok, if_neg hr]
      obtain ⟨j0, j1, j2, j3, j4, j5, j6, j7, j8, j9⟩ := j
      obtain rfl : (a : Int) = j0 := ja
      obtain rfl : (b : Int) = j1 := jb
      refine meets_of (H := []) (EX := EXCCkpSave) ttok mixed Try.func26 rfl (by kernel_rfl) (by decide) ?_
      generalize hA : real = A
      generalize hM : MeetsB Try.prog = M
      cbv
      repeat' first
        | exact absurd (show false = true by subst hA; assumption) (by decide)
        | exact absurd (show true = false by subst hA; assumption) (by decide)
        | apply And.intro
        | exact True.intro
        | with_reducible rfl
        | exact same_of hA rfl
        | refine br_of hA (fun _ => ?_) (fun _ => ?_)
        | exact imp_of hA id
        | (refine imp_of hA ?_; subst hA; simp only [real, Bool.true_and]; exact id)
        | (refine ind_of hA ?_; decide +kernel)
        | (refine call_of hA hM _ hm ?_; cbv)
        | (refine call_of hA hM _ hcp ?_; cbv)
        | (refine inl_call hA _ _ _ ⟨fun _ => (by rw [← hM]; exact (k_saveF x hr a b ha1 ha3 hb1 hb2 (eI j2) (eI j3) (eI j4) (eI j5) (eI j6) (eB j7) (eI j8) (eI j9))), (by cbv; repeat' first | apply And.intro | exact True.intro | rfl | exact .inr trivial | exact .inl trivial), ?_⟩; cbv)
        | fail
end Go.Rk
/- A new checkpoint is ok, and nothing of it is ready. -/
namespace Go.Rk
set_option linter.unusedSimpArgs false
set_option linter.unusedVariables false
theorem newC_ok {j : JobT} (h : JobOkP j) {a b : Nat} (ha1 : 1 ≤ a) (ha3 : a ≤ 3) (hb2 : b ≤ 2) (ja : (a : Int) = j.srcs) (jb : (b : Int) = j.tsks) : CkpOkP j (newC a b ha3 hb2) := by
  have hs : SnapOkP j (nSnp a ha3) := ⟨⟨h, ⟨by show (0 : Int) ≤ 0; decide, by show (0 : Int) ≤ 1000; decide⟩, Nat.zero_le _, fun i hi => absurd hi (Nat.not_lt_zero i)⟩, ⟨ja, fun _ _ => ⟨by show (0 : Int) ≤ 0; decide, by show (0 : Int) ≤ 1000; decide⟩⟩, ⟨by show (0 : Int) ≤ 1000; decide, fun _ _ => by show (0 : Int) ≤ 0; decide, .inr ⟨0, ha1, rfl⟩⟩⟩
  refine ⟨h, ⟨⟨by show (0 : Int) ≤ 0; decide, by show (0 : Int) ≤ 900; decide⟩, ja, fun _ _ => ⟨by show (0 : Int) ≤ 0; decide, by show (0 : Int) ≤ 40; decide⟩, jb, fun _ _ => hs⟩, ⟨by show (0 : Int) ≤ 0; decide, by show (0 : Int) ≤ 900; decide⟩, fun (e : false = true ∧ _) => absurd e.1 (by decide), ja, jb, jb, fun _ _ => ⟨⟨by show (-1 : Int) ≤ -1; decide, by show (-1 : Int) ≤ 40; decide⟩, .inr rfl⟩, fun _ _ => ⟨fun (e : false = true) => absurd e (by decide), fun _ => ⟨rfl, rfl, rfl⟩⟩⟩
theorem newC_not {a b : Nat} (ha : a ≤ 3) (hb : b ≤ 2) : ¬ ReadyP (newC a b ha hb) := fun h => by cases h.1
theorem zCkp_not {j : JobT} (h : ¬ JobOkP j) : ¬ CkpOkP j zCkp := fun e => h e.1
theorem save_newC {j : JobT} (h : JobOkP j) {a b : Nat} (ha1 : 1 ≤ a) (ha3 : a ≤ 3) (hb2 : b ≤ 2) (ja : (a : Int) = j.srcs) (jb : (b : Int) = j.tsks) : (newC a b ha3 hb2, false) = saveP j (newC a b ha3 hb2) := by
  unfold saveP
  rw [dif_pos (newC_ok h ha1 ha3 hb2 ja jb), if_neg (newC_not _ _)]
end Go.Rk
/- The law, walked. -/
namespace Go.Rk
set_option linter.unusedSimpArgs false
set_option linter.unusedVariables false
open Go.Proofs Go.ChangeShapes Go.WideShapes Go.ChangeAt Go.RowKit
set_option maxRecDepth 100000
set_option maxHeartbeats 4000000
theorem x_drawCkpNew (M0 : Nat) (b : Nat → Int) (hb : ∀ i, 0 ≤ b i ∧ b i ≤ 255) : ∃ y : JobT, True ∧ Meets Try.prog 19 [.c (.d (.sl 1 M0 fun i => [eU (b i)]))] ⟨.one (xd (eJob y)), [none]⟩ := by
  obtain ⟨m, hmm⟩ : ∃ m : Nat, m = if 2000 < M0 then 2000 else M0 := ⟨_, rfl⟩
  have hm : m ≤ 2000 := by rw [hmm]; split <;> omega
  have ho := m_open M0 b m hmm
  refine meets_ex (H := []) (EX := EXD) ttok mixed ([none]) Try.func19 rfl (by kernel_rfl) (by decide) (fun _ => rfl) ?_
  generalize hA : real = A
  generalize hM : MeetsB Try.prog = M
  cbv
  repeat' first
    | apply And.intro
    | exact True.intro
    | with_reducible rfl
    | exact same_of hA rfl
    | refine br_of hA (fun _ => ?_) (fun _ => ?_)
    | exact imp_of hA id
    | (refine imp_of hA ?_; subst hA; simp only [real, Bool.true_and]; exact id)
    | (refine ind_of hA ?_; decide +kernel)
    | (refine call_of hA hM _ ho ?_; cbv)
    | (refine call_ex hA hM (x_anyJob m hm b hb _ (by omega) _ (by omega)) ?_; rintro ⟨j, q⟩ ⟨hq0, hq1⟩; dsimp only at hq0 hq1; cbv)
    | (refine fin_of hA ⟨⟨_, _, _, _, _, _, _, _, _, _⟩, trivial, rfl, rfl⟩)
    | (refine fin_of hA ⟨j, trivial, rfl, rfl⟩)
    | fail
def EXB : FuncId → List Nat × Bool := fun f => (if f = 62 then [0] else [], false)
theorem c_rdyNot (j : JobT) (c : CkpT) (hok : CkpOkP j c) (hnr : ¬ ReadyP c) : Meets Try.prog 27 [xd (eJob j), xd (eCkp c)] ⟨.one (.c (.d (eB false))), [none, none]⟩ := by
  obtain ⟨u, hu, hK⟩ := c_CkpOk j c
  obtain rfl : u = true := hu.2 hok
  obtain ⟨v, hv, hR⟩ := c_readyD c
  have ev : v = false := by
    cases e : v
    · rfl
    · exact absurd (hv.1 e) hnr
  subst ev
  refine meets_of (H := []) (EX := EXB) ttok mixed Try.func27 rfl (by kernel_rfl) (by decide) ?_
  generalize hA : real = A
  generalize hM : MeetsB Try.prog = M
  cbv
  repeat' first
    | apply And.intro
    | exact True.intro
    | with_reducible rfl
    | exact same_of hA rfl
    | refine br_of hA (fun _ => ?_) (fun _ => ?_)
    | exact imp_of hA id
    | (refine imp_of hA ?_; subst hA; simp only [real, Bool.true_and]; exact id)
    | (refine ind_of hA ?_; decide +kernel)
    | (refine call_of hA hM _ hK ?_; cbv)
    | (refine call_of hA hM _ hR ?_; cbv)
    | (subst hA; rfl)
    | fail
theorem m_law (M0 : Nat) (b : Nat → Int) (hb : ∀ i, 0 ≤ b i ∧ b i ≤ 255) : Meets Try.prog 4 [.c (.d (.sl 1 M0 fun i => [eU (b i)]))] ⟨.one (.c (.d (eB true))), [none]⟩ := by
  refine meets_of (H := []) (EX := EXA) ttok mixed Try.func4 rfl (by kernel_rfl) (by decide) ?_
  generalize hA : real = A
  generalize hM : MeetsB Try.prog = M
  cbv
  repeat' first
    | apply And.intro
    | exact True.intro
    | with_reducible rfl
    | exact same_of hA rfl
    | refine br_of hA (fun _ => ?_) (fun _ => ?_)
    | exact imp_of hA id
    | (refine imp_of hA ?_; subst hA; simp only [real, Bool.true_and]; exact id)
    | (refine ind_of hA ?_; decide +kernel)
    | (refine call_ex hA hM (x_drawCkpNew M0 b hb) ?_; rintro j -; cbv)
    | fail
  obtain ⟨y, hy⟩ : ∃ y, y = newP j := ⟨_, rfl⟩
  have hbd := (new_bd hy).1
  have hI : Meets Try.prog 20 [xd (eJob j)] ⟨.one (xd (eCkp y)), [none]⟩ := meets_frz (c_CkpNew j y hy) rfl
  have hS := c_sCkpNew j y hy
  obtain ⟨t, ht, hJ⟩ := c_sJobOkP j
  obtain ⟨u, hu, hK⟩ := c_CkpOk j y
  by_cases hj : JobOkP j
  · obtain rfl : t = true := ht.2 hj
    have ea := jobS hj
    have eb := jobT hj
    obtain ⟨a, ha⟩ : ∃ a : Nat, a = j.srcs.toNat := ⟨_, rfl⟩
    obtain ⟨b', hbb⟩ : ∃ b : Nat, b = j.tsks.toNat := ⟨_, rfl⟩
    obtain ⟨ha1, ha3, ja⟩ : 1 ≤ a ∧ a ≤ 3 ∧ (a : Int) = j.srcs := by rw [ha]; exact ea
    obtain ⟨hb1, hb2, jb⟩ : 1 ≤ b' ∧ b' ≤ 2 ∧ (b' : Int) = j.tsks := by rw [hbb]; exact eb
    have ey : y = newC a b' ha3 hb2 := by
      rw [hy]; unfold newP; rw [dif_pos hj]; subst ha hbb; rfl
    have hok : CkpOkP j y := by rw [ey]; exact newC_ok hj ha1 ha3 hb2 ja jb
    have hnr : ¬ ReadyP y := by rw [ey]; exact newC_not _ _
    obtain rfl : u = true := hu.2 hok
    have hV : Meets Try.prog 26 [xd (eJob j), xd (eCkp y)] ⟨.tup [xd (eCkp y), .c (.d (eB false))], [none, none]⟩ := by
      have h := c_CkpSave j y hbd (y, false) (by rw [ey]; exact save_newC hj ha1 ha3 hb2 ja jb)
      exact meets_frz h rfl
    have hRD := c_rdyNot j y hok hnr
    have hF := c_frCkp y
    have e1 : y.n = 0 := by rw [ey]; rfl
    have e2 : y.safe.n = 0 := by rw [ey]; rfl
    have e3 : y.opn = false := by rw [ey]; rfl
    have e4 : (y.safe.snaps.n : Int) = j.tsks := by rw [ey]; exact jb
    repeat' first
      | exact absurd (show false = true by subst hA; assumption) (by decide)
      | exact absurd (show true = false by subst hA; assumption) (by decide)
      | apply And.intro
      | exact True.intro
      | with_reducible rfl
      | exact same_of hA rfl
      | refine br_of hA (fun _ => ?_) (fun _ => ?_)
      | exact imp_of hA id
      | (refine imp_of hA ?_; subst hA; simp only [real, Bool.true_and]; exact id)
      | (refine ind_of hA ?_; decide +kernel)
      | (refine call_of hA hM _ hI ?_; cbv)
      | (refine call_of hA hM _ hS ?_; cbv)
      | (refine call_of hA hM _ hJ ?_; cbv)
      | (refine call_of hA hM _ hK ?_; cbv)
      | (refine call_of hA hM _ hV ?_; cbv)
      | (refine call_of hA hM _ hRD ?_; cbv)
      | (refine call_of hA hM _ hF ?_; cbv)
      | (refine call_of hA hM _ c_frOk ?_; cbv)
      | fail
    subst hA
    refine congrArg (fun b => XA.one (.c (.d (eB b)))) ?_
    show (bif (bif (bif (bif (bif (bif (bif true then (y.n == 0) else false) then (y.safe.n == 0) else false) then !y.opn else false) then !false else false) then true else false) then !false else false) then ((y.safe.snaps.n : Int) == j.tsks) else false) = true
    rw [e1, e2, e3]
    exact beq_iff_eq.2 e4
  · obtain rfl : t = false := by
      cases t
      · rfl
      · exact absurd (ht.1 rfl) hj
    have ey : y = zCkp := by rw [hy]; unfold newP; rw [dif_neg hj]
    obtain rfl : u = false := by
      cases u
      · rfl
      · exact absurd (hu.1 rfl) (by rw [ey]; exact zCkp_not hj)
    have hF := c_frCkp y
    repeat' first
      | exact absurd (show false = true by subst hA; assumption) (by decide)
      | exact absurd (show true = false by subst hA; assumption) (by decide)
      | apply And.intro
      | exact True.intro
      | with_reducible rfl
      | exact same_of hA rfl
      | refine br_of hA (fun _ => ?_) (fun _ => ?_)
      | exact imp_of hA id
      | (refine imp_of hA ?_; subst hA; simp only [real, Bool.true_and]; exact id)
      | (refine ind_of hA ?_; decide +kernel)
      | (refine call_of hA hM _ hI ?_; cbv)
      | (refine call_of hA hM _ hS ?_; cbv)
      | (refine call_of hA hM _ hJ ?_; cbv)
      | (refine call_of hA hM _ hK ?_; cbv)
      | (refine call_of hA hM _ hF ?_; cbv)
      | (refine call_of hA hM _ c_frOk ?_; cbv)
      | fail
    subst hA; rfl
end Go.Rk
