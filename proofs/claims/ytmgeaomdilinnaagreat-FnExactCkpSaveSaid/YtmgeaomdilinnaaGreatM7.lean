/- The walk over this seat's functions, part 7: what each of them answers, at all data. -/
import Derived.Test.YtmgeaomdilinnaaGreatM1
import Derived.Test.YtmgeaomdilinnaaGreatM2
import Derived.Test.YtmgeaomdilinnaaGreatM3
import Derived.Test.YtmgeaomdilinnaaGreatM4
import Derived.Test.YtmgeaomdilinnaaGreatM5
import Derived.Test.YtmgeaomdilinnaaGreatM6
/- Nests: to. -/
namespace Go.Rk
set_option linter.unusedSimpArgs false
set_option linter.unusedVariables false
open Go.Proofs
set_option maxRecDepth 100000
set_option maxHeartbeats 1000000
theorem to_OpStO (x : OpStT) (hb : bdOpSt x) : Meets Tryz.prog 35 [xd (eOpSt x)] ⟨.one (.agg [.d (eI x.mark), .own 13 x.rows.n fun i => eRow (x.rows.g i)]), [none]⟩ := by
  refine meets_of (H := []) (EX := EXA) ttok mixed Tryz.func35 rfl (by kernel_rfl) (by decide) ?_
  generalize hA : real = A
  generalize hM : MeetsB Tryz.prog = M
  cbv
  repeat' first
    | apply And.intro
    | exact True.intro
    | with_reducible rfl
    | exact same_of hA rfl
    | refine br_of hA (fun _ => ?_) (fun _ => ?_)
    | exact imp_of hA id
    | (refine imp_of hA ?_; subst hA; simp only [real, Bool.true_and]; exact id)
    | (refine ind_of hA ?_; decide +kernel)
    | (refine call_of hA hM _ (to_RowS x.rows.n hb x.rows.g) ?_; cbv)
    | fail
theorem to_SnapO (x : SnapT) (hb : bdSnap x) : Meets Tryz.prog 124 [xd (eSnap x)] ⟨.one (.agg [.d (eI x.op.mark), .own 13 x.op.rows.n fun i => eRow (x.op.rows.g i), .own 1 x.marks.n fun i => [eI (x.marks.g i)]]), [none]⟩ := by
  refine meets_of (H := []) (EX := EXA) ttok mixed Tryz.func124 rfl (by kernel_rfl) (by decide) ?_
  generalize hA : real = A
  generalize hM : MeetsB Tryz.prog = M
  cbv
  repeat' first
    | apply And.intro
    | exact True.intro
    | with_reducible rfl
    | exact same_of hA rfl
    | refine br_of hA (fun _ => ?_) (fun _ => ?_)
    | exact imp_of hA id
    | (refine imp_of hA ?_; subst hA; simp only [real, Bool.true_and]; exact id)
    | (refine ind_of hA ?_; decide +kernel)
    | (refine call_of hA hM _ (to_OpStO x.op hb.1) ?_; cbv)
    | (refine call_of hA hM _ (to_IntS x.marks.n hb.2 x.marks.g) ?_; cbv)
    | fail
def st_toSnapSO (n : Nat) (rd : Nat → SnapT) (i : Nat) (R : Nat → List DV) : St := ⟨[(4, .c (.d (eI i))), (0, .c (.d (.sl 3 n fun i => eSnap (rd i)))), (3, .c (.nown 8000 n 1))], [(8000, 1, .nest 3 n R none)]⟩
theorem to_SnapSO (n : Nat) (hn : n ≤ 1048576) (rd : Nat → SnapT) (hb : ∀ i, i < n → bdSnap (rd i)) : Meets Tryz.prog 60 [.c (.d (.sl 3 n fun i => eSnap (rd i)))] ⟨.one (.c (.nown 3 n fun i => eSnap (rd i))), [none]⟩ := by
  have hn2 : n ≤ maxLen := Nat.le_trans hn (by decide)
  refine meets_of (H := [5, 6]) (EX := EXA) ttok mixed Tryz.func60 rfl (by kernel_rfl) (by decide) ?_
  generalize hA : real = A
  generalize hM : MeetsB Tryz.prog = M
  cbv
  repeat' first
    | apply And.intro
    | exact True.intro
    | with_reducible rfl
    | exact same_of hA rfl
    | refine br_of hA (fun _ => ?_) (fun _ => ?_)
    | exact imp_of hA id
    | (refine imp_of hA ?_; subst hA; simp only [real, Bool.true_and]; exact id)
    | (refine ind_of hA ?_; decide +kernel)
    | exact made_n hA hn (by decide)
    | fail
  refine loop_of hA (α := { p : Nat × (Nat → List DV) // p.1 ≤ n ∧ (∀ j, j < p.1 → p.2 j = eSnap (rd j)) ∧ ∀ j, p.1 ≤ j → p.2 j = [eI 0, .v nilS, .v nilS] }) (fun x => st_toSnapSO n rd x.1.1 x.1.2) (fun x => n - x.1.1) ⟨(0, fun _ => [eI 0, .v nilS, .v nilS]), Nat.zero_le _, fun j h => absurd h (Nat.not_lt_zero _), fun _ _ => rfl⟩ ?_ ?_
  · refine cov_nestOf 3 448 8000 1 (fun _ => [eI 0, .v nilS, .v nilS]) rfl rfl rfl rfl (by subst hA; exact flatR fun _ => by repeat' first | exact True.intro | exact ⟨_, rfl⟩ | apply And.intro) (by subst hA; intro _ _; exact NsLe.rfl) (cov_of ?_ ?_ ?_)
    · (subst hA; repeat' first | exact True.intro | exact rfl | apply And.intro | (intro _ _; rfl) | (intro _ _ _; rfl) | exact .inr (le_of_nble rfl) | exact .inl rfl)
    · (subst hA; repeat' first | exact True.intro | exact rfl | apply And.intro | (intro _ _; rfl) | (intro _ _ _; rfl) | exact .inr (le_of_nble rfl) | exact .inl rfl)
    · (subst hA; repeat' first | exact True.intro | exact rfl | apply And.intro | (intro _ _; rfl) | (intro _ _ _; rfl) | exact .inr (le_of_nble rfl) | exact .inl rfl)
  rintro ⟨⟨i, R⟩, hi, hR, hZ⟩
  have hi : i ≤ n := hi
  have hR : ∀ j, j < i → R j = eSnap (rd j) := hR
  have hZ : ∀ j, i ≤ j → R j = [eI 0, .v nilS, .v nilS] := hZ
  cbv
  repeat' first
    | apply And.intro
    | exact True.intro
    | with_reducible rfl
    | exact same_of hA rfl
    | refine br_of hA (fun _ => ?_) (fun _ => ?_)
    | exact imp_of hA id
    | (refine imp_of hA ?_; subst hA; simp only [real, Bool.true_and]; exact id)
    | (refine ind_of hA ?_; decide +kernel)
    | fail
  · rename_i hlt
    have hlt' : i < n := by subst hA; simp only [real, decide_eq_true_eq, Int.ofNat_eq_natCast] at hlt; omega
    refine stop_of hA ⟨[(4, .c (.d (eI i))), (0, .c (.d (.sl 3 n fun i => eSnap (rd i)))), (3, .c (.nown 8000 n 1))], [(8000, 1, .nest 3 n R (some (i, [.d (eI 0), .d (.v nilS), .d (.v nilS)])))]⟩
      (cov_open 8000 9000 1 i (fun _ => false) [eI 0, .v nilS, .v nilS] rfl hlt' (hZ i (Nat.le_refl _)) (by repeat' first | exact True.intro | apply And.intro) rfl (cov_of ?_ ?_ ?_)) ?_
    · (subst hA; repeat' first | exact True.intro | exact rfl | apply And.intro | (intro _ _; rfl) | (intro _ _ _; rfl) | exact .inr (le_of_nble rfl) | exact .inl rfl)
    · (subst hA; repeat' first | exact True.intro | exact rfl | apply And.intro | (intro _ _; rfl) | (intro _ _ _; rfl) | exact .inr (le_of_nble rfl) | exact .inl rfl)
    · (subst hA; repeat' first | exact True.intro | exact rfl | apply And.intro | (intro _ _; rfl) | (intro _ _ _; rfl) | exact .inr (le_of_nble rfl) | exact .inl rfl)
    cbv
    repeat' first
      | apply And.intro
      | exact True.intro
      | with_reducible rfl
      | exact same_of hA rfl
      | refine br_of hA (fun _ => ?_) (fun _ => ?_)
      | exact imp_of hA id
      | (refine imp_of hA ?_; subst hA; simp only [real, Bool.true_and]; exact id)
      | (refine ind_of hA ?_; decide +kernel)
      | (refine call_of hA hM _ (to_SnapO (rd (A.nat (Int.ofNat i))) (hb _ (by subst hA; exact hlt'))) ?_; cbv)
      | (refine inb_of hA fun _ => ?_; subst hA; simp only [real, decide_eq_true_eq, Int.ofNat_eq_natCast] at *; omega)
      | (refine same_of hA ?_; subst hA; rfl)
      | fail
    refine ⟨⟨(i + 1, fun j => if j = i then eSnap (rd i) else R j), hlt', fun j hj => ?_, fun j hj => ?_⟩, by simp only; omega,
      cov_close 8000 (fun j => if j = i then eSnap (rd i) else R j) (eSnap (rd i)) [(1280 + 1, 1), (1280 + 2, 1)] rfl ?_ rfl (if_pos rfl) (fun k _ hk => if_neg hk) (cov_of ?_ ?_ ?_)⟩
    · simp only at hj ⊢
      by_cases e : j = i
      · rw [if_pos e, e]
      · rw [if_neg e]; exact hR j (by omega)
    · simp only at hj ⊢
      rw [if_neg (by omega)]; exact hZ j (by omega)
    · subst hA; exact (close_v (close_own rfl (fun _ _ => rfl) (flatR fun _ => flat_Row _) (close_own rfl (fun _ _ => rfl) (flatR fun _ => flat_int _) close_end)))
    · (subst hA; repeat' first | exact True.intro | exact rfl | exact congrArg (fun x => DV.v (.int .i64 x)) (up64 hlt' hn2) | apply And.intro | (intro _ _; rfl) | (intro _ _ _; rfl) | exact .inr (le_of_nble rfl) | exact .inl rfl)
    · (subst hA; repeat' first | exact True.intro | exact rfl | exact congrArg (fun x => DV.v (.int .i64 x)) (up64 hlt' hn2) | apply And.intro | (intro _ _; rfl) | (intro _ _ _; rfl) | exact .inr (le_of_nble rfl) | exact .inl rfl)
    · (subst hA; repeat' first | exact True.intro | exact rfl | exact congrArg (fun x => DV.v (.int .i64 x)) (up64 hlt' hn2) | apply And.intro | (intro _ _; rfl) | (intro _ _ _; rfl) | exact .inr (le_of_nble rfl) | exact .inl rfl)
  · rename_i hge
    have hin : i = n := by
      subst hA
      have : ¬ ((i : Int) < (n : Int)) := of_decide_eq_false hge
      omega
    subst hin
    refine stop_of hA ⟨[(3, .c (.nown 8000 i 1))], [(8000, 1, .nest 3 i (fun j => eSnap (rd j)) none)]⟩ (cov_of ?_ ?_ ?_) ?_
    · cbv
    · cbv
      first
        | exact ⟨fun q hq _ => hR q hq, trivial⟩
        | exact ⟨fun q hq => hR q hq, trivial⟩
    · cbv
    · cbv
      repeat' first | apply And.intro | refine br_of hA (fun _ => ?_) (fun _ => ?_)
      all_goals first | exact True.intro | with_reducible rfl | exact same_of hA rfl | skip
theorem to_SafeO (x : SafeT) (hb : bdSafe x) : Meets Tryz.prog 61 [xd (eSafe x)] ⟨.one (.agg [.d (eI x.n), .own 1 x.at_.n fun i => [eI (x.at_.g i)], .nown 3 x.snaps.n fun i => eSnap (x.snaps.g i)]), [none]⟩ := by
  refine meets_of (H := []) (EX := EXA) ttok mixed Tryz.func61 rfl (by kernel_rfl) (by decide) ?_
  generalize hA : real = A
  generalize hM : MeetsB Tryz.prog = M
  cbv
  repeat' first
    | apply And.intro
    | exact True.intro
    | with_reducible rfl
    | exact same_of hA rfl
    | refine br_of hA (fun _ => ?_) (fun _ => ?_)
    | exact imp_of hA id
    | (refine imp_of hA ?_; subst hA; simp only [real, Bool.true_and]; exact id)
    | (refine ind_of hA ?_; decide +kernel)
    | (refine call_of hA hM _ (to_IntS x.at_.n hb.1 x.at_.g) ?_; cbv)
    | (refine call_of hA hM _ (to_SnapSO x.snaps.n hb.2.1 x.snaps.g hb.2.2) ?_; cbv)
    | fail
theorem to_CkpO (x : CkpT) (hb : bdCkp x) : Meets Tryz.prog 18 [xd (eCkp x)] ⟨.one (.agg [.d (eI x.n), .d (eB x.opn), .own 1 x.src.n fun i => [eI (x.src.g i)], .own 1 x.tsk.n fun i => [eB (x.tsk.g i)], .nown 3 x.snaps.n fun i => eSnap (x.snaps.g i), .d (eI x.safe.n), .own 1 x.safe.at_.n fun i => [eI (x.safe.at_.g i)], .nown 3 x.safe.snaps.n fun i => eSnap (x.safe.snaps.g i)]), [none]⟩ := by
  refine meets_of (H := []) (EX := EXA) ttok mixed Tryz.func18 rfl (by kernel_rfl) (by decide) ?_
  generalize hA : real = A
  generalize hM : MeetsB Tryz.prog = M
  cbv
  repeat' first
    | apply And.intro
    | exact True.intro
    | with_reducible rfl
    | exact same_of hA rfl
    | refine br_of hA (fun _ => ?_) (fun _ => ?_)
    | exact imp_of hA id
    | (refine imp_of hA ?_; subst hA; simp only [real, Bool.true_and]; exact id)
    | (refine ind_of hA ?_; decide +kernel)
    | (refine call_of hA hM _ (to_IntS x.src.n hb.1 x.src.g) ?_; cbv)
    | (refine call_of hA hM _ (to_BoolS x.tsk.n hb.2.1 x.tsk.g) ?_; cbv)
    | (refine call_of hA hM _ (to_SnapSO x.snaps.n hb.2.2.1 x.snaps.g hb.2.2.2.1) ?_; cbv)
    | (refine call_of hA hM _ (to_SafeO x.safe hb.2.2.2.2) ?_; cbv)
    | fail
end Go.Rk
/- Rows of a table, as lists. -/
namespace Go.Rk
set_option linter.unusedSimpArgs false
set_option linter.unusedVariables false
def IsRow (key : Int) (w : WinT) (r : TabT) : Prop := r.key = key ∧ (r.win.s = w.s ∧ r.win.e = w.e)
instance (key : Int) (w : WinT) (r : TabT) : Decidable (IsRow key w r) := inferInstanceAs (Decidable (_ ∧ _))
def Ahead (r q : TabT) : Prop := r.key < q.key ∨ (r.key = q.key ∧ (r.win.s < q.win.s ∨ (r.win.s = q.win.s ∧ r.win.e < q.win.e)))
instance (r q : TabT) : Decidable (Ahead r q) := inferInstanceAs (Decidable (_ ∨ _))
theorem room_add2 {A : Ar} (hA : real = A) {n m b : Nat} (hn : n + m ≤ 2000000) (hb : b ≤ 100000) : A.room (A.add n m) b := by
  subst hA
  have h1 : (n + m) * b ≤ 2000000 * 100000 := Nat.mul_le_mul hn hb
  exact ⟨Nat.le_trans h1 (by omega), Nat.le_trans hn (by omega)⟩
def zAgg : AggT := ⟨0, 0, 0, 0⟩
end Go.Rk
/- What is known of values, by lists; tables that records lead to. -/
namespace Go.Rk
set_option linter.unusedSimpArgs false
set_option linter.unusedVariables false
def sumI : List Int → Int
  | [] => 0
  | x :: l => x + sumI l
/-- What is known of just these values. -/
structure AggIs (a : AggT) (L : List Int) : Prop where
  n : a.n = (L.length : Int)
  sum : a.sum = sumI L
  z : L = [] → a = zAgg
  nz : L ≠ [] → a.least ∈ L ∧ a.most ∈ L ∧ ∀ x, x ∈ L → a.least ≤ x ∧ x ≤ a.most
abbrev Rise (l : List TabT) : Prop := l.Pairwise Ahead
end Go.Rk
/- Tables of pairs of records and windows: what they say, and that they hang on no order. -/
namespace Go.Rk
set_option linter.unusedSimpArgs false
set_option linter.unusedVariables false
def valsW (k : Int) (w : WinT) (P : List LatT) : List Int := (P.filter fun l => decide (l.itm.key = k ∧ l.win.s = w.s ∧ l.win.e = w.e)).map (·.itm.v)
def valsS (k : Int) (w : WinT) (P : List LatT) : List Int := (P.filter fun l => decide (l.itm.key = k ∧ w.s ≤ l.win.s ∧ l.win.s < w.e)).map (·.itm.v)
/-! ## Windows that do not grow -/
structure InvW (P : List LatT) (T : List TabT) : Prop where
  rise : Rise T
  row : ∀ r, r ∈ T → valsW r.key r.win P ≠ [] ∧ AggIs r.agg (valsW r.key r.win P)
  has : ∀ l, l ∈ P → ∃ r, r ∈ T ∧ IsRow l.itm.key l.win r
/-! ## Sessions -/
def CovP (P : List LatT) (k p : Int) : Prop := ∃ l, l ∈ P ∧ l.itm.key = k ∧ l.win.s < p ∧ p < l.win.e
structure SessP (P : List LatT) (r : TabT) : Prop where
  lt : r.win.s < r.win.e
  fst : ∃ l, l ∈ P ∧ l.itm.key = r.key ∧ l.win.s = r.win.s
  lst : ∃ l, l ∈ P ∧ l.itm.key = r.key ∧ l.win.e = r.win.e
  mid : ∀ p, r.win.s < p → p < r.win.e → CovP P r.key p
  low : ¬ CovP P r.key r.win.s
  top : ¬ CovP P r.key r.win.e
  agg : AggIs r.agg (valsS r.key r.win P)
structure InvS (P : List LatT) (T : List TabT) : Prop where
  rise : Rise T
  row : ∀ r, r ∈ T → SessP P r
  has : ∀ l, l ∈ P → ∃ r, r ∈ T ∧ r.key = l.itm.key ∧ r.win.s ≤ l.win.s ∧ l.win.e ≤ r.win.e
end Go.Rk
/- Tables of panes. -/
namespace Go.Rk
set_option linter.unusedSimpArgs false
set_option linter.unusedVariables false
theorem sub0r (f : Nat → List DV) : real.sub 0 f = f := sub0 rfl f
end Go.Rk
/- What a mark does to rows, in plain words. -/
namespace Go.Rk
set_option linter.unusedSimpArgs false
set_option linter.unusedVariables false
def mkRow (k : Int) : RowT := ⟨k, ⟨k + 1, k + 2⟩, ⟨k + 3, k + 4, k + 5, k + 6⟩, ⟨k + 7, k + 8, k + 9, k + 10⟩, k + 11, ((k + 12).tmod 3 == 0)⟩
theorem wr1 (k : Int) (h : 0 ≤ k ∧ k ≤ 150000000) : IntKind.i64.wrap (k + 1) = k + 1 := IntWalk.i64_in _ (by omega)
theorem wrn (k c d : Int) (h : 0 ≤ k ∧ k ≤ 150000000) (hc : 0 ≤ c ∧ c ≤ 1000) (hd : c + 1 = d) : IntKind.i64.wrap (k + c + 1) = k + d := by
  rw [IntWalk.i64_in _ (by omega)]; omega
end Go.Rk
/- What a record does to rows, in plain words. -/
namespace Go.Rk
set_option linter.unusedSimpArgs false
set_option linter.unusedVariables false
def IsR (k : Int) (w : WinT) (r : RowT) : Prop := r.key = k ∧ (r.win.s = w.s ∧ r.win.e = w.e)
instance (k : Int) (w : WinT) (r : RowT) : Decidable (IsR k w r) := inferInstanceAs (Decidable (_ ∧ _))
def RA (r q : RowT) : Prop := AheadP r.key r.win q.key q.win
instance (r q : RowT) : Decidable (RA r q) := inferInstanceAs (Decidable (_ ∨ (_ ∧ (_ ∨ (_ ∧ _)))))
end Go.Rk
/- Nests: clone. -/
namespace Go.Rk
set_option linter.unusedSimpArgs false
set_option linter.unusedVariables false
open Go.Proofs
set_option maxRecDepth 100000
set_option maxHeartbeats 1000000
theorem c_Cloneint (n : Nat) (hn : n ≤ 1080000) (g : Nat → Int) : Meets Tryz.prog 129 [.c (.d (.sl 1 n fun i => [eI (g i)]))] ⟨.one (.c (.own 1 n fun i => [eI (g i)])), [none]⟩ := by
  refine meets_slice (fun h0 ad cap => ?_) (fun h1 => ?_)
  · subst h0
    cases ad with
    | none =>
      refine meets_up (res := .one (.c (.d (.v nilS)))) (UpV.nil 1 fun i => [eI (g i)]) ?_
      refine meets_of (H := []) (EX := EXA) ttok mixed Tryz.func129 rfl (by kernel_rfl) (by decide) ?_
      generalize hA : real = A
      generalize hM : MeetsB Tryz.prog = M
      cbv
      repeat' first
        | exact absurd (show true = false by assumption) (by decide)
        | exact absurd (show false = true by assumption) (by decide)
        | apply And.intro
        | exact True.intro
        | with_reducible rfl
        | exact same_of hA rfl
        | refine br_of hA (fun _ => ?_) (fun _ => ?_)
        | exact imp_of hA id
        | (refine imp_of hA ?_; subst hA; simp only [real, Bool.true_and]; exact id)
        | (refine ind_of hA ?_; decide +kernel)
        | fail
    | some ad =>
      refine meets_up (res := .one (.c (.own 1 0 fun i => (real.rep ([eI 0]) i)))) (UpV.row fun i hi => absurd hi (Nat.not_lt_zero i)) ?_
      refine meets_of (H := []) (EX := EXA) ttok mixed Tryz.func129 rfl (by kernel_rfl) (by decide) ?_
      generalize hA : real = A
      generalize hM : MeetsB Tryz.prog = M
      cbv
      repeat' first
        | exact absurd (show true = false by assumption) (by decide)
        | exact absurd (show false = true by assumption) (by decide)
        | apply And.intro
        | exact True.intro
        | with_reducible rfl
        | exact same_of hA rfl
        | refine br_of hA (fun _ => ?_) (fun _ => ?_)
        | exact imp_of hA id
        | (refine imp_of hA ?_; subst hA; simp only [real, Bool.true_and]; exact id)
        | (refine ind_of hA ?_; decide +kernel)
        | exact room_z hA (by omega) (by decide)
        | fail
      exact own_cp hA (by subst hA; rfl)
  · skip
    refine meets_of (H := []) (EX := EXA) ttok mixed Tryz.func129 rfl (by kernel_rfl) (by decide) ?_
    generalize hA : real = A
    generalize hM : MeetsB Tryz.prog = M
    cbv
    repeat' first
      | exact absurd (show true = false by assumption) (by decide)
      | exact absurd (show false = true by assumption) (by decide)
      | apply And.intro
      | exact True.intro
      | with_reducible rfl
      | exact same_of hA rfl
      | refine br_of hA (fun _ => ?_) (fun _ => ?_)
      | exact imp_of hA id
      | (refine imp_of hA ?_; subst hA; simp only [real, Bool.true_and]; exact id)
      | (refine ind_of hA ?_; decide +kernel)
      | exact room_z hA (by omega) (by decide)
      | (refine inb_of hA (fun _ => ⟨by omega, by omega⟩))
      | (rename_i hb; cases hb; done)
      | fail
    exact own_cp hA rfl
theorem c_Clonebool (n : Nat) (hn : n ≤ 1080000) (g : Nat → Bool) : Meets Tryz.prog 130 [.c (.d (.sl 1 n fun i => [eB (g i)]))] ⟨.one (.c (.own 1 n fun i => [eB (g i)])), [none]⟩ := by
  refine meets_slice (fun h0 ad cap => ?_) (fun h1 => ?_)
  · subst h0
    cases ad with
    | none =>
      refine meets_up (res := .one (.c (.d (.v nilS)))) (UpV.nil 1 fun i => [eB (g i)]) ?_
      refine meets_of (H := []) (EX := EXA) ttok mixed Tryz.func130 rfl (by kernel_rfl) (by decide) ?_
      generalize hA : real = A
      generalize hM : MeetsB Tryz.prog = M
      cbv
      repeat' first
        | exact absurd (show true = false by assumption) (by decide)
        | exact absurd (show false = true by assumption) (by decide)
        | apply And.intro
        | exact True.intro
        | with_reducible rfl
        | exact same_of hA rfl
        | refine br_of hA (fun _ => ?_) (fun _ => ?_)
        | exact imp_of hA id
        | (refine imp_of hA ?_; subst hA; simp only [real, Bool.true_and]; exact id)
        | (refine ind_of hA ?_; decide +kernel)
        | fail
    | some ad =>
      refine meets_up (res := .one (.c (.own 1 0 fun i => (real.rep ([eB false]) i)))) (UpV.row fun i hi => absurd hi (Nat.not_lt_zero i)) ?_
      refine meets_of (H := []) (EX := EXA) ttok mixed Tryz.func130 rfl (by kernel_rfl) (by decide) ?_
      generalize hA : real = A
      generalize hM : MeetsB Tryz.prog = M
      cbv
      repeat' first
        | exact absurd (show true = false by assumption) (by decide)
        | exact absurd (show false = true by assumption) (by decide)
        | apply And.intro
        | exact True.intro
        | with_reducible rfl
        | exact same_of hA rfl
        | refine br_of hA (fun _ => ?_) (fun _ => ?_)
        | exact imp_of hA id
        | (refine imp_of hA ?_; subst hA; simp only [real, Bool.true_and]; exact id)
        | (refine ind_of hA ?_; decide +kernel)
        | exact room_z hA (by omega) (by decide)
        | fail
      exact own_cp hA (by subst hA; rfl)
  · skip
    refine meets_of (H := []) (EX := EXA) ttok mixed Tryz.func130 rfl (by kernel_rfl) (by decide) ?_
    generalize hA : real = A
    generalize hM : MeetsB Tryz.prog = M
    cbv
    repeat' first
      | exact absurd (show true = false by assumption) (by decide)
      | exact absurd (show false = true by assumption) (by decide)
      | apply And.intro
      | exact True.intro
      | with_reducible rfl
      | exact same_of hA rfl
      | refine br_of hA (fun _ => ?_) (fun _ => ?_)
      | exact imp_of hA id
      | (refine imp_of hA ?_; subst hA; simp only [real, Bool.true_and]; exact id)
      | (refine ind_of hA ?_; decide +kernel)
      | exact room_z hA (by omega) (by decide)
      | (refine inb_of hA (fun _ => ⟨by omega, by omega⟩))
      | (rename_i hb; cases hb; done)
      | fail
    exact own_cp hA rfl
theorem c_CloneRow (n : Nat) (hn : n ≤ 1080000) (g : Nat → RowT) : Meets Tryz.prog 159 [.c (.d (.sl 13 n fun i => eRow (g i)))] ⟨.one (.c (.own 13 n fun i => eRow (g i))), [none]⟩ := by
  refine meets_slice (fun h0 ad cap => ?_) (fun h1 => ?_)
  · subst h0
    cases ad with
    | none =>
      refine meets_up (res := .one (.c (.d (.v nilS)))) (UpV.nil 13 fun i => eRow (g i)) ?_
      refine meets_of (H := []) (EX := EXA) ttok mixed Tryz.func159 rfl (by kernel_rfl) (by decide) ?_
      generalize hA : real = A
      generalize hM : MeetsB Tryz.prog = M
      cbv
      repeat' first
        | exact absurd (show true = false by assumption) (by decide)
        | exact absurd (show false = true by assumption) (by decide)
        | apply And.intro
        | exact True.intro
        | with_reducible rfl
        | exact same_of hA rfl
        | refine br_of hA (fun _ => ?_) (fun _ => ?_)
        | exact imp_of hA id
        | (refine imp_of hA ?_; subst hA; simp only [real, Bool.true_and]; exact id)
        | (refine ind_of hA ?_; decide +kernel)
        | fail
    | some ad =>
      refine meets_up (res := .one (.c (.own 13 0 fun i => (real.rep ([eI 0, eI 0, eI 0, eI 0, eI 0, eI 0, eI 0, eI 0, eI 0, eI 0, eI 0, eI 0, eB false]) i)))) (UpV.row fun i hi => absurd hi (Nat.not_lt_zero i)) ?_
      refine meets_of (H := []) (EX := EXA) ttok mixed Tryz.func159 rfl (by kernel_rfl) (by decide) ?_
      generalize hA : real = A
      generalize hM : MeetsB Tryz.prog = M
      cbv
      repeat' first
        | exact absurd (show true = false by assumption) (by decide)
        | exact absurd (show false = true by assumption) (by decide)
        | apply And.intro
        | exact True.intro
        | with_reducible rfl
        | exact same_of hA rfl
        | refine br_of hA (fun _ => ?_) (fun _ => ?_)
        | exact imp_of hA id
        | (refine imp_of hA ?_; subst hA; simp only [real, Bool.true_and]; exact id)
        | (refine ind_of hA ?_; decide +kernel)
        | exact room_z hA (by omega) (by decide)
        | fail
      exact own_cp hA (by subst hA; rfl)
  · skip
    refine meets_of (H := []) (EX := EXA) ttok mixed Tryz.func159 rfl (by kernel_rfl) (by decide) ?_
    generalize hA : real = A
    generalize hM : MeetsB Tryz.prog = M
    cbv
    repeat' first
      | exact absurd (show true = false by assumption) (by decide)
      | exact absurd (show false = true by assumption) (by decide)
      | apply And.intro
      | exact True.intro
      | with_reducible rfl
      | exact same_of hA rfl
      | refine br_of hA (fun _ => ?_) (fun _ => ?_)
      | exact imp_of hA id
      | (refine imp_of hA ?_; subst hA; simp only [real, Bool.true_and]; exact id)
      | (refine ind_of hA ?_; decide +kernel)
      | exact room_z hA (by omega) (by decide)
      | (refine inb_of hA (fun _ => ⟨by omega, by omega⟩))
      | (rename_i hb; cases hb; done)
      | fail
    exact own_cp hA rfl
theorem c_copied (mk : Int) (n : Nat) (hn : n ≤ 1080000) (g : Nat → RowT) : Meets Tryz.prog 105 [.agg [.d (eI mk), .d (.sl 13 n fun i => eRow (g i))]] ⟨.one (.agg [.d (eI mk), .own 13 n fun i => eRow (g i)]), [none]⟩ := by
  refine meets_of (H := []) (EX := EXA) ttok mixed Tryz.func105 rfl (by kernel_rfl) (by decide) ?_
  generalize hA : real = A
  generalize hM : MeetsB Tryz.prog = M
  cbv
  repeat' first
    | apply And.intro
    | exact True.intro
    | with_reducible rfl
    | exact same_of hA rfl
    | refine br_of hA (fun _ => ?_) (fun _ => ?_)
    | exact imp_of hA id
    | (refine imp_of hA ?_; subst hA; simp only [real, Bool.true_and]; exact id)
    | (refine ind_of hA ?_; decide +kernel)
    | exact room_z hA (by omega) (by decide)
    | (refine call_of2 hA hM _ (c_CloneRow n hn g) rfl ?_; cbv)
    | fail
theorem c_sCopy (mk : Int) (n : Nat) (hn : n ≤ 1080000) (g : Nat → RowT) : Meets Tryz.prog 91 [.agg [.d (eI mk), .d (.sl 13 n fun i => eRow (g i))]] ⟨.one (.agg [.d (eI mk), .own 13 n fun i => eRow (g i)]), [none]⟩ := by
  refine meets_of (H := []) (EX := EXA) ttok mixed Tryz.func91 rfl (by kernel_rfl) (by decide) ?_
  generalize hA : real = A
  generalize hM : MeetsB Tryz.prog = M
  cbv
  repeat' first
    | apply And.intro
    | exact True.intro
    | with_reducible rfl
    | exact same_of hA rfl
    | refine br_of hA (fun _ => ?_) (fun _ => ?_)
    | exact imp_of hA id
    | (refine imp_of hA ?_; subst hA; simp only [real, Bool.true_and]; exact id)
    | (refine ind_of hA ?_; decide +kernel)
    | exact room_z hA (by omega) (by decide)
    | (refine call_of2 hA hM _ (c_CloneRow n hn g) rfl ?_; cbv)
    | fail
  exact own_cp2 hA rfl
end Go.Rk
/- Nests: ckp. -/
namespace Go.Rk
set_option linter.unusedSimpArgs false
set_option linter.unusedVariables false
open Go.Proofs
set_option maxRecDepth 100000
set_option maxHeartbeats 1000000
theorem c_SnapCopied (x : SnapT) (hb : bdSnap x) : Meets Tryz.prog 172 [xd (eSnap x)] ⟨.one (.agg [.d (eI x.op.mark), .own 13 x.op.rows.n fun i => eRow (x.op.rows.g i), .own 1 x.marks.n fun i => [eI (x.marks.g i)]]), [none]⟩ := by
  refine meets_of (H := []) (EX := EXA) ttok mixed Tryz.func172 rfl (by kernel_rfl) (by decide) ?_
  generalize hA : real = A
  generalize hM : MeetsB Tryz.prog = M
  cbv
  repeat' first
    | apply And.intro
    | exact True.intro
    | with_reducible rfl
    | exact same_of hA rfl
    | refine br_of hA (fun _ => ?_) (fun _ => ?_)
    | exact imp_of hA id
    | (refine imp_of hA ?_; subst hA; simp only [real, Bool.true_and]; exact id)
    | (refine ind_of hA ?_; decide +kernel)
    | (refine call_of2 hA hM _ (c_copied x.op.mark x.op.rows.n (Nat.le_trans hb.1 (by decide)) x.op.rows.g) rfl ?_; cbv)
    | (refine call_of2 hA hM _ (c_Cloneint x.marks.n (Nat.le_trans hb.2 (by decide)) x.marks.g) rfl ?_; cbv)
    | fail
def st_snaps (n : Nat) (rd : Nat → SnapT) (i : Nat) : St := ⟨[(8, .c (.d (eI i))), (7, .c (.d (eI n))), (6, .c (.d (.sl 3 n fun i => eSnap (rd i)))), (3, .c (.nown 1024 i 1))], [(1024, 1, .nest 3 i (fun j => eSnap (rd j)) none)]⟩
theorem c_snaps (n : Nat) (hn : n ≤ 1048576) (rd : Nat → SnapT) (hb : ∀ i, i < n → bdSnap (rd i)) : Meets Tryz.prog 131 [.c (.d (.sl 3 n fun i => eSnap (rd i)))] ⟨.one (.c (.nown 3 n fun i => eSnap (rd i))), [none]⟩ := by
  have hn2 : n ≤ maxLen := Nat.le_trans hn (by decide)
  refine meets_of (H := []) (EX := EXA) ttok mixed Tryz.func131 rfl (by kernel_rfl) (by decide) ?_
  generalize hA : real = A
  generalize hM : MeetsB Tryz.prog = M
  cbv
  repeat' first
    | apply And.intro
    | exact True.intro
    | with_reducible rfl
    | exact same_of hA rfl
    | refine br_of hA (fun _ => ?_) (fun _ => ?_)
    | exact imp_of hA id
    | (refine imp_of hA ?_; subst hA; simp only [real, Bool.true_and]; exact id)
    | (refine ind_of hA ?_; decide +kernel)
    | fail
  refine loop_of hA (α := { i : Nat // i ≤ n }) (fun x => st_snaps n rd x.1) (fun x => n - x.1) ⟨0, Nat.zero_le _⟩ ?_ ?_
  · refine cov_promN 3 1024 1 3 (fun j => eSnap (rd j)) rfl rfl (cov_of ?_ ?_ ?_)
    · (subst hA; repeat' first | exact True.intro | exact rfl | apply And.intro | (intro _ _; rfl) | (intro _ _ _; rfl) | exact .inr (le_of_nble rfl) | exact .inl rfl)
    · (subst hA; repeat' first | exact True.intro | exact rfl | apply And.intro | (intro _ _; rfl) | (intro _ _ _; rfl) | exact .inr (le_of_nble rfl) | exact .inl rfl)
    · (subst hA; repeat' first | exact True.intro | exact rfl | apply And.intro | (intro _ _; rfl) | (intro _ _ _; rfl) | exact .inr (le_of_nble rfl) | exact .inl rfl)
  rintro ⟨i, hi⟩
  have hi : i ≤ n := hi
  cbv
  repeat' first
    | apply And.intro
    | exact True.intro
    | with_reducible rfl
    | exact same_of hA rfl
    | refine br_of hA (fun _ => ?_) (fun _ => ?_)
    | exact imp_of hA id
    | (refine imp_of hA ?_; subst hA; simp only [real, Bool.true_and]; exact id)
    | (refine ind_of hA ?_; decide +kernel)
    | (refine call_of hA hM _ (c_SnapCopied (rd (A.nat (Int.ofNat i))) (hb _ (by rename_i hlt; subst hA; simp only [real, decide_eq_true_eq, Int.ofNat_eq_natCast, Int.toNat_natCast] at *; omega))) ?_; cbv)
    | (refine inb_of hA fun _ => ?_; subst hA; simp only [real, decide_eq_true_eq, Int.ofNat_eq_natCast] at *; omega)
    | exact room_add2 hA (by omega) (by decide)
    | exact room_of2 hA (by omega) (by decide)
    | (refine room_add2 hA ?_ (by decide); rename_i hlt; subst hA; simp only [real, decide_eq_true_eq, Int.ofNat_eq_natCast] at hlt; omega)
    | (refine same_of hA ?_; subst hA; rfl)
    | fail
  · rename_i hlt
    have hlt' : i < n := by subst hA; simp only [real, decide_eq_true_eq, Int.ofNat_eq_natCast] at hlt; omega
    refine ⟨⟨i + 1, hlt'⟩, by simp only; omega, cov_close 1024 (fun j => eSnap (rd j)) (eSnap (rd i)) [(14 * 64 + 1, 1), (14 * 64 + 2, 1)] rfl ?_ rfl rfl (fun k _ _ => rfl) (cov_of ?_ ?_ ?_)⟩
    · subst hA; exact (close_v (close_own rfl (fun _ _ => rfl) (flatR fun _ => flat_Row _) (close_own rfl (fun _ _ => rfl) (flatR fun _ => flat_int _) close_end)))
    · (subst hA; repeat' first | exact True.intro | exact rfl | exact congrArg (fun x => DV.v (.int .i64 x)) (up64 hlt' hn2) | apply And.intro | (intro _ _; rfl) | (intro _ _ _; rfl) | exact .inr (le_of_nble rfl) | exact .inl rfl)
    · (subst hA; repeat' first | exact True.intro | exact rfl | exact congrArg (fun x => DV.v (.int .i64 x)) (up64 hlt' hn2) | apply And.intro | (intro _ _; rfl) | (intro _ _ _; rfl) | exact .inr (le_of_nble rfl) | exact .inl rfl)
    · (subst hA; repeat' first | exact True.intro | exact rfl | exact congrArg (fun x => DV.v (.int .i64 x)) (up64 hlt' hn2) | apply And.intro | (intro _ _; rfl) | (intro _ _ _; rfl) | exact .inr (le_of_nble rfl) | exact .inl rfl)
  · rename_i hge
    have hin : i = n := by
      subst hA
      have : ¬ ((i : Int) < (n : Int)) := of_decide_eq_false hge
      omega
    subst hin
    rfl
theorem c_CkpCopied (x : CkpT) (hb : bdCkp x) : Meets Tryz.prog 63 [xd (eCkp x)] ⟨.one (.agg [.d (eI x.n), .d (eB x.opn), .own 1 x.src.n fun i => [eI (x.src.g i)], .own 1 x.tsk.n fun i => [eB (x.tsk.g i)], .nown 3 x.snaps.n fun i => eSnap (x.snaps.g i), .d (eI x.safe.n), .own 1 x.safe.at_.n fun i => [eI (x.safe.at_.g i)], .nown 3 x.safe.snaps.n fun i => eSnap (x.safe.snaps.g i)]), [none]⟩ := by
  refine meets_of (H := []) (EX := EXA) ttok mixed Tryz.func63 rfl (by kernel_rfl) (by decide) ?_
  generalize hA : real = A
  generalize hM : MeetsB Tryz.prog = M
  cbv
  repeat' first
    | apply And.intro
    | exact True.intro
    | with_reducible rfl
    | exact same_of hA rfl
    | refine br_of hA (fun _ => ?_) (fun _ => ?_)
    | exact imp_of hA id
    | (refine imp_of hA ?_; subst hA; simp only [real, Bool.true_and]; exact id)
    | (refine ind_of hA ?_; decide +kernel)
    | (refine call_of2 hA hM _ (c_Cloneint x.src.n (Nat.le_trans hb.1 (by decide)) x.src.g) rfl ?_; cbv)
    | (refine call_of2 hA hM _ (c_Clonebool x.tsk.n (Nat.le_trans hb.2.1 (by decide)) x.tsk.g) rfl ?_; cbv)
    | (refine call_of2 hA hM _ (c_snaps x.snaps.n hb.2.2.1 x.snaps.g hb.2.2.2.1) rfl ?_; cbv)
    | (refine call_of2 hA hM _ (c_Cloneint x.safe.at_.n (Nat.le_trans hb.2.2.2.2.1 (by decide)) x.safe.at_.g) rfl ?_; cbv)
    | (refine call_of2 hA hM _ (c_snaps x.safe.snaps.n hb.2.2.2.2.2.1 x.safe.snaps.g hb.2.2.2.2.2.2) rfl ?_; cbv)
    | fail
end Go.Rk
/- Marks, in plain words. -/
namespace Go.Rk
set_option linter.unusedSimpArgs false
set_option linter.unusedVariables false
abbrev intT := Int
abbrev boolT := Bool
abbrev eint (x : Int) : List DV := [eI x]
abbrev ebool (x : Bool) : List DV := [eB x]
def mkint (k : Int) : Int := k
def mkbool (k : Int) : Bool := k.tmod 3 == 0
/-- Where the marks of a row's parts begin, one behind the other. -/
def posS (len : Nat → Int) (s : Int) : Nat → Int
  | 0 => s
  | i + 1 => posS len s i + len i
theorem posS_mono {len : Nat → Int} {s : Int} {n : Nat} (h : ∀ i, i < n → 0 ≤ len i) : ∀ {i j : Nat}, i ≤ j → j ≤ n → posS len s i ≤ posS len s j := by
  intro i j hij hj
  induction j with
  | zero => have : i = 0 := by omega
            subst this; exact Int.le_refl _
  | succ j ih =>
    by_cases e : i = j + 1
    · subst e; exact Int.le_refl _
    · have h1 := ih (by omega) (by omega)
      have h2 := h j (by omega)
      show _ ≤ posS len s j + len j
      omega
def lenSnap (x : SnapT) : Int := 1 + 13 * (x.op.rows.n : Int) + (x.marks.n : Int)
def mkSnap (p : Int) (x : SnapT) : SnapT := ⟨⟨p, ⟨x.op.rows.n, fun i => mkRow (p + 1 + 13 * (i : Int)), x.op.rows.hn⟩⟩, ⟨x.marks.n, fun i => p + 1 + 13 * (x.op.rows.n : Int) + (i : Int), x.marks.hn⟩⟩
end Go.Rk
/- Marks. -/
namespace Go.Rk
set_option linter.unusedSimpArgs false
set_option linter.unusedVariables false
open Go.Proofs
def st_msint (n i : Nat) (k : Int) (rm : Nat → intT) : St := ⟨[(5, .c (.d (eI i))), (1, .c (.d (eI k))), (0, .c (.own 0 0 n 1))], [(0, 1, .arr 1 n fun i => eint (rm i))]⟩
set_option maxRecDepth 100000 in
set_option maxHeartbeats 1000000 in
theorem marks_int (s : Int) (hs : 0 ≤ s ∧ s ≤ 100000000) (n : Nat) (hn : n ≤ 1100000) (rd : Nat → intT) (x : Int) (hx : x = s + 1 * (n : Int)) (GM : Nat → intT) (hGM : ∀ i, GM i = mkint (s + 1 * (i : Int))) : Meets Tryz.prog 69 [.c (.own 1 n fun i => eint (rd i)), .c (.d (eI s))] ⟨.one (.c (.d (eI x))), [some (.own 1 n fun i => eint (GM i)), none]⟩ := by
  have hn2 : n ≤ maxLen := Nat.le_trans hn (by decide)
  refine meets_of (H := [6]) (EX := EXA) ttok mixed Tryz.func69 rfl (by kernel_rfl) (by decide) ?_
  generalize hA : real = A
  generalize hM : MeetsB Tryz.prog = M
  cbv
  repeat' first
    | apply And.intro
    | exact True.intro
    | with_reducible rfl
    | exact same_of hA rfl
    | refine br_of hA (fun _ => ?_) (fun _ => ?_)
    | exact imp_of hA id
    | (refine imp_of hA ?_; subst hA; simp only [real, Bool.true_and]; exact id)
    | (refine ind_of hA ?_; decide +kernel)
    | fail
  refine loop_of hA (α := { q : Nat × Int × (Nat → intT) // q.1 ≤ n ∧ q.2.1 = s + 1 * (q.1 : Int) ∧ ∀ j, j < q.1 → q.2.2 j = GM j }) (fun y => st_msint n y.1.1 y.1.2.1 y.1.2.2) (fun y => n - y.1.1) ⟨(0, s, rd), Nat.zero_le _, by simp, fun j h => absurd h (Nat.not_lt_zero j)⟩ ?_ ?_
  · refine cov_of ?_ ?_ ?_
    · cbv; try (subst hA; repeat' first | apply And.intro | exact True.intro | rfl)
    · cbv; try (subst hA; repeat' first | apply And.intro | exact True.intro | rfl | (intro _ _; rfl))
    · cbv; try (subst hA; repeat' first | apply And.intro | exact True.intro | rfl | exact .inr trivial | exact .inr (Nat.le_refl _))
  rintro ⟨⟨i, k, rm⟩, hi, hkk, hr⟩
  have hi : i ≤ n := hi
  have hkk : k = s + 1 * (i : Int) := hkk
  have hr : ∀ j, j < i → rm j = GM j := hr
  obtain ⟨k1, hk1⟩ : ∃ z : Int, z = k + 1 := ⟨_, rfl⟩
  have w1 : IntKind.i64.wrap (k + 1) = k1 := by rw [IntWalk.i64_in _ (by omega)]; omega
  obtain ⟨r1, hr1⟩ : ∃ r : Nat → intT, r = fun q => if q = i then (k : intT) else rm q := ⟨_, rfl⟩
  cbv
  repeat' first
    | apply And.intro
    | exact True.intro
    | with_reducible rfl
    | exact same_of hA rfl
    | refine br_of hA (fun _ => ?_) (fun _ => ?_)
    | exact imp_of hA id
    | (refine imp_of hA ?_; subst hA; simp only [real, Bool.true_and]; exact id)
    | (refine ind_of hA ?_; decide +kernel)
    | (refine inb_of hA fun _ => ?_; subst hA; simp only [real, Bool.and_eq_true, Bool.not_eq_true', Bool.not_eq_false', decide_eq_true_eq, Int.ofNat_eq_natCast, IntKind.wrap_i64] at *; omega)
    | (subst hA; exact fun _ => (by decide : (3 : Int) ≠ 0))
    | fail
  · rename_i hlt
    have hlt' : i < n := by subst hA; simp only [real, decide_eq_true_eq, Int.ofNat_eq_natCast] at hlt; omega
    have h9 : ((i + 1 : Nat) : Int) = (i : Int) + 1 := rfl
    refine ⟨⟨(i + 1, k1, r1), by simp only; omega, by (show k1 = s + 1 * ((i + 1 : Nat) : Int)); rw [h9, hk1, hkk, Int.mul_add]; exact Int.add_assoc _ _ _, fun j hj => ?_⟩, by simp only; omega, cov_of ?_ ?_ ?_⟩
    · simp only at hj ⊢
      by_cases e : j = i
      · rw [hr1]; simp only [e, if_true]
        rw [hGM, ← hkk]
        simp only [mkint, ]
      · rw [hr1]; simp only [e, if_false]; exact hr j (by omega)
    · cbv
      subst hA
      repeat' first | apply And.intro | exact True.intro | exact congrArg (fun x => DV.v (.int .i64 x)) w1 | exact congrArg (fun x => DV.v (.int .i64 x)) (up64 hlt' hn2) | rfl
    · cbv
      subst hA
      refine ⟨fun q _ => ?_, trivial⟩
      have e0 : real.add 0 (real.nat (Int.ofNat i)) = i := Nat.zero_add i
      simp only [e0]
      first
        | (show (if q = i then _ else eint (rm q)) = eint (r1 q))
        | (show (if q = 0 + i then _ else eint (rm q)) = eint (r1 q); rw [Nat.zero_add])
      simp only [hr1]
      by_cases e : q = i
      · subst e; first | (simp; done) | (simp; rfl)
      · simp [e]
    · cbv; try (subst hA; repeat' first | apply And.intro | exact True.intro | rfl | exact .inr trivial | exact .inr (Nat.le_refl _))
  · rename_i hge
    have hin : i = n := by
      subst hA
      simp only [real, decide_eq_false_iff_not, Int.ofNat_eq_natCast] at hge
      omega
    subst hin
    have hkx : k = x := by rw [hkk, hx]
    subst hkx
    refine stop_of hA ⟨[(1, .c (.d (eI k)))], [(0, 1, .arr 1 i fun q => eint (GM q))]⟩ (cov_of ?_ ?_ ?_) ?_
    · cbv
    · cbv
      exact ⟨fun q hq => congrArg (fun y => eint y) (hr q hq), trivial⟩
    · cbv; try (subst hA; repeat' first | apply And.intro | exact True.intro | rfl | exact .inr trivial | exact .inr (Nat.le_refl _))
    · cbv
      repeat' first
        | apply And.intro
        | exact True.intro
        | with_reducible rfl
        | exact same_of hA rfl
        | refine br_of hA (fun _ => ?_) (fun _ => ?_)
        | exact imp_of hA id
        | (refine imp_of hA ?_; subst hA; simp only [real, Bool.true_and]; exact id)
        | (refine ind_of hA ?_; decide +kernel)
        | fail
def st_hsint (n : Nat) (rd : Nat → intT) (i : Nat) (k : Int) : St := ⟨[(5, .c (.d (eI i))), (1, .c (.d (eI k))), (0, .c (.d (.sl 1 n fun i => eint (rd i))))], []⟩
set_option maxRecDepth 100000 in
set_option maxHeartbeats 2000000 in
theorem helds_int (s : Int) (hs : 0 ≤ s ∧ s ≤ 100000000) (n : Nat) (hn : n ≤ 1100000) (x : Int) (hx : x = s + 1 * (n : Int)) (GM : Nat → intT) (hGM : ∀ i, GM i = mkint (s + 1 * (i : Int))) : Meets Tryz.prog 73 [.c (.d (.sl 1 n fun i => eint (GM i))), .c (.d (eI s))] ⟨.one (.c (.d (eI x))), [none, none]⟩ := by
  have hn2 : n ≤ maxLen := Nat.le_trans hn (by decide)
  refine meets_of (H := []) (EX := EXA) ttok mixed Tryz.func73 rfl (by kernel_rfl) (by decide) ?_
  generalize hA : real = A
  generalize hM : MeetsB Tryz.prog = M
  cbv
  repeat' first
    | apply And.intro
    | exact True.intro
    | with_reducible rfl
    | exact same_of hA rfl
    | refine br_of hA (fun _ => ?_) (fun _ => ?_)
    | exact imp_of hA id
    | (refine imp_of hA ?_; subst hA; simp only [real, Bool.true_and]; exact id)
    | (refine ind_of hA ?_; decide +kernel)
    | fail
  refine loop_of hA (α := { q : Nat × Int // q.1 ≤ n ∧ q.2 = s + 1 * (q.1 : Int) }) (fun y => st_hsint n GM y.1.1 y.1.2) (fun y => n - y.1.1) ⟨(0, s), Nat.zero_le _, by simp⟩ ?_ ?_
  · refine cov_of ?_ ?_ ?_
    · cbv; try (subst hA; repeat' first | apply And.intro | exact True.intro | rfl)
    · cbv; try (subst hA; repeat' first | apply And.intro | exact True.intro | rfl)
    · cbv
  rintro ⟨⟨i, k⟩, hi, hkk⟩
  have hi : i ≤ n := hi
  have hkk : k = s + 1 * (i : Int) := hkk
  have hkb : 0 ≤ k ∧ k ≤ 150000000 := by omega
  have e := hGM i
  rw [← hkk] at e
  have w1 : IntKind.i64.wrap (k + 1) = k + 1 := wr1 k hkb
  cbv
  repeat' first
    | apply And.intro
    | exact True.intro
    | with_reducible rfl
    | exact same_of hA rfl
    | refine br_of hA (fun _ => ?_) (fun _ => ?_)
    | exact imp_of hA id
    | (refine imp_of hA ?_; subst hA; simp only [real, Bool.true_and]; exact id)
    | (refine ind_of hA ?_; decide +kernel)
    | (refine inb_of hA fun _ => ?_; subst hA; simp only [real, Bool.and_eq_true, Bool.not_eq_true', Bool.not_eq_false', decide_eq_true_eq, Int.ofNat_eq_natCast, IntKind.wrap_i64] at *; omega)
    | (subst hA; exact fun _ => (by decide : (3 : Int) ≠ 0))
    | fail
  · exfalso
    rename_i hlt h0
    have h : ((GM i) != k) = true := by subst hA; exact h0
    rw [e] at h
    simp [mkint] at h
  · rename_i hlt h0
    have hlt' : i < n := by subst hA; simp only [real, decide_eq_true_eq, Int.ofNat_eq_natCast] at hlt; omega
    have h9 : ((i + 1 : Nat) : Int) = (i : Int) + 1 := rfl
    obtain ⟨kk, hkk2⟩ : ∃ z : Int, z = k + 1 := ⟨_, rfl⟩
    replace w1 := w1.trans hkk2.symm
    refine ⟨⟨(i + 1, kk), by simp only; omega, by (show kk = s + 1 * ((i + 1 : Nat) : Int)); rw [h9, hkk2, hkk, Int.mul_add]; exact Int.add_assoc _ _ _⟩, by simp only; omega, cov_of ?_ ?_ ?_⟩
    · cbv
      subst hA
      repeat' first | apply And.intro | exact True.intro | exact congrArg (fun x => DV.v (.int .i64 x)) (up64 hlt' hn2) | exact congrArg (fun x => DV.v (.int .i64 x)) w1 | rfl
    · cbv
    · cbv
  · rename_i hge
    have hin : i = n := by
      subst hA
      simp only [real, decide_eq_false_iff_not, Int.ofNat_eq_natCast] at hge
      omega
    subst hin
    exact congrArg (fun x => XA.one (.c (.d (eI x)))) (by rw [hkk, hx])
def st_msbool (n i : Nat) (k : Int) (rm : Nat → boolT) : St := ⟨[(5, .c (.d (eI i))), (1, .c (.d (eI k))), (0, .c (.own 0 0 n 1))], [(0, 1, .arr 1 n fun i => ebool (rm i))]⟩
set_option maxRecDepth 100000 in
set_option maxHeartbeats 1000000 in
theorem marks_bool (s : Int) (hs : 0 ≤ s ∧ s ≤ 100000000) (n : Nat) (hn : n ≤ 1100000) (rd : Nat → boolT) (x : Int) (hx : x = s + 1 * (n : Int)) (GM : Nat → boolT) (hGM : ∀ i, GM i = mkbool (s + 1 * (i : Int))) : Meets Tryz.prog 70 [.c (.own 1 n fun i => ebool (rd i)), .c (.d (eI s))] ⟨.one (.c (.d (eI x))), [some (.own 1 n fun i => ebool (GM i)), none]⟩ := by
  have hn2 : n ≤ maxLen := Nat.le_trans hn (by decide)
  refine meets_of (H := [6]) (EX := EXA) ttok mixed Tryz.func70 rfl (by kernel_rfl) (by decide) ?_
  generalize hA : real = A
  generalize hM : MeetsB Tryz.prog = M
  cbv
  repeat' first
    | apply And.intro
    | exact True.intro
    | with_reducible rfl
    | exact same_of hA rfl
    | refine br_of hA (fun _ => ?_) (fun _ => ?_)
    | exact imp_of hA id
    | (refine imp_of hA ?_; subst hA; simp only [real, Bool.true_and]; exact id)
    | (refine ind_of hA ?_; decide +kernel)
    | fail
  refine loop_of hA (α := { q : Nat × Int × (Nat → boolT) // q.1 ≤ n ∧ q.2.1 = s + 1 * (q.1 : Int) ∧ ∀ j, j < q.1 → q.2.2 j = GM j }) (fun y => st_msbool n y.1.1 y.1.2.1 y.1.2.2) (fun y => n - y.1.1) ⟨(0, s, rd), Nat.zero_le _, by simp, fun j h => absurd h (Nat.not_lt_zero j)⟩ ?_ ?_
  · refine cov_of ?_ ?_ ?_
    · cbv; try (subst hA; repeat' first | apply And.intro | exact True.intro | rfl)
    · cbv; try (subst hA; repeat' first | apply And.intro | exact True.intro | rfl | (intro _ _; rfl))
    · cbv; try (subst hA; repeat' first | apply And.intro | exact True.intro | rfl | exact .inr trivial | exact .inr (Nat.le_refl _))
  rintro ⟨⟨i, k, rm⟩, hi, hkk, hr⟩
  have hi : i ≤ n := hi
  have hkk : k = s + 1 * (i : Int) := hkk
  have hr : ∀ j, j < i → rm j = GM j := hr
  obtain ⟨k1, hk1⟩ : ∃ z : Int, z = k + 1 := ⟨_, rfl⟩
  have w1 : IntKind.i64.wrap (k + 1) = k1 := by rw [IntWalk.i64_in _ (by omega)]; omega
  obtain ⟨r1, hr1⟩ : ∃ r : Nat → boolT, r = fun q => if q = i then ((k.tmod 3 == 0) : boolT) else rm q := ⟨_, rfl⟩
  cbv
  repeat' first
    | apply And.intro
    | exact True.intro
    | with_reducible rfl
    | exact same_of hA rfl
    | refine br_of hA (fun _ => ?_) (fun _ => ?_)
    | exact imp_of hA id
    | (refine imp_of hA ?_; subst hA; simp only [real, Bool.true_and]; exact id)
    | (refine ind_of hA ?_; decide +kernel)
    | (refine inb_of hA fun _ => ?_; subst hA; simp only [real, Bool.and_eq_true, Bool.not_eq_true', Bool.not_eq_false', decide_eq_true_eq, Int.ofNat_eq_natCast, IntKind.wrap_i64] at *; omega)
    | (subst hA; exact fun _ => (by decide : (3 : Int) ≠ 0))
    | fail
  · rename_i hlt
    have hlt' : i < n := by subst hA; simp only [real, decide_eq_true_eq, Int.ofNat_eq_natCast] at hlt; omega
    have h9 : ((i + 1 : Nat) : Int) = (i : Int) + 1 := rfl
    refine ⟨⟨(i + 1, k1, r1), by simp only; omega, by (show k1 = s + 1 * ((i + 1 : Nat) : Int)); rw [h9, hk1, hkk, Int.mul_add]; exact Int.add_assoc _ _ _, fun j hj => ?_⟩, by simp only; omega, cov_of ?_ ?_ ?_⟩
    · simp only at hj ⊢
      by_cases e : j = i
      · rw [hr1]; simp only [e, if_true]
        rw [hGM, ← hkk]
        simp only [mkbool, ]
      · rw [hr1]; simp only [e, if_false]; exact hr j (by omega)
    · cbv
      subst hA
      repeat' first | apply And.intro | exact True.intro | exact congrArg (fun x => DV.v (.int .i64 x)) w1 | exact congrArg (fun x => DV.v (.int .i64 x)) (up64 hlt' hn2) | rfl
    · cbv
      subst hA
      refine ⟨fun q _ => ?_, trivial⟩
      have e0 : real.add 0 (real.nat (Int.ofNat i)) = i := Nat.zero_add i
      simp only [e0]
      first
        | (show (if q = i then _ else ebool (rm q)) = ebool (r1 q))
        | (show (if q = 0 + i then _ else ebool (rm q)) = ebool (r1 q); rw [Nat.zero_add])
      simp only [hr1]
      by_cases e : q = i
      · subst e; first | (simp; done) | (simp; rfl)
      · simp [e]
    · cbv; try (subst hA; repeat' first | apply And.intro | exact True.intro | rfl | exact .inr trivial | exact .inr (Nat.le_refl _))
  · rename_i hge
    have hin : i = n := by
      subst hA
      simp only [real, decide_eq_false_iff_not, Int.ofNat_eq_natCast] at hge
      omega
    subst hin
    have hkx : k = x := by rw [hkk, hx]
    subst hkx
    refine stop_of hA ⟨[(1, .c (.d (eI k)))], [(0, 1, .arr 1 i fun q => ebool (GM q))]⟩ (cov_of ?_ ?_ ?_) ?_
    · cbv
    · cbv
      exact ⟨fun q hq => congrArg (fun y => ebool y) (hr q hq), trivial⟩
    · cbv; try (subst hA; repeat' first | apply And.intro | exact True.intro | rfl | exact .inr trivial | exact .inr (Nat.le_refl _))
    · cbv
      repeat' first
        | apply And.intro
        | exact True.intro
        | with_reducible rfl
        | exact same_of hA rfl
        | refine br_of hA (fun _ => ?_) (fun _ => ?_)
        | exact imp_of hA id
        | (refine imp_of hA ?_; subst hA; simp only [real, Bool.true_and]; exact id)
        | (refine ind_of hA ?_; decide +kernel)
        | fail
def st_hsbool (n : Nat) (rd : Nat → boolT) (i : Nat) (k : Int) : St := ⟨[(5, .c (.d (eI i))), (1, .c (.d (eI k))), (0, .c (.d (.sl 1 n fun i => ebool (rd i))))], []⟩
set_option maxRecDepth 100000 in
set_option maxHeartbeats 2000000 in
theorem helds_bool (s : Int) (hs : 0 ≤ s ∧ s ≤ 100000000) (n : Nat) (hn : n ≤ 1100000) (x : Int) (hx : x = s + 1 * (n : Int)) (GM : Nat → boolT) (hGM : ∀ i, GM i = mkbool (s + 1 * (i : Int))) : Meets Tryz.prog 74 [.c (.d (.sl 1 n fun i => ebool (GM i))), .c (.d (eI s))] ⟨.one (.c (.d (eI x))), [none, none]⟩ := by
  have hn2 : n ≤ maxLen := Nat.le_trans hn (by decide)
  refine meets_of (H := []) (EX := EXA) ttok mixed Tryz.func74 rfl (by kernel_rfl) (by decide) ?_
  generalize hA : real = A
  generalize hM : MeetsB Tryz.prog = M
  cbv
  repeat' first
    | apply And.intro
    | exact True.intro
    | with_reducible rfl
    | exact same_of hA rfl
    | refine br_of hA (fun _ => ?_) (fun _ => ?_)
    | exact imp_of hA id
    | (refine imp_of hA ?_; subst hA; simp only [real, Bool.true_and]; exact id)
    | (refine ind_of hA ?_; decide +kernel)
    | fail
  refine loop_of hA (α := { q : Nat × Int // q.1 ≤ n ∧ q.2 = s + 1 * (q.1 : Int) }) (fun y => st_hsbool n GM y.1.1 y.1.2) (fun y => n - y.1.1) ⟨(0, s), Nat.zero_le _, by simp⟩ ?_ ?_
  · refine cov_of ?_ ?_ ?_
    · cbv; try (subst hA; repeat' first | apply And.intro | exact True.intro | rfl)
    · cbv; try (subst hA; repeat' first | apply And.intro | exact True.intro | rfl)
    · cbv
  rintro ⟨⟨i, k⟩, hi, hkk⟩
  have hi : i ≤ n := hi
  have hkk : k = s + 1 * (i : Int) := hkk
  have hkb : 0 ≤ k ∧ k ≤ 150000000 := by omega
  have e := hGM i
  rw [← hkk] at e
  have w1 : IntKind.i64.wrap (k + 1) = k + 1 := wr1 k hkb
  cbv
  repeat' first
    | apply And.intro
    | exact True.intro
    | with_reducible rfl
    | exact same_of hA rfl
    | refine br_of hA (fun _ => ?_) (fun _ => ?_)
    | exact imp_of hA id
    | (refine imp_of hA ?_; subst hA; simp only [real, Bool.true_and]; exact id)
    | (refine ind_of hA ?_; decide +kernel)
    | (refine inb_of hA fun _ => ?_; subst hA; simp only [real, Bool.and_eq_true, Bool.not_eq_true', Bool.not_eq_false', decide_eq_true_eq, Int.ofNat_eq_natCast, IntKind.wrap_i64] at *; omega)
    | (subst hA; exact fun _ => (by decide : (3 : Int) ≠ 0))
    | fail
  · exfalso
    rename_i hlt h0
    have h : (!((GM i) == ((k).tmod 3 == 0))) = true := by subst hA; exact h0
    rw [e] at h
    simp [mkbool] at h
  · rename_i hlt h0
    have hlt' : i < n := by subst hA; simp only [real, decide_eq_true_eq, Int.ofNat_eq_natCast] at hlt; omega
    have h9 : ((i + 1 : Nat) : Int) = (i : Int) + 1 := rfl
    obtain ⟨kk, hkk2⟩ : ∃ z : Int, z = k + 1 := ⟨_, rfl⟩
    replace w1 := w1.trans hkk2.symm
    refine ⟨⟨(i + 1, kk), by simp only; omega, by (show kk = s + 1 * ((i + 1 : Nat) : Int)); rw [h9, hkk2, hkk, Int.mul_add]; exact Int.add_assoc _ _ _⟩, by simp only; omega, cov_of ?_ ?_ ?_⟩
    · cbv
      subst hA
      repeat' first | apply And.intro | exact True.intro | exact congrArg (fun x => DV.v (.int .i64 x)) (up64 hlt' hn2) | exact congrArg (fun x => DV.v (.int .i64 x)) w1 | rfl
    · cbv
    · cbv
  · rename_i hge
    have hin : i = n := by
      subst hA
      simp only [real, decide_eq_false_iff_not, Int.ofNat_eq_natCast] at hge
      omega
    subst hin
    exact congrArg (fun x => XA.one (.c (.d (eI x)))) (by rw [hkk, hx])
end Go.Rk
/- Marks. -/
namespace Go.Rk
set_option linter.unusedSimpArgs false
set_option linter.unusedVariables false
open Go.Proofs
def st_msRow (n i : Nat) (k : Int) (rm : Nat → RowT) : St := ⟨[(5, .c (.d (eI i))), (1, .c (.d (eI k))), (0, .c (.own 0 0 n 1))], [(0, 1, .arr 13 n fun i => eRow (rm i))]⟩
set_option maxRecDepth 100000 in
set_option maxHeartbeats 1000000 in
theorem marks_Row (s : Int) (hs : 0 ≤ s ∧ s ≤ 100000000) (n : Nat) (hn : n ≤ 1100000) (rd : Nat → RowT) (x : Int) (hx : x = s + 13 * (n : Int)) (GM : Nat → RowT) (hGM : ∀ i, GM i = mkRow (s + 13 * (i : Int))) : Meets Tryz.prog 113 [.c (.own 13 n fun i => eRow (rd i)), .c (.d (eI s))] ⟨.one (.c (.d (eI x))), [some (.own 13 n fun i => eRow (GM i)), none]⟩ := by
  have hn2 : n ≤ maxLen := Nat.le_trans hn (by decide)
  refine meets_of (H := [6, 8, 10, 12, 14, 16, 18, 20, 22, 24, 26, 28, 30]) (EX := EXA) ttok mixed Tryz.func113 rfl (by kernel_rfl) (by decide) ?_
  generalize hA : real = A
  generalize hM : MeetsB Tryz.prog = M
  cbv
  repeat' first
    | apply And.intro
    | exact True.intro
    | with_reducible rfl
    | exact same_of hA rfl
    | refine br_of hA (fun _ => ?_) (fun _ => ?_)
    | exact imp_of hA id
    | (refine imp_of hA ?_; subst hA; simp only [real, Bool.true_and]; exact id)
    | (refine ind_of hA ?_; decide +kernel)
    | fail
  refine loop_of hA (α := { q : Nat × Int × (Nat → RowT) // q.1 ≤ n ∧ q.2.1 = s + 13 * (q.1 : Int) ∧ ∀ j, j < q.1 → q.2.2 j = GM j }) (fun y => st_msRow n y.1.1 y.1.2.1 y.1.2.2) (fun y => n - y.1.1) ⟨(0, s, rd), Nat.zero_le _, by simp, fun j h => absurd h (Nat.not_lt_zero j)⟩ ?_ ?_
  · refine cov_of ?_ ?_ ?_
    · cbv; try (subst hA; repeat' first | apply And.intro | exact True.intro | rfl)
    · cbv; try (subst hA; repeat' first | apply And.intro | exact True.intro | rfl | (intro _ _; rfl))
    · cbv; try (subst hA; repeat' first | apply And.intro | exact True.intro | rfl | exact .inr trivial | exact .inr (Nat.le_refl _))
  rintro ⟨⟨i, k, rm⟩, hi, hkk, hr⟩
  have hi : i ≤ n := hi
  have hkk : k = s + 13 * (i : Int) := hkk
  have hr : ∀ j, j < i → rm j = GM j := hr
  obtain ⟨k1, hk1⟩ : ∃ z : Int, z = k + 1 := ⟨_, rfl⟩
  have w1 : IntKind.i64.wrap (k + 1) = k1 := by rw [IntWalk.i64_in _ (by omega)]; omega
  obtain ⟨r1, hr1⟩ : ∃ r : Nat → RowT, r = fun q => if q = i then (⟨k, ⟨(rm i).win.s, (rm i).win.e⟩, ⟨(rm i).all.n, (rm i).all.sum, (rm i).all.least, (rm i).all.most⟩, ⟨(rm i).fresh.n, (rm i).fresh.sum, (rm i).fresh.least, (rm i).fresh.most⟩, (rm i).told, (rm i).timely⟩ : RowT) else rm q := ⟨_, rfl⟩
  obtain ⟨k2, hk2⟩ : ∃ z : Int, z = k + 2 := ⟨_, rfl⟩
  have w2 : IntKind.i64.wrap (k1 + 1) = k2 := by rw [IntWalk.i64_in _ (by omega)]; omega
  obtain ⟨r2, hr2⟩ : ∃ r : Nat → RowT, r = fun q => if q = i then (⟨k, ⟨k1, (rm i).win.e⟩, ⟨(rm i).all.n, (rm i).all.sum, (rm i).all.least, (rm i).all.most⟩, ⟨(rm i).fresh.n, (rm i).fresh.sum, (rm i).fresh.least, (rm i).fresh.most⟩, (rm i).told, (rm i).timely⟩ : RowT) else rm q := ⟨_, rfl⟩
  obtain ⟨k3, hk3⟩ : ∃ z : Int, z = k + 3 := ⟨_, rfl⟩
  have w3 : IntKind.i64.wrap (k2 + 1) = k3 := by rw [IntWalk.i64_in _ (by omega)]; omega
  obtain ⟨r3, hr3⟩ : ∃ r : Nat → RowT, r = fun q => if q = i then (⟨k, ⟨k1, k2⟩, ⟨(rm i).all.n, (rm i).all.sum, (rm i).all.least, (rm i).all.most⟩, ⟨(rm i).fresh.n, (rm i).fresh.sum, (rm i).fresh.least, (rm i).fresh.most⟩, (rm i).told, (rm i).timely⟩ : RowT) else rm q := ⟨_, rfl⟩
  obtain ⟨k4, hk4⟩ : ∃ z : Int, z = k + 4 := ⟨_, rfl⟩
  have w4 : IntKind.i64.wrap (k3 + 1) = k4 := by rw [IntWalk.i64_in _ (by omega)]; omega
  obtain ⟨r4, hr4⟩ : ∃ r : Nat → RowT, r = fun q => if q = i then (⟨k, ⟨k1, k2⟩, ⟨k3, (rm i).all.sum, (rm i).all.least, (rm i).all.most⟩, ⟨(rm i).fresh.n, (rm i).fresh.sum, (rm i).fresh.least, (rm i).fresh.most⟩, (rm i).told, (rm i).timely⟩ : RowT) else rm q := ⟨_, rfl⟩
  obtain ⟨k5, hk5⟩ : ∃ z : Int, z = k + 5 := ⟨_, rfl⟩
  have w5 : IntKind.i64.wrap (k4 + 1) = k5 := by rw [IntWalk.i64_in _ (by omega)]; omega
  obtain ⟨r5, hr5⟩ : ∃ r : Nat → RowT, r = fun q => if q = i then (⟨k, ⟨k1, k2⟩, ⟨k3, k4, (rm i).all.least, (rm i).all.most⟩, ⟨(rm i).fresh.n, (rm i).fresh.sum, (rm i).fresh.least, (rm i).fresh.most⟩, (rm i).told, (rm i).timely⟩ : RowT) else rm q := ⟨_, rfl⟩
  obtain ⟨k6, hk6⟩ : ∃ z : Int, z = k + 6 := ⟨_, rfl⟩
  have w6 : IntKind.i64.wrap (k5 + 1) = k6 := by rw [IntWalk.i64_in _ (by omega)]; omega
  obtain ⟨r6, hr6⟩ : ∃ r : Nat → RowT, r = fun q => if q = i then (⟨k, ⟨k1, k2⟩, ⟨k3, k4, k5, (rm i).all.most⟩, ⟨(rm i).fresh.n, (rm i).fresh.sum, (rm i).fresh.least, (rm i).fresh.most⟩, (rm i).told, (rm i).timely⟩ : RowT) else rm q := ⟨_, rfl⟩
  obtain ⟨k7, hk7⟩ : ∃ z : Int, z = k + 7 := ⟨_, rfl⟩
  have w7 : IntKind.i64.wrap (k6 + 1) = k7 := by rw [IntWalk.i64_in _ (by omega)]; omega
  obtain ⟨r7, hr7⟩ : ∃ r : Nat → RowT, r = fun q => if q = i then (⟨k, ⟨k1, k2⟩, ⟨k3, k4, k5, k6⟩, ⟨(rm i).fresh.n, (rm i).fresh.sum, (rm i).fresh.least, (rm i).fresh.most⟩, (rm i).told, (rm i).timely⟩ : RowT) else rm q := ⟨_, rfl⟩
  obtain ⟨k8, hk8⟩ : ∃ z : Int, z = k + 8 := ⟨_, rfl⟩
  have w8 : IntKind.i64.wrap (k7 + 1) = k8 := by rw [IntWalk.i64_in _ (by omega)]; omega
  obtain ⟨r8, hr8⟩ : ∃ r : Nat → RowT, r = fun q => if q = i then (⟨k, ⟨k1, k2⟩, ⟨k3, k4, k5, k6⟩, ⟨k7, (rm i).fresh.sum, (rm i).fresh.least, (rm i).fresh.most⟩, (rm i).told, (rm i).timely⟩ : RowT) else rm q := ⟨_, rfl⟩
  obtain ⟨k9, hk9⟩ : ∃ z : Int, z = k + 9 := ⟨_, rfl⟩
  have w9 : IntKind.i64.wrap (k8 + 1) = k9 := by rw [IntWalk.i64_in _ (by omega)]; omega
  obtain ⟨r9, hr9⟩ : ∃ r : Nat → RowT, r = fun q => if q = i then (⟨k, ⟨k1, k2⟩, ⟨k3, k4, k5, k6⟩, ⟨k7, k8, (rm i).fresh.least, (rm i).fresh.most⟩, (rm i).told, (rm i).timely⟩ : RowT) else rm q := ⟨_, rfl⟩
  obtain ⟨k10, hk10⟩ : ∃ z : Int, z = k + 10 := ⟨_, rfl⟩
  have w10 : IntKind.i64.wrap (k9 + 1) = k10 := by rw [IntWalk.i64_in _ (by omega)]; omega
  obtain ⟨r10, hr10⟩ : ∃ r : Nat → RowT, r = fun q => if q = i then (⟨k, ⟨k1, k2⟩, ⟨k3, k4, k5, k6⟩, ⟨k7, k8, k9, (rm i).fresh.most⟩, (rm i).told, (rm i).timely⟩ : RowT) else rm q := ⟨_, rfl⟩
  obtain ⟨k11, hk11⟩ : ∃ z : Int, z = k + 11 := ⟨_, rfl⟩
  have w11 : IntKind.i64.wrap (k10 + 1) = k11 := by rw [IntWalk.i64_in _ (by omega)]; omega
  obtain ⟨r11, hr11⟩ : ∃ r : Nat → RowT, r = fun q => if q = i then (⟨k, ⟨k1, k2⟩, ⟨k3, k4, k5, k6⟩, ⟨k7, k8, k9, k10⟩, (rm i).told, (rm i).timely⟩ : RowT) else rm q := ⟨_, rfl⟩
  obtain ⟨k12, hk12⟩ : ∃ z : Int, z = k + 12 := ⟨_, rfl⟩
  have w12 : IntKind.i64.wrap (k11 + 1) = k12 := by rw [IntWalk.i64_in _ (by omega)]; omega
  obtain ⟨r12, hr12⟩ : ∃ r : Nat → RowT, r = fun q => if q = i then (⟨k, ⟨k1, k2⟩, ⟨k3, k4, k5, k6⟩, ⟨k7, k8, k9, k10⟩, k11, (rm i).timely⟩ : RowT) else rm q := ⟨_, rfl⟩
  obtain ⟨k13, hk13⟩ : ∃ z : Int, z = k + 13 := ⟨_, rfl⟩
  have w13 : IntKind.i64.wrap (k12 + 1) = k13 := by rw [IntWalk.i64_in _ (by omega)]; omega
  obtain ⟨r13, hr13⟩ : ∃ r : Nat → RowT, r = fun q => if q = i then (⟨k, ⟨k1, k2⟩, ⟨k3, k4, k5, k6⟩, ⟨k7, k8, k9, k10⟩, k11, (k12.tmod 3 == 0)⟩ : RowT) else rm q := ⟨_, rfl⟩
  cbv
  repeat' first
    | apply And.intro
    | exact True.intro
    | with_reducible rfl
    | exact same_of hA rfl
    | refine br_of hA (fun _ => ?_) (fun _ => ?_)
    | exact imp_of hA id
    | (refine imp_of hA ?_; subst hA; simp only [real, Bool.true_and]; exact id)
    | (refine ind_of hA ?_; decide +kernel)
    | (refine inb_of hA fun _ => ?_; subst hA; simp only [real, Bool.and_eq_true, Bool.not_eq_true', Bool.not_eq_false', decide_eq_true_eq, Int.ofNat_eq_natCast, IntKind.wrap_i64] at *; omega)
    | (subst hA; exact fun _ => (by decide : (3 : Int) ≠ 0))
    | fail
  · rename_i hlt
    have hlt' : i < n := by subst hA; simp only [real, decide_eq_true_eq, Int.ofNat_eq_natCast] at hlt; omega
    refine stop_of hA (st_msRow n i k1 r1) (cov_of ?_ ?_ ?_) ?_
    · cbv
      subst hA
      repeat' first | apply And.intro | exact True.intro | exact congrArg (fun x => DV.v (.int .i64 x)) w1 | rfl
    · cbv
      subst hA
      refine ⟨fun q _ => ?_, trivial⟩
      have e0 : real.add 0 (real.nat (Int.ofNat i)) = i := Nat.zero_add i
      simp only [e0]
      first
        | (show (if q = i then _ else eRow (rm q)) = eRow (r1 q))
        | (show (if q = 0 + i then _ else eRow (rm q)) = eRow (r1 q); rw [Nat.zero_add])
      simp only [hr1]
      by_cases e : q = i
      · subst e; first | (simp; done) | (simp; rfl)
      · simp [e]
    · cbv; try (subst hA; repeat' first | apply And.intro | exact True.intro | rfl | exact .inr trivial | exact .inr (Nat.le_refl _))
    cbv
    repeat' first
      | apply And.intro
      | exact True.intro
      | with_reducible rfl
      | exact same_of hA rfl
      | refine br_of hA (fun _ => ?_) (fun _ => ?_)
      | exact imp_of hA id
      | (refine imp_of hA ?_; subst hA; simp only [real, Bool.true_and]; exact id)
      | (refine ind_of hA ?_; decide +kernel)
      | (refine inb_of hA fun _ => ?_; subst hA; simp only [real, Bool.and_eq_true, Bool.not_eq_true', Bool.not_eq_false', decide_eq_true_eq, Int.ofNat_eq_natCast, IntKind.wrap_i64] at *; omega)
      | (subst hA; exact fun _ => (by decide : (3 : Int) ≠ 0))
      | fail
    refine stop_of hA (st_msRow n i k2 r2) (cov_of ?_ ?_ ?_) ?_
    · cbv
      subst hA
      repeat' first | apply And.intro | exact True.intro | exact congrArg (fun x => DV.v (.int .i64 x)) w2 | rfl
    · cbv
      subst hA
      refine ⟨fun q _ => ?_, trivial⟩
      have e0 : real.add 0 (real.nat (Int.ofNat i)) = i := Nat.zero_add i
      simp only [e0]
      first
        | (show (if q = i then _ else eRow (r1 q)) = eRow (r2 q))
        | (show (if q = 0 + i then _ else eRow (r1 q)) = eRow (r2 q); rw [Nat.zero_add])
      simp only [hr2, hr1]
      by_cases e : q = i
      · subst e; first | (simp; done) | (simp; rfl)
      · simp [e]
    · cbv; try (subst hA; repeat' first | apply And.intro | exact True.intro | rfl | exact .inr trivial | exact .inr (Nat.le_refl _))
    cbv
    repeat' first
      | apply And.intro
      | exact True.intro
      | with_reducible rfl
      | exact same_of hA rfl
      | refine br_of hA (fun _ => ?_) (fun _ => ?_)
      | exact imp_of hA id
      | (refine imp_of hA ?_; subst hA; simp only [real, Bool.true_and]; exact id)
      | (refine ind_of hA ?_; decide +kernel)
      | (refine inb_of hA fun _ => ?_; subst hA; simp only [real, Bool.and_eq_true, Bool.not_eq_true', Bool.not_eq_false', decide_eq_true_eq, Int.ofNat_eq_natCast, IntKind.wrap_i64] at *; omega)
      | (subst hA; exact fun _ => (by decide : (3 : Int) ≠ 0))
      | fail
    refine stop_of hA (st_msRow n i k3 r3) (cov_of ?_ ?_ ?_) ?_
    · cbv
      subst hA
      repeat' first | apply And.intro | exact True.intro | exact congrArg (fun x => DV.v (.int .i64 x)) w3 | rfl
    · cbv
      subst hA
      refine ⟨fun q _ => ?_, trivial⟩
      have e0 : real.add 0 (real.nat (Int.ofNat i)) = i := Nat.zero_add i
      simp only [e0]
      first
        | (show (if q = i then _ else eRow (r2 q)) = eRow (r3 q))
        | (show (if q = 0 + i then _ else eRow (r2 q)) = eRow (r3 q); rw [Nat.zero_add])
      simp only [hr3, hr2]
      by_cases e : q = i
      · subst e; first | (simp; done) | (simp; rfl)
      · simp [e]
    · cbv; try (subst hA; repeat' first | apply And.intro | exact True.intro | rfl | exact .inr trivial | exact .inr (Nat.le_refl _))
    cbv
    repeat' first
      | apply And.intro
      | exact True.intro
      | with_reducible rfl
      | exact same_of hA rfl
      | refine br_of hA (fun _ => ?_) (fun _ => ?_)
      | exact imp_of hA id
      | (refine imp_of hA ?_; subst hA; simp only [real, Bool.true_and]; exact id)
      | (refine ind_of hA ?_; decide +kernel)
      | (refine inb_of hA fun _ => ?_; subst hA; simp only [real, Bool.and_eq_true, Bool.not_eq_true', Bool.not_eq_false', decide_eq_true_eq, Int.ofNat_eq_natCast, IntKind.wrap_i64] at *; omega)
      | (subst hA; exact fun _ => (by decide : (3 : Int) ≠ 0))
      | fail
    refine stop_of hA (st_msRow n i k4 r4) (cov_of ?_ ?_ ?_) ?_
    · cbv
      subst hA
      repeat' first | apply And.intro | exact True.intro | exact congrArg (fun x => DV.v (.int .i64 x)) w4 | rfl
    · cbv
      subst hA
      refine ⟨fun q _ => ?_, trivial⟩
      have e0 : real.add 0 (real.nat (Int.ofNat i)) = i := Nat.zero_add i
      simp only [e0]
      first
        | (show (if q = i then _ else eRow (r3 q)) = eRow (r4 q))
        | (show (if q = 0 + i then _ else eRow (r3 q)) = eRow (r4 q); rw [Nat.zero_add])
      simp only [hr4, hr3]
      by_cases e : q = i
      · subst e; first | (simp; done) | (simp; rfl)
      · simp [e]
    · cbv; try (subst hA; repeat' first | apply And.intro | exact True.intro | rfl | exact .inr trivial | exact .inr (Nat.le_refl _))
    cbv
    repeat' first
      | apply And.intro
      | exact True.intro
      | with_reducible rfl
      | exact same_of hA rfl
      | refine br_of hA (fun _ => ?_) (fun _ => ?_)
      | exact imp_of hA id
      | (refine imp_of hA ?_; subst hA; simp only [real, Bool.true_and]; exact id)
      | (refine ind_of hA ?_; decide +kernel)
      | (refine inb_of hA fun _ => ?_; subst hA; simp only [real, Bool.and_eq_true, Bool.not_eq_true', Bool.not_eq_false', decide_eq_true_eq, Int.ofNat_eq_natCast, IntKind.wrap_i64] at *; omega)
      | (subst hA; exact fun _ => (by decide : (3 : Int) ≠ 0))
      | fail
    refine stop_of hA (st_msRow n i k5 r5) (cov_of ?_ ?_ ?_) ?_
    · cbv
      subst hA
      repeat' first | apply And.intro | exact True.intro | exact congrArg (fun x => DV.v (.int .i64 x)) w5 | rfl
    · cbv
      subst hA
      refine ⟨fun q _ => ?_, trivial⟩
      have e0 : real.add 0 (real.nat (Int.ofNat i)) = i := Nat.zero_add i
      simp only [e0]
      first
        | (show (if q = i then _ else eRow (r4 q)) = eRow (r5 q))
        | (show (if q = 0 + i then _ else eRow (r4 q)) = eRow (r5 q); rw [Nat.zero_add])
      simp only [hr5, hr4]
      by_cases e : q = i
      · subst e; first | (simp; done) | (simp; rfl)
      · simp [e]
    · cbv; try (subst hA; repeat' first | apply And.intro | exact True.intro | rfl | exact .inr trivial | exact .inr (Nat.le_refl _))
    cbv
    repeat' first
      | apply And.intro
      | exact True.intro
      | with_reducible rfl
      | exact same_of hA rfl
      | refine br_of hA (fun _ => ?_) (fun _ => ?_)
      | exact imp_of hA id
      | (refine imp_of hA ?_; subst hA; simp only [real, Bool.true_and]; exact id)
      | (refine ind_of hA ?_; decide +kernel)
      | (refine inb_of hA fun _ => ?_; subst hA; simp only [real, Bool.and_eq_true, Bool.not_eq_true', Bool.not_eq_false', decide_eq_true_eq, Int.ofNat_eq_natCast, IntKind.wrap_i64] at *; omega)
      | (subst hA; exact fun _ => (by decide : (3 : Int) ≠ 0))
      | fail
    refine stop_of hA (st_msRow n i k6 r6) (cov_of ?_ ?_ ?_) ?_
    · cbv
      subst hA
      repeat' first | apply And.intro | exact True.intro | exact congrArg (fun x => DV.v (.int .i64 x)) w6 | rfl
    · cbv
      subst hA
      refine ⟨fun q _ => ?_, trivial⟩
      have e0 : real.add 0 (real.nat (Int.ofNat i)) = i := Nat.zero_add i
      simp only [e0]
      first
        | (show (if q = i then _ else eRow (r5 q)) = eRow (r6 q))
        | (show (if q = 0 + i then _ else eRow (r5 q)) = eRow (r6 q); rw [Nat.zero_add])
      simp only [hr6, hr5]
      by_cases e : q = i
      · subst e; first | (simp; done) | (simp; rfl)
      · simp [e]
    · cbv; try (subst hA; repeat' first | apply And.intro | exact True.intro | rfl | exact .inr trivial | exact .inr (Nat.le_refl _))
    cbv
    repeat' first
      | apply And.intro
      | exact True.intro
      | with_reducible rfl
      | exact same_of hA rfl
      | refine br_of hA (fun _ => ?_) (fun _ => ?_)
      | exact imp_of hA id
      | (refine imp_of hA ?_; subst hA; simp only [real, Bool.true_and]; exact id)
      | (refine ind_of hA ?_; decide +kernel)
      | (refine inb_of hA fun _ => ?_; subst hA; simp only [real, Bool.and_eq_true, Bool.not_eq_true', Bool.not_eq_false', decide_eq_true_eq, Int.ofNat_eq_natCast, IntKind.wrap_i64] at *; omega)
      | (subst hA; exact fun _ => (by decide : (3 : Int) ≠ 0))
      | fail
    refine stop_of hA (st_msRow n i k7 r7) (cov_of ?_ ?_ ?_) ?_
    · cbv
      subst hA
      repeat' first | apply And.intro | exact True.intro | exact congrArg (fun x => DV.v (.int .i64 x)) w7 | rfl
    · cbv
      subst hA
      refine ⟨fun q _ => ?_, trivial⟩
      have e0 : real.add 0 (real.nat (Int.ofNat i)) = i := Nat.zero_add i
      simp only [e0]
      first
        | (show (if q = i then _ else eRow (r6 q)) = eRow (r7 q))
        | (show (if q = 0 + i then _ else eRow (r6 q)) = eRow (r7 q); rw [Nat.zero_add])
      simp only [hr7, hr6]
      by_cases e : q = i
      · subst e; first | (simp; done) | (simp; rfl)
      · simp [e]
    · cbv; try (subst hA; repeat' first | apply And.intro | exact True.intro | rfl | exact .inr trivial | exact .inr (Nat.le_refl _))
    cbv
    repeat' first
      | apply And.intro
      | exact True.intro
      | with_reducible rfl
      | exact same_of hA rfl
      | refine br_of hA (fun _ => ?_) (fun _ => ?_)
      | exact imp_of hA id
      | (refine imp_of hA ?_; subst hA; simp only [real, Bool.true_and]; exact id)
      | (refine ind_of hA ?_; decide +kernel)
      | (refine inb_of hA fun _ => ?_; subst hA; simp only [real, Bool.and_eq_true, Bool.not_eq_true', Bool.not_eq_false', decide_eq_true_eq, Int.ofNat_eq_natCast, IntKind.wrap_i64] at *; omega)
      | (subst hA; exact fun _ => (by decide : (3 : Int) ≠ 0))
      | fail
    refine stop_of hA (st_msRow n i k8 r8) (cov_of ?_ ?_ ?_) ?_
    · cbv
      subst hA
      repeat' first | apply And.intro | exact True.intro | exact congrArg (fun x => DV.v (.int .i64 x)) w8 | rfl
    · cbv
      subst hA
      refine ⟨fun q _ => ?_, trivial⟩
      have e0 : real.add 0 (real.nat (Int.ofNat i)) = i := Nat.zero_add i
      simp only [e0]
      first
        | (show (if q = i then _ else eRow (r7 q)) = eRow (r8 q))
        | (show (if q = 0 + i then _ else eRow (r7 q)) = eRow (r8 q); rw [Nat.zero_add])
      simp only [hr8, hr7]
      by_cases e : q = i
      · subst e; first | (simp; done) | (simp; rfl)
      · simp [e]
    · cbv; try (subst hA; repeat' first | apply And.intro | exact True.intro | rfl | exact .inr trivial | exact .inr (Nat.le_refl _))
    cbv
    repeat' first
      | apply And.intro
      | exact True.intro
      | with_reducible rfl
      | exact same_of hA rfl
      | refine br_of hA (fun _ => ?_) (fun _ => ?_)
      | exact imp_of hA id
      | (refine imp_of hA ?_; subst hA; simp only [real, Bool.true_and]; exact id)
      | (refine ind_of hA ?_; decide +kernel)
      | (refine inb_of hA fun _ => ?_; subst hA; simp only [real, Bool.and_eq_true, Bool.not_eq_true', Bool.not_eq_false', decide_eq_true_eq, Int.ofNat_eq_natCast, IntKind.wrap_i64] at *; omega)
      | (subst hA; exact fun _ => (by decide : (3 : Int) ≠ 0))
      | fail
    refine stop_of hA (st_msRow n i k9 r9) (cov_of ?_ ?_ ?_) ?_
    · cbv
      subst hA
      repeat' first | apply And.intro | exact True.intro | exact congrArg (fun x => DV.v (.int .i64 x)) w9 | rfl
    · cbv
      subst hA
      refine ⟨fun q _ => ?_, trivial⟩
      have e0 : real.add 0 (real.nat (Int.ofNat i)) = i := Nat.zero_add i
      simp only [e0]
      first
        | (show (if q = i then _ else eRow (r8 q)) = eRow (r9 q))
        | (show (if q = 0 + i then _ else eRow (r8 q)) = eRow (r9 q); rw [Nat.zero_add])
      simp only [hr9, hr8]
      by_cases e : q = i
      · subst e; first | (simp; done) | (simp; rfl)
      · simp [e]
    · cbv; try (subst hA; repeat' first | apply And.intro | exact True.intro | rfl | exact .inr trivial | exact .inr (Nat.le_refl _))
    cbv
    repeat' first
      | apply And.intro
      | exact True.intro
      | with_reducible rfl
      | exact same_of hA rfl
      | refine br_of hA (fun _ => ?_) (fun _ => ?_)
      | exact imp_of hA id
      | (refine imp_of hA ?_; subst hA; simp only [real, Bool.true_and]; exact id)
      | (refine ind_of hA ?_; decide +kernel)
      | (refine inb_of hA fun _ => ?_; subst hA; simp only [real, Bool.and_eq_true, Bool.not_eq_true', Bool.not_eq_false', decide_eq_true_eq, Int.ofNat_eq_natCast, IntKind.wrap_i64] at *; omega)
      | (subst hA; exact fun _ => (by decide : (3 : Int) ≠ 0))
      | fail
    refine stop_of hA (st_msRow n i k10 r10) (cov_of ?_ ?_ ?_) ?_
    · cbv
      subst hA
      repeat' first | apply And.intro | exact True.intro | exact congrArg (fun x => DV.v (.int .i64 x)) w10 | rfl
    · cbv
      subst hA
      refine ⟨fun q _ => ?_, trivial⟩
      have e0 : real.add 0 (real.nat (Int.ofNat i)) = i := Nat.zero_add i
      simp only [e0]
      first
        | (show (if q = i then _ else eRow (r9 q)) = eRow (r10 q))
        | (show (if q = 0 + i then _ else eRow (r9 q)) = eRow (r10 q); rw [Nat.zero_add])
      simp only [hr10, hr9]
      by_cases e : q = i
      · subst e; first | (simp; done) | (simp; rfl)
      · simp [e]
    · cbv; try (subst hA; repeat' first | apply And.intro | exact True.intro | rfl | exact .inr trivial | exact .inr (Nat.le_refl _))
    cbv
    repeat' first
      | apply And.intro
      | exact True.intro
      | with_reducible rfl
      | exact same_of hA rfl
      | refine br_of hA (fun _ => ?_) (fun _ => ?_)
      | exact imp_of hA id
      | (refine imp_of hA ?_; subst hA; simp only [real, Bool.true_and]; exact id)
      | (refine ind_of hA ?_; decide +kernel)
      | (refine inb_of hA fun _ => ?_; subst hA; simp only [real, Bool.and_eq_true, Bool.not_eq_true', Bool.not_eq_false', decide_eq_true_eq, Int.ofNat_eq_natCast, IntKind.wrap_i64] at *; omega)
      | (subst hA; exact fun _ => (by decide : (3 : Int) ≠ 0))
      | fail
    refine stop_of hA (st_msRow n i k11 r11) (cov_of ?_ ?_ ?_) ?_
    · cbv
      subst hA
      repeat' first | apply And.intro | exact True.intro | exact congrArg (fun x => DV.v (.int .i64 x)) w11 | rfl
    · cbv
      subst hA
      refine ⟨fun q _ => ?_, trivial⟩
      have e0 : real.add 0 (real.nat (Int.ofNat i)) = i := Nat.zero_add i
      simp only [e0]
      first
        | (show (if q = i then _ else eRow (r10 q)) = eRow (r11 q))
        | (show (if q = 0 + i then _ else eRow (r10 q)) = eRow (r11 q); rw [Nat.zero_add])
      simp only [hr11, hr10]
      by_cases e : q = i
      · subst e; first | (simp; done) | (simp; rfl)
      · simp [e]
    · cbv; try (subst hA; repeat' first | apply And.intro | exact True.intro | rfl | exact .inr trivial | exact .inr (Nat.le_refl _))
    cbv
    repeat' first
      | apply And.intro
      | exact True.intro
      | with_reducible rfl
      | exact same_of hA rfl
      | refine br_of hA (fun _ => ?_) (fun _ => ?_)
      | exact imp_of hA id
      | (refine imp_of hA ?_; subst hA; simp only [real, Bool.true_and]; exact id)
      | (refine ind_of hA ?_; decide +kernel)
      | (refine inb_of hA fun _ => ?_; subst hA; simp only [real, Bool.and_eq_true, Bool.not_eq_true', Bool.not_eq_false', decide_eq_true_eq, Int.ofNat_eq_natCast, IntKind.wrap_i64] at *; omega)
      | (subst hA; exact fun _ => (by decide : (3 : Int) ≠ 0))
      | fail
    refine stop_of hA (st_msRow n i k12 r12) (cov_of ?_ ?_ ?_) ?_
    · cbv
      subst hA
      repeat' first | apply And.intro | exact True.intro | exact congrArg (fun x => DV.v (.int .i64 x)) w12 | rfl
    · cbv
      subst hA
      refine ⟨fun q _ => ?_, trivial⟩
      have e0 : real.add 0 (real.nat (Int.ofNat i)) = i := Nat.zero_add i
      simp only [e0]
      first
        | (show (if q = i then _ else eRow (r11 q)) = eRow (r12 q))
        | (show (if q = 0 + i then _ else eRow (r11 q)) = eRow (r12 q); rw [Nat.zero_add])
      simp only [hr12, hr11]
      by_cases e : q = i
      · subst e; first | (simp; done) | (simp; rfl)
      · simp [e]
    · cbv; try (subst hA; repeat' first | apply And.intro | exact True.intro | rfl | exact .inr trivial | exact .inr (Nat.le_refl _))
    cbv
    repeat' first
      | apply And.intro
      | exact True.intro
      | with_reducible rfl
      | exact same_of hA rfl
      | refine br_of hA (fun _ => ?_) (fun _ => ?_)
      | exact imp_of hA id
      | (refine imp_of hA ?_; subst hA; simp only [real, Bool.true_and]; exact id)
      | (refine ind_of hA ?_; decide +kernel)
      | (refine inb_of hA fun _ => ?_; subst hA; simp only [real, Bool.and_eq_true, Bool.not_eq_true', Bool.not_eq_false', decide_eq_true_eq, Int.ofNat_eq_natCast, IntKind.wrap_i64] at *; omega)
      | (subst hA; exact fun _ => (by decide : (3 : Int) ≠ 0))
      | fail
    have h9 : ((i + 1 : Nat) : Int) = (i : Int) + 1 := rfl
    refine ⟨⟨(i + 1, k13, r13), by simp only; omega, by (show k13 = s + 13 * ((i + 1 : Nat) : Int)); rw [h9, hk13, hkk, Int.mul_add]; exact Int.add_assoc _ _ _, fun j hj => ?_⟩, by simp only; omega, cov_of ?_ ?_ ?_⟩
    · simp only at hj ⊢
      by_cases e : j = i
      · rw [hr13]; simp only [e, if_true]
        rw [hGM, ← hkk]
        simp only [mkRow, hk1, hk2, hk3, hk4, hk5, hk6, hk7, hk8, hk9, hk10, hk11, hk12]
      · rw [hr13]; simp only [e, if_false]; exact hr j (by omega)
    · cbv
      subst hA
      repeat' first | apply And.intro | exact True.intro | exact congrArg (fun x => DV.v (.int .i64 x)) w13 | exact congrArg (fun x => DV.v (.int .i64 x)) (up64 hlt' hn2) | rfl
    · cbv
      subst hA
      refine ⟨fun q _ => ?_, trivial⟩
      have e0 : real.add 0 (real.nat (Int.ofNat i)) = i := Nat.zero_add i
      simp only [e0]
      first
        | (show (if q = i then _ else eRow (r12 q)) = eRow (r13 q))
        | (show (if q = 0 + i then _ else eRow (r12 q)) = eRow (r13 q); rw [Nat.zero_add])
      simp only [hr13, hr12]
      by_cases e : q = i
      · subst e; first | (simp; done) | (simp; rfl)
      · simp [e]
    · cbv; try (subst hA; repeat' first | apply And.intro | exact True.intro | rfl | exact .inr trivial | exact .inr (Nat.le_refl _))
  · rename_i hge
    have hin : i = n := by
      subst hA
      simp only [real, decide_eq_false_iff_not, Int.ofNat_eq_natCast] at hge
      omega
    subst hin
    have hkx : k = x := by rw [hkk, hx]
    subst hkx
    refine stop_of hA ⟨[(1, .c (.d (eI k)))], [(0, 1, .arr 13 i fun q => eRow (GM q))]⟩ (cov_of ?_ ?_ ?_) ?_
    · cbv
    · cbv
      exact ⟨fun q hq => congrArg (fun y => eRow y) (hr q hq), trivial⟩
    · cbv; try (subst hA; repeat' first | apply And.intro | exact True.intro | rfl | exact .inr trivial | exact .inr (Nat.le_refl _))
    · cbv
      repeat' first
        | apply And.intro
        | exact True.intro
        | with_reducible rfl
        | exact same_of hA rfl
        | refine br_of hA (fun _ => ?_) (fun _ => ?_)
        | exact imp_of hA id
        | (refine imp_of hA ?_; subst hA; simp only [real, Bool.true_and]; exact id)
        | (refine ind_of hA ?_; decide +kernel)
        | fail
def st_hsRow (n : Nat) (rd : Nat → RowT) (i : Nat) (k : Int) : St := ⟨[(5, .c (.d (eI i))), (1, .c (.d (eI k))), (0, .c (.d (.sl 13 n fun i => eRow (rd i))))], []⟩
set_option maxRecDepth 100000 in
set_option maxHeartbeats 2000000 in
theorem helds_Row (s : Int) (hs : 0 ≤ s ∧ s ≤ 100000000) (n : Nat) (hn : n ≤ 1100000) (x : Int) (hx : x = s + 13 * (n : Int)) (GM : Nat → RowT) (hGM : ∀ i, GM i = mkRow (s + 13 * (i : Int))) : Meets Tryz.prog 117 [.c (.d (.sl 13 n fun i => eRow (GM i))), .c (.d (eI s))] ⟨.one (.c (.d (eI x))), [none, none]⟩ := by
  have hn2 : n ≤ maxLen := Nat.le_trans hn (by decide)
  refine meets_of (H := []) (EX := EXA) ttok mixed Tryz.func117 rfl (by kernel_rfl) (by decide) ?_
  generalize hA : real = A
  generalize hM : MeetsB Tryz.prog = M
  cbv
  repeat' first
    | apply And.intro
    | exact True.intro
    | with_reducible rfl
    | exact same_of hA rfl
    | refine br_of hA (fun _ => ?_) (fun _ => ?_)
    | exact imp_of hA id
    | (refine imp_of hA ?_; subst hA; simp only [real, Bool.true_and]; exact id)
    | (refine ind_of hA ?_; decide +kernel)
    | fail
  refine loop_of hA (α := { q : Nat × Int // q.1 ≤ n ∧ q.2 = s + 13 * (q.1 : Int) }) (fun y => st_hsRow n GM y.1.1 y.1.2) (fun y => n - y.1.1) ⟨(0, s), Nat.zero_le _, by simp⟩ ?_ ?_
  · refine cov_of ?_ ?_ ?_
    · cbv; try (subst hA; repeat' first | apply And.intro | exact True.intro | rfl)
    · cbv; try (subst hA; repeat' first | apply And.intro | exact True.intro | rfl)
    · cbv
  rintro ⟨⟨i, k⟩, hi, hkk⟩
  have hi : i ≤ n := hi
  have hkk : k = s + 13 * (i : Int) := hkk
  have hkb : 0 ≤ k ∧ k ≤ 150000000 := by omega
  have e := hGM i
  rw [← hkk] at e
  have w1 : IntKind.i64.wrap (k + 1) = k + 1 := wr1 k hkb
  have w2 : IntKind.i64.wrap (IntKind.i64.wrap (k + 1) + 1) = k + 2 := by rw [w1]; exact wrn k 1 2 hkb (by decide) (by decide)
  have w3 : IntKind.i64.wrap (IntKind.i64.wrap (IntKind.i64.wrap (k + 1) + 1) + 1) = k + 3 := by rw [w2]; exact wrn k 2 3 hkb (by decide) (by decide)
  have w4 : IntKind.i64.wrap (IntKind.i64.wrap (IntKind.i64.wrap (IntKind.i64.wrap (k + 1) + 1) + 1) + 1) = k + 4 := by rw [w3]; exact wrn k 3 4 hkb (by decide) (by decide)
  have w5 : IntKind.i64.wrap (IntKind.i64.wrap (IntKind.i64.wrap (IntKind.i64.wrap (IntKind.i64.wrap (k + 1) + 1) + 1) + 1) + 1) = k + 5 := by rw [w4]; exact wrn k 4 5 hkb (by decide) (by decide)
  have w6 : IntKind.i64.wrap (IntKind.i64.wrap (IntKind.i64.wrap (IntKind.i64.wrap (IntKind.i64.wrap (IntKind.i64.wrap (k + 1) + 1) + 1) + 1) + 1) + 1) = k + 6 := by rw [w5]; exact wrn k 5 6 hkb (by decide) (by decide)
  have w7 : IntKind.i64.wrap (IntKind.i64.wrap (IntKind.i64.wrap (IntKind.i64.wrap (IntKind.i64.wrap (IntKind.i64.wrap (IntKind.i64.wrap (k + 1) + 1) + 1) + 1) + 1) + 1) + 1) = k + 7 := by rw [w6]; exact wrn k 6 7 hkb (by decide) (by decide)
  have w8 : IntKind.i64.wrap (IntKind.i64.wrap (IntKind.i64.wrap (IntKind.i64.wrap (IntKind.i64.wrap (IntKind.i64.wrap (IntKind.i64.wrap (IntKind.i64.wrap (k + 1) + 1) + 1) + 1) + 1) + 1) + 1) + 1) = k + 8 := by rw [w7]; exact wrn k 7 8 hkb (by decide) (by decide)
  have w9 : IntKind.i64.wrap (IntKind.i64.wrap (IntKind.i64.wrap (IntKind.i64.wrap (IntKind.i64.wrap (IntKind.i64.wrap (IntKind.i64.wrap (IntKind.i64.wrap (IntKind.i64.wrap (k + 1) + 1) + 1) + 1) + 1) + 1) + 1) + 1) + 1) = k + 9 := by rw [w8]; exact wrn k 8 9 hkb (by decide) (by decide)
  have w10 : IntKind.i64.wrap (IntKind.i64.wrap (IntKind.i64.wrap (IntKind.i64.wrap (IntKind.i64.wrap (IntKind.i64.wrap (IntKind.i64.wrap (IntKind.i64.wrap (IntKind.i64.wrap (IntKind.i64.wrap (k + 1) + 1) + 1) + 1) + 1) + 1) + 1) + 1) + 1) + 1) = k + 10 := by rw [w9]; exact wrn k 9 10 hkb (by decide) (by decide)
  have w11 : IntKind.i64.wrap (IntKind.i64.wrap (IntKind.i64.wrap (IntKind.i64.wrap (IntKind.i64.wrap (IntKind.i64.wrap (IntKind.i64.wrap (IntKind.i64.wrap (IntKind.i64.wrap (IntKind.i64.wrap (IntKind.i64.wrap (k + 1) + 1) + 1) + 1) + 1) + 1) + 1) + 1) + 1) + 1) + 1) = k + 11 := by rw [w10]; exact wrn k 10 11 hkb (by decide) (by decide)
  have w12 : IntKind.i64.wrap (IntKind.i64.wrap (IntKind.i64.wrap (IntKind.i64.wrap (IntKind.i64.wrap (IntKind.i64.wrap (IntKind.i64.wrap (IntKind.i64.wrap (IntKind.i64.wrap (IntKind.i64.wrap (IntKind.i64.wrap (IntKind.i64.wrap (k + 1) + 1) + 1) + 1) + 1) + 1) + 1) + 1) + 1) + 1) + 1) + 1) = k + 12 := by rw [w11]; exact wrn k 11 12 hkb (by decide) (by decide)
  have w13 : IntKind.i64.wrap (IntKind.i64.wrap (IntKind.i64.wrap (IntKind.i64.wrap (IntKind.i64.wrap (IntKind.i64.wrap (IntKind.i64.wrap (IntKind.i64.wrap (IntKind.i64.wrap (IntKind.i64.wrap (IntKind.i64.wrap (IntKind.i64.wrap (IntKind.i64.wrap (k + 1) + 1) + 1) + 1) + 1) + 1) + 1) + 1) + 1) + 1) + 1) + 1) + 1) = k + 13 := by rw [w12]; exact wrn k 12 13 hkb (by decide) (by decide)
  cbv
  repeat' first
    | apply And.intro
    | exact True.intro
    | with_reducible rfl
    | exact same_of hA rfl
    | refine br_of hA (fun _ => ?_) (fun _ => ?_)
    | exact imp_of hA id
    | (refine imp_of hA ?_; subst hA; simp only [real, Bool.true_and]; exact id)
    | (refine ind_of hA ?_; decide +kernel)
    | (refine inb_of hA fun _ => ?_; subst hA; simp only [real, Bool.and_eq_true, Bool.not_eq_true', Bool.not_eq_false', decide_eq_true_eq, Int.ofNat_eq_natCast, IntKind.wrap_i64] at *; omega)
    | (subst hA; exact fun _ => (by decide : (3 : Int) ≠ 0))
    | fail
  · exfalso
    rename_i hlt h0
    have h : ((GM i).key != k) = true := by subst hA; exact h0
    rw [e] at h
    simp [mkRow] at h
  · exfalso
    rename_i hlt h0 h1
    have h : ((GM i).win.s != IntKind.i64.wrap (k + 1)) = true := by subst hA; exact h1
    rw [e, w1] at h
    simp [mkRow] at h
  · exfalso
    rename_i hlt h0 h1 h2
    have h : ((GM i).win.e != IntKind.i64.wrap (IntKind.i64.wrap (k + 1) + 1)) = true := by subst hA; exact h2
    rw [e, w2] at h
    simp [mkRow] at h
  · exfalso
    rename_i hlt h0 h1 h2 h3
    have h : ((GM i).all.n != IntKind.i64.wrap (IntKind.i64.wrap (IntKind.i64.wrap (k + 1) + 1) + 1)) = true := by subst hA; exact h3
    rw [e, w3] at h
    simp [mkRow] at h
  · exfalso
    rename_i hlt h0 h1 h2 h3 h4
    have h : ((GM i).all.sum != IntKind.i64.wrap (IntKind.i64.wrap (IntKind.i64.wrap (IntKind.i64.wrap (k + 1) + 1) + 1) + 1)) = true := by subst hA; exact h4
    rw [e, w4] at h
    simp [mkRow] at h
  · exfalso
    rename_i hlt h0 h1 h2 h3 h4 h5
    have h : ((GM i).all.least != IntKind.i64.wrap (IntKind.i64.wrap (IntKind.i64.wrap (IntKind.i64.wrap (IntKind.i64.wrap (k + 1) + 1) + 1) + 1) + 1)) = true := by subst hA; exact h5
    rw [e, w5] at h
    simp [mkRow] at h
  · exfalso
    rename_i hlt h0 h1 h2 h3 h4 h5 h6
    have h : ((GM i).all.most != IntKind.i64.wrap (IntKind.i64.wrap (IntKind.i64.wrap (IntKind.i64.wrap (IntKind.i64.wrap (IntKind.i64.wrap (k + 1) + 1) + 1) + 1) + 1) + 1)) = true := by subst hA; exact h6
    rw [e, w6] at h
    simp [mkRow] at h
  · exfalso
    rename_i hlt h0 h1 h2 h3 h4 h5 h6 h7
    have h : ((GM i).fresh.n != IntKind.i64.wrap (IntKind.i64.wrap (IntKind.i64.wrap (IntKind.i64.wrap (IntKind.i64.wrap (IntKind.i64.wrap (IntKind.i64.wrap (k + 1) + 1) + 1) + 1) + 1) + 1) + 1)) = true := by subst hA; exact h7
    rw [e, w7] at h
    simp [mkRow] at h
  · exfalso
    rename_i hlt h0 h1 h2 h3 h4 h5 h6 h7 h8
    have h : ((GM i).fresh.sum != IntKind.i64.wrap (IntKind.i64.wrap (IntKind.i64.wrap (IntKind.i64.wrap (IntKind.i64.wrap (IntKind.i64.wrap (IntKind.i64.wrap (IntKind.i64.wrap (k + 1) + 1) + 1) + 1) + 1) + 1) + 1) + 1)) = true := by subst hA; exact h8
    rw [e, w8] at h
    simp [mkRow] at h
  · exfalso
    rename_i hlt h0 h1 h2 h3 h4 h5 h6 h7 h8 h9
    have h : ((GM i).fresh.least != IntKind.i64.wrap (IntKind.i64.wrap (IntKind.i64.wrap (IntKind.i64.wrap (IntKind.i64.wrap (IntKind.i64.wrap (IntKind.i64.wrap (IntKind.i64.wrap (IntKind.i64.wrap (k + 1) + 1) + 1) + 1) + 1) + 1) + 1) + 1) + 1)) = true := by subst hA; exact h9
    rw [e, w9] at h
    simp [mkRow] at h
  · exfalso
    rename_i hlt h0 h1 h2 h3 h4 h5 h6 h7 h8 h9 h10
    have h : ((GM i).fresh.most != IntKind.i64.wrap (IntKind.i64.wrap (IntKind.i64.wrap (IntKind.i64.wrap (IntKind.i64.wrap (IntKind.i64.wrap (IntKind.i64.wrap (IntKind.i64.wrap (IntKind.i64.wrap (IntKind.i64.wrap (k + 1) + 1) + 1) + 1) + 1) + 1) + 1) + 1) + 1) + 1)) = true := by subst hA; exact h10
    rw [e, w10] at h
    simp [mkRow] at h
  · exfalso
    rename_i hlt h0 h1 h2 h3 h4 h5 h6 h7 h8 h9 h10 h11
    have h : ((GM i).told != IntKind.i64.wrap (IntKind.i64.wrap (IntKind.i64.wrap (IntKind.i64.wrap (IntKind.i64.wrap (IntKind.i64.wrap (IntKind.i64.wrap (IntKind.i64.wrap (IntKind.i64.wrap (IntKind.i64.wrap (IntKind.i64.wrap (k + 1) + 1) + 1) + 1) + 1) + 1) + 1) + 1) + 1) + 1) + 1)) = true := by subst hA; exact h11
    rw [e, w11] at h
    simp [mkRow] at h
  · exfalso
    rename_i hlt h0 h1 h2 h3 h4 h5 h6 h7 h8 h9 h10 h11 h12
    have h : (!((GM i).timely == ((IntKind.i64.wrap (IntKind.i64.wrap (IntKind.i64.wrap (IntKind.i64.wrap (IntKind.i64.wrap (IntKind.i64.wrap (IntKind.i64.wrap (IntKind.i64.wrap (IntKind.i64.wrap (IntKind.i64.wrap (IntKind.i64.wrap (IntKind.i64.wrap (k + 1) + 1) + 1) + 1) + 1) + 1) + 1) + 1) + 1) + 1) + 1) + 1)).tmod 3 == 0))) = true := by subst hA; exact h12
    rw [e, w12] at h
    simp [mkRow] at h
  · rename_i hlt h0 h1 h2 h3 h4 h5 h6 h7 h8 h9 h10 h11 h12
    have hlt' : i < n := by subst hA; simp only [real, decide_eq_true_eq, Int.ofNat_eq_natCast] at hlt; omega
    have h9 : ((i + 1 : Nat) : Int) = (i : Int) + 1 := rfl
    obtain ⟨kk, hkk2⟩ : ∃ z : Int, z = k + 13 := ⟨_, rfl⟩
    replace w13 := w13.trans hkk2.symm
    refine ⟨⟨(i + 1, kk), by simp only; omega, by (show kk = s + 13 * ((i + 1 : Nat) : Int)); rw [h9, hkk2, hkk, Int.mul_add]; exact Int.add_assoc _ _ _⟩, by simp only; omega, cov_of ?_ ?_ ?_⟩
    · cbv
      subst hA
      repeat' first | apply And.intro | exact True.intro | exact congrArg (fun x => DV.v (.int .i64 x)) (up64 hlt' hn2) | exact congrArg (fun x => DV.v (.int .i64 x)) w13 | rfl
    · cbv
    · cbv
  · rename_i hge
    have hin : i = n := by
      subst hA
      simp only [real, decide_eq_false_iff_not, Int.ofNat_eq_natCast] at hge
      omega
    subst hin
    exact congrArg (fun x => XA.one (.c (.d (eI x)))) (by rw [hkk, hx])
end Go.Rk
/- Marks of nests: msnap. -/
namespace Go.Rk
set_option linter.unusedSimpArgs false
set_option linter.unusedVariables false
open Go.Proofs
set_option maxRecDepth 100000
set_option maxHeartbeats 2000000
def st_mSnap (n i : Nat) (k : Int) (R : Nat → List DV) : St := ⟨[(5, .c (.d (eI i))), (1, .c (.d (eI k))), (0, .c (.nown 0 n 1))], [(0, 1, .nest 3 n R none)]⟩
def EXMSnap : FuncId → List Nat × Bool := fun f => bif nbeq f 113 then ([0], false) else bif nbeq f 69 then ([0], false) else ([], false)
theorem marks_Snap (s : Int) (n : Nat) (hn : n ≤ 1048576) (rd : Nat → SnapT) (hbd : ∀ i, i < n → bdSnap (rd i)) (pos : Nat → Int) (hp0 : pos 0 = s) (hps : ∀ i, i < n → pos (i + 1) = pos i + lenSnap (rd i)) (hpb : ∀ i, i ≤ n → 0 ≤ pos i ∧ pos i ≤ 50000000) (x : Int) (hx : x = pos n) (GM : Nat → SnapT) (hGM : ∀ i, GM i = mkSnap (pos i) (rd i)) :
    Meets Tryz.prog 71 [.c (.nown 3 n fun i => eSnap (rd i)), .c (.d (eI s))] ⟨.one (.c (.d (eI x))), [some (.nown 3 n fun i => eSnap (GM i)), none]⟩ := by
  have hn2 : n ≤ maxLen := Nat.le_trans hn (by decide)
  refine meets_of (H := [4, 6, 8]) (EX := EXMSnap) ttok mixed Tryz.func71 rfl (by kernel_rfl) (by decide) ?_
  generalize hA : real = A
  generalize hM : MeetsB Tryz.prog = M
  cbv
  repeat' first
    | apply And.intro
    | exact True.intro
    | with_reducible rfl
    | exact same_of hA rfl
    | refine br_of hA (fun _ => ?_) (fun _ => ?_)
    | exact imp_of hA id
    | (refine imp_of hA ?_; subst hA; simp only [real, Bool.true_and]; exact id)
    | (refine ind_of hA ?_; decide +kernel)
    | fail
  refine loop_of hA (α := { q : Nat × Int × (Nat → List DV) // q.1 ≤ n ∧ q.2.1 = pos q.1 ∧ (∀ j, j < q.1 → q.2.2 j = eSnap (GM j)) ∧ ∀ j, q.1 ≤ j → q.2.2 j = eSnap (rd j) }) (fun y => st_mSnap n y.1.1 y.1.2.1 y.1.2.2) (fun y => n - y.1.1) ⟨(0, s, fun i => eSnap (rd i)), Nat.zero_le _, hp0.symm, fun j h => absurd h (Nat.not_lt_zero j), fun _ _ => rfl⟩ ?_ ?_
  · refine cov_of ?_ ?_ ?_
    · (subst hA; repeat' first | exact True.intro | exact rfl |  apply And.intro | (intro _ _; rfl) | (intro _ _ _; rfl) | exact .inr (le_of_nble rfl) | exact .inl rfl | exact .inr (Nat.le_refl _))
    · (subst hA; repeat' first | exact True.intro | exact rfl |  apply And.intro | (intro _ _; rfl) | (intro _ _ _; rfl) | exact .inr (le_of_nble rfl) | exact .inl rfl | exact .inr (Nat.le_refl _))
    · (subst hA; repeat' first | exact True.intro | exact rfl |  apply And.intro | (intro _ _; rfl) | (intro _ _ _; rfl) | exact .inr (le_of_nble rfl) | exact .inl rfl | exact .inr (Nat.le_refl _))
  rintro ⟨⟨i, k, R⟩, hi, hk, hR, hS⟩
  have hi : i ≤ n := hi
  have hk : k = pos i := hk
  have hR : ∀ j, j < i → R j = eSnap (GM j) := hR
  have hS : ∀ j, i ≤ j → R j = eSnap (rd j) := hS
  have hkb := hpb i hi
  rw [← hk] at hkb
  cbv
  repeat' first
    | apply And.intro
    | exact True.intro
    | with_reducible rfl
    | exact same_of hA rfl
    | refine br_of hA (fun _ => ?_) (fun _ => ?_)
    | exact imp_of hA id
    | (refine imp_of hA ?_; subst hA; simp only [real, Bool.true_and]; exact id)
    | (refine ind_of hA ?_; decide +kernel)
    | fail
  · rename_i hlt
    have hlt' : i < n := by subst hA; simp only [real, decide_eq_true_eq, Int.ofNat_eq_natCast] at hlt; omega
    obtain ⟨hb1, hb2⟩ : (rd i).op.rows.n ≤ 1048576 ∧ (rd i).marks.n ≤ 1048576 := hbd i hlt'
    have hnext := hps i hlt'
    have hkb2 := hpb (i + 1) hlt'
    have hgm := hGM i
    rw [← hk] at hgm hnext
    have hb3 : (maxLen : Nat) = 9223372036854775807 := by decide
    unfold lenSnap at hnext
    obtain ⟨k1, hk1⟩ : ∃ z : Int, z = k + 1 := ⟨_, rfl⟩
    have w1 : IntKind.i64.wrap (k + 1) = k1 := by rw [IntWalk.i64_in _ (by omega)]; omega
    obtain ⟨k2, hk2⟩ : ∃ z : Int, z = k1 + 13 * ((rd i).op.rows.n : Int) := ⟨_, rfl⟩
    obtain ⟨k3, hk3⟩ : ∃ z : Int, z = k2 + 1 * ((rd i).marks.n : Int) := ⟨_, rfl⟩
    obtain ⟨G1, hG1⟩ : ∃ r : Nat → RowT, r = fun (q : Nat) => mkRow (k1 + 13 * (q : Int)) := ⟨_, rfl⟩
    obtain ⟨G2, hG2⟩ : ∃ r : Nat → Int, r = fun (q : Nat) => mkint (k2 + 1 * (q : Int)) := ⟨_, rfl⟩
    have m1 := marks_Row k1 (by omega) (rd i).op.rows.n (by omega) (rd i).op.rows.g k2 hk2 G1 (fun q => by rw [hG1])
    have m2 := marks_int k2 (by omega) (rd i).marks.n (by omega) (rd i).marks.g k3 hk3 G2 (fun q => by rw [hG2])
    have hnew : eSnap (GM i) = [eI k, .sl 13 (rd i).op.rows.n fun q => eRow (G1 q), .sl 1 (rd i).marks.n fun q => [eI (G2 q)]] := by
      rw [hgm, hG1, hG2, hk2, hk1]
      simp only [mkSnap, mkint, Int.one_mul]
      rfl
    refine stop_of hA ⟨[(5, .c (.d (eI i))), (1, .c (.d (eI k))), (0, .c (.nown 0 n 1))], [(0, 1, .nest 3 n R (some (i, [.d (eI (rd i).op.mark), .own 9001 0 (rd i).op.rows.n 1, .own 9002 0 (rd i).marks.n 1]))), (9001, 1, .arr 13 (rd i).op.rows.n fun q => eRow ((rd i).op.rows.g q)), (9002, 1, .arr 1 (rd i).marks.n fun q => [eI ((rd i).marks.g q)])]⟩
      (cov_open 0 9000 1 i (fun _ => false) [eI (rd i).op.mark, .sl 13 (rd i).op.rows.n fun q => eRow ((rd i).op.rows.g q), .sl 1 (rd i).marks.n fun q => [eI ((rd i).marks.g q)]] rfl hlt' (hS i (Nat.le_refl _)) ⟨trivial, .inr (flatR fun _ => flat_Row _), .inr (flatR fun _ => flat_int _), trivial⟩ rfl (cov_of ?_ ?_ ?_)) ?_
    · (subst hA; repeat' first | exact True.intro | exact rfl |  apply And.intro | (intro _ _; rfl) | (intro _ _ _; rfl) | exact .inr (le_of_nble rfl) | exact .inl rfl | exact .inr (Nat.le_refl _))
    · (subst hA; repeat' first | exact True.intro | exact rfl |  apply And.intro | (intro _ _; rfl) | (intro _ _ _; rfl) | exact .inr (le_of_nble rfl) | exact .inl rfl | exact .inr (Nat.le_refl _))
    · (subst hA; repeat' first | exact True.intro | exact rfl |  apply And.intro | (intro _ _; rfl) | (intro _ _ _; rfl) | exact .inr (le_of_nble rfl) | exact .inl rfl | exact .inr (Nat.le_refl _))
    cbv
    repeat' first
      | apply And.intro
      | exact True.intro
      | with_reducible rfl
      | exact same_of hA rfl
      | refine br_of hA (fun _ => ?_) (fun _ => ?_)
      | exact imp_of hA id
      | (refine imp_of hA ?_; subst hA; simp only [real, Bool.true_and]; exact id)
      | (refine ind_of hA ?_; decide +kernel)
      | (refine inb_of hA fun _ => ?_; subst hA; simp only [real, decide_eq_true_eq, Int.ofNat_eq_natCast] at *; omega)
      | (refine same_of hA ?_; subst hA; rfl)
      | fail
    refine stop_of hA ⟨[(5, .c (.d (eI i))), (1, .c (.d (eI k1))), (0, .c (.nown 0 n 1))], [(0, 1, .nest 3 n R (some (i, [.d (eI k), .own 9001 0 (rd i).op.rows.n 1, .own 9002 0 (rd i).marks.n 1]))), (9001, 1, .arr 13 (rd i).op.rows.n fun q => eRow ((rd i).op.rows.g q)), (9002, 1, .arr 1 (rd i).marks.n fun q => [eI ((rd i).marks.g q)])]⟩ (cov_of ?_ ?_ ?_) ?_
    · (subst hA; repeat' first | exact True.intro | exact rfl | exact congrArg (fun x => DV.v (.int .i64 x)) w1 |  apply And.intro | (intro _ _; rfl) | (intro _ _ _; rfl) | exact .inr (le_of_nble rfl) | exact .inl rfl | exact .inr (Nat.le_refl _))
    · (subst hA; repeat' first | exact True.intro | exact rfl | exact congrArg (fun x => DV.v (.int .i64 x)) w1 |  apply And.intro | (intro _ _; rfl) | (intro _ _ _; rfl) | exact .inr (le_of_nble rfl) | exact .inl rfl | exact .inr (Nat.le_refl _))
    · (subst hA; repeat' first | exact True.intro | exact rfl | exact congrArg (fun x => DV.v (.int .i64 x)) w1 |  apply And.intro | (intro _ _; rfl) | (intro _ _ _; rfl) | exact .inr (le_of_nble rfl) | exact .inl rfl | exact .inr (Nat.le_refl _))
    cbv
    repeat' first
      | apply And.intro
      | exact True.intro
      | with_reducible rfl
      | exact same_of hA rfl
      | refine br_of hA (fun _ => ?_) (fun _ => ?_)
      | exact imp_of hA id
      | (refine imp_of hA ?_; subst hA; simp only [real, Bool.true_and]; exact id)
      | (refine ind_of hA ?_; decide +kernel)
      | (refine inb_of hA fun _ => ?_; subst hA; simp only [real, decide_eq_true_eq, Int.ofNat_eq_natCast] at *; omega)
      | (refine same_of hA ?_; subst hA; rfl)
      | (refine call_of2 hA hM _ m1 (by subst hA; rfl) ?_; cbv)
      | (refine call_of2 hA hM _ m2 (by subst hA; rfl) ?_; cbv)
      | fail
    refine ⟨⟨(i + 1, k3, fun j => if j = i then [eI k, .sl 13 (rd i).op.rows.n fun q => eRow (G1 q), .sl 1 (rd i).marks.n fun q => [eI (G2 q)]] else R j), hlt', by (show k3 = pos (i + 1)); omega, fun j hj => ?_, fun j hj => ?_⟩, by simp only; omega,
      cov_close 0 (fun j => if j = i then [eI k, .sl 13 (rd i).op.rows.n fun q => eRow (G1 q), .sl 1 (rd i).marks.n fun q => [eI (G2 q)]] else R j) [eI k, .sl 13 (rd i).op.rows.n fun q => eRow (G1 q), .sl 1 (rd i).marks.n fun q => [eI (G2 q)]] [(9001, 1), (9002, 1)] rfl ?_ rfl (if_pos rfl) (fun _ _ hq => if_neg hq) (cov_of ?_ ?_ ?_)⟩
    · simp only at hj ⊢
      by_cases e : j = i
      · rw [if_pos e, e, hnew]
      · rw [if_neg e]; exact hR j (by omega)
    · simp only at hj ⊢
      rw [if_neg (by omega)]; exact hS j (by omega)
    · subst hA; exact (close_v (close_own rfl (fun _ _ => rfl) (flatR fun _ => flat_Row _) (close_own rfl (fun _ _ => rfl) (flatR fun _ => flat_int _) close_end)))
    · (subst hA; repeat' first | exact True.intro | exact rfl | exact congrArg (fun x => DV.v (.int .i64 x)) (up64 hlt' hn2) |  apply And.intro | (intro _ _; rfl) | (intro _ _ _; rfl) | exact .inr (le_of_nble rfl) | exact .inl rfl | exact .inr (Nat.le_refl _))
    · (subst hA; repeat' first | exact True.intro | exact rfl | exact congrArg (fun x => DV.v (.int .i64 x)) (up64 hlt' hn2) |  apply And.intro | (intro _ _; rfl) | (intro _ _ _; rfl) | exact .inr (le_of_nble rfl) | exact .inl rfl | exact .inr (Nat.le_refl _))
    · (subst hA; repeat' first | exact True.intro | exact rfl | exact congrArg (fun x => DV.v (.int .i64 x)) (up64 hlt' hn2) |  apply And.intro | (intro _ _; rfl) | (intro _ _ _; rfl) | exact .inr (le_of_nble rfl) | exact .inl rfl | exact .inr (Nat.le_refl _))
  · rename_i hge
    have hin : i = n := by
      subst hA
      have : ¬ ((i : Int) < (n : Int)) := of_decide_eq_false hge
      omega
    subst hin
    have hkx : k = x := by rw [hk, hx]
    subst hkx
    refine stop_of hA ⟨[(1, .c (.d (eI k)))], [(0, 1, .nest 3 i (fun q => eSnap (GM q)) none)]⟩ (cov_of ?_ ?_ ?_) ?_
    · cbv
    · cbv
      first
        | exact ⟨fun q hq _ => hR q hq, trivial⟩
        | exact ⟨fun q hq => hR q hq, trivial⟩
    · (subst hA; repeat' first | exact True.intro | exact rfl |  apply And.intro | (intro _ _; rfl) | (intro _ _ _; rfl) | exact .inr (le_of_nble rfl) | exact .inl rfl | exact .inr (Nat.le_refl _))
    · cbv
      repeat' first
        | apply And.intro
        | exact True.intro
        | with_reducible rfl
        | exact same_of hA rfl
        | refine br_of hA (fun _ => ?_) (fun _ => ?_)
        | exact imp_of hA id
        | (refine imp_of hA ?_; subst hA; simp only [real, Bool.true_and]; exact id)
        | (refine ind_of hA ?_; decide +kernel)
        | fail
end Go.Rk
/- Marks of checkpoints and of tasks, as a whole. -/
namespace Go.Rk
set_option linter.unusedSimpArgs false
set_option linter.unusedVariables false
theorem posS_shift (len : Nat → Int) (s t : Int) : ∀ i, posS len (s + t) i = posS len s i + t
  | 0 => rfl
  | i + 1 => by show posS len (s + t) i + len i = posS len s i + len i + t; rw [posS_shift len s t i]; omega
theorem posS_ge {len : Nat → Int} (h : ∀ i, 0 ≤ len i) (s : Int) (i : Nat) : s ≤ posS len s i := posS_mono (len := len) (s := s) (n := i) (fun i _ => h i) (Nat.zero_le i) (Nat.le_refl i)
theorem lenSnap_pos (x : SnapT) : 0 ≤ lenSnap x := by unfold lenSnap; omega
theorem szN_eq {n : Nat} {l : Int} (h : 0 ≤ szN n l) : szN n l = l - n := by
  unfold szN at h ⊢
  split
  · rename_i h1; rw [if_pos h1] at h; omega
  · rfl
theorem szLoop_pos {f : Nat → Int → Int} {len : Nat → Int} {l s : Int} {n : Nat} (hf : ∀ i, i < n → ∀ l, 0 ≤ l → 0 ≤ f i l → len i ≤ 2 + 13 * (l - f i l)) :
    ∀ k, k ≤ n → 0 ≤ szLoop f l k → posS len s k ≤ s + 2 * (k : Int) + 13 * (l - szLoop f l k)
  | 0, _, _ => by show s ≤ s + 2 * 0 + 13 * (l - l); omega
  | k + 1, hk, h => by
    unfold szLoop at h ⊢
    by_cases c : szLoop f l k < 0
    · rw [if_pos c] at h; omega
    · rw [if_neg c] at h ⊢
      have h1 := szLoop_pos (l := l) (s := s) hf k (by omega) (by omega)
      have h2 := hf k (by omega) (szLoop f l k) (by omega) h
      show posS len s k + len k ≤ _
      have : ((k + 1 : Nat) : Int) = (k : Int) + 1 := rfl
      omega
theorem szS_pos {f : Nat → Int → Int} {len : Nat → Int} {l : Int} {n : Nat} (s : Int) (hf : ∀ i, i < n → ∀ l, 0 ≤ l → 0 ≤ f i l → len i ≤ 2 + 13 * (l - f i l)) (h : 0 ≤ szS f n l) : posS len s n ≤ s + 13 * (l - szS f n l) := by
  unfold szS at h ⊢
  by_cases c : szN n l < 0
  · rw [if_pos c] at h; omega
  · rw [if_neg c] at h ⊢
    have h1 := szLoop_pos (s := s) hf n (Nat.le_refl n) h
    have h2 := szN_eq (show 0 ≤ szN n l by omega)
    omega
theorem szSnap_pos (x : SnapT) (l : Int) (h : 0 ≤ szSnap x l) : lenSnap x ≤ 2 + 13 * (l - szSnap x l) := by
  unfold szSnap szOpSt at h ⊢
  dsimp only at h ⊢
  by_cases c : szN x.op.rows.n l < 0
  · rw [if_pos c] at h; omega
  · rw [if_neg c] at h ⊢
    have h1 := szN_eq (show 0 ≤ szN x.op.rows.n l by omega)
    have h2 := szN_eq h
    unfold lenSnap
    omega
def lenS (s : Sl SnapT) : Int := posS (fun i => lenSnap (s.g i)) 0 s.n
theorem lenS_pos (s : Sl SnapT) : 0 ≤ lenS s := posS_ge (fun i => lenSnap_pos _) 0 _
/-- How many marks checkpoints take. -/
def totCkp (x : CkpT) : Int := (x.src.n : Int) + (x.tsk.n : Int) + lenS x.snaps + (x.safe.at_.n : Int) + lenS x.safe.snaps
theorem totCkp_le {x : CkpT} (h : 0 ≤ szCkp x 1048576) : totCkp x ≤ 13631488 := by
  have hs : ∀ (s : Sl SnapT) (l : Int), 0 ≤ szS (fun i l => szSnap (s.g i) l) s.n l → lenS s ≤ 13 * (l - szS (fun i l => szSnap (s.g i) l) s.n l) := fun s l h => by
    have : posS (fun i => lenSnap (s.g i)) 0 s.n ≤ 0 + 13 * (l - szS (fun i l => szSnap (s.g i) l) s.n l) := szS_pos (len := fun i => lenSnap (s.g i)) 0 (fun i _ l _ h => szSnap_pos (s.g i) l h) h
    unfold lenS
    omega
  unfold szCkp szSafe at h
  dsimp only at h
  by_cases c1 : szN x.src.n 1048576 < 0
  · rw [if_pos c1] at h; omega
  rw [if_neg c1] at h
  have e1 := szN_eq (show 0 ≤ szN x.src.n 1048576 by omega)
  generalize szN x.src.n 1048576 = l1 at *
  by_cases c2 : szN x.tsk.n l1 < 0
  · rw [if_pos c2] at h; omega
  rw [if_neg c2] at h
  have e2 := szN_eq (show 0 ≤ szN x.tsk.n l1 by omega)
  generalize szN x.tsk.n l1 = l2 at *
  by_cases c3 : szS (fun i l => szSnap (x.snaps.g i) l) x.snaps.n l2 < 0
  · rw [if_pos c3] at h; omega
  rw [if_neg c3] at h
  have e3 := hs x.snaps l2 (by omega)
  generalize szS (fun i l => szSnap (x.snaps.g i) l) x.snaps.n l2 = l3 at *
  by_cases c4 : szN x.safe.at_.n l3 < 0
  · rw [if_pos c4] at h; omega
  rw [if_neg c4] at h
  have e4 := szN_eq (show 0 ≤ szN x.safe.at_.n l3 by omega)
  generalize szN x.safe.at_.n l3 = l4 at *
  have e5 := hs x.safe.snaps l4 h
  unfold totCkp
  omega
structure CkpM (s : Int) (x : CkpT) where
  f1 : Nat → Int
  f2 : Nat → Bool
  f3 : Nat → SnapT
  f4 : Nat → Int
  f5 : Nat → SnapT
  p3 : Nat → Int
  p5 : Nat → Int
  k1 : Int
  k2 : Int
  k3 : Int
  k4 : Int
  k5 : Int
  h1 : ∀ i, f1 i = mkint (s + 1 * (i : Int))
  hk1 : k1 = s + 1 * (x.src.n : Int)
  h2 : ∀ i, f2 i = mkbool (k1 + 1 * (i : Int))
  hk2 : k2 = k1 + 1 * (x.tsk.n : Int)
  q0 : p3 0 = k2
  q1 : ∀ i, i < x.snaps.n → p3 (i + 1) = p3 i + lenSnap (x.snaps.g i)
  q2 : ∀ i, i ≤ x.snaps.n → 0 ≤ p3 i ∧ p3 i ≤ 50000000
  hk3 : k3 = p3 x.snaps.n
  h3 : ∀ i, f3 i = mkSnap (p3 i) (x.snaps.g i)
  h4 : ∀ i, f4 i = mkint (k3 + 1 * (i : Int))
  hk4 : k4 = k3 + 1 * (x.safe.at_.n : Int)
  r0 : p5 0 = k4
  r1 : ∀ i, i < x.safe.snaps.n → p5 (i + 1) = p5 i + lenSnap (x.safe.snaps.g i)
  r2 : ∀ i, i ≤ x.safe.snaps.n → 0 ≤ p5 i ∧ p5 i ≤ 50000000
  hk5 : k5 = p5 x.safe.snaps.n
  h5 : ∀ i, f5 i = mkSnap (p5 i) (x.safe.snaps.g i)
  b0 : 0 ≤ s ∧ s ≤ 50000000
  b1 : 0 ≤ k1 ∧ k1 ≤ 50000000
  b2 : 0 ≤ k2 ∧ k2 ≤ 50000000
  b3 : 0 ≤ k3 ∧ k3 ≤ 50000000
  b4 : 0 ≤ k4 ∧ k4 ≤ 50000000
  b5 : 0 ≤ k5 ∧ k5 ≤ 50000000
def CkpM.out {s : Int} {x : CkpT} (M : CkpM s x) : CkpT := ⟨x.n, x.opn, ⟨x.src.n, M.f1, x.src.hn⟩, ⟨x.tsk.n, M.f2, x.tsk.hn⟩, ⟨x.snaps.n, M.f3, x.snaps.hn⟩, ⟨x.safe.n, ⟨x.safe.at_.n, M.f4, x.safe.at_.hn⟩, ⟨x.safe.snaps.n, M.f5, x.safe.snaps.hn⟩⟩⟩
theorem ckpM_ex (x : CkpT) (h : totCkp x ≤ 40000000) : Nonempty (CkpM 1 x) := by
  have n3 := lenS_pos x.snaps
  have n5 := lenS_pos x.safe.snaps
  unfold totCkp at h
  have hp : ∀ (s : Sl SnapT) (k : Int), 0 ≤ k → k + lenS s ≤ 50000000 → ∀ i, i ≤ s.n → 0 ≤ posS (fun i => lenSnap (s.g i)) k i ∧ posS (fun i => lenSnap (s.g i)) k i ≤ 50000000 := fun s k h0 h1 i hi => by
    have a := posS_ge (len := fun i => lenSnap (s.g i)) (fun i => lenSnap_pos _) k i
    have b := posS_mono (len := fun i => lenSnap (s.g i)) (s := k) (n := s.n) (fun i _ => lenSnap_pos _) hi (Nat.le_refl _)
    have c := posS_shift (fun i => lenSnap (s.g i)) 0 k s.n
    rw [Int.zero_add] at c
    unfold lenS at h1
    omega
  have e3 : ∀ (s : Sl SnapT) (k : Int), posS (fun i => lenSnap (s.g i)) k s.n = lenS s + k := fun s k => by
    have c := posS_shift (fun i => lenSnap (s.g i)) 0 k s.n
    rw [Int.zero_add] at c
    exact c
  let k1 : Int := 1 + 1 * (x.src.n : Int)
  let k2 : Int := k1 + 1 * (x.tsk.n : Int)
  let k3 : Int := posS (fun i => lenSnap (x.snaps.g i)) k2 x.snaps.n
  let k4 : Int := k3 + 1 * (x.safe.at_.n : Int)
  have h3 : k3 = lenS x.snaps + k2 := e3 _ _
  refine ⟨⟨fun i => mkint (1 + 1 * (i : Int)), fun i => mkbool (k1 + 1 * (i : Int)), fun i => mkSnap (posS (fun i => lenSnap (x.snaps.g i)) k2 i) (x.snaps.g i), fun i => mkint (k3 + 1 * (i : Int)), fun i => mkSnap (posS (fun i => lenSnap (x.safe.snaps.g i)) k4 i) (x.safe.snaps.g i),
    posS (fun i => lenSnap (x.snaps.g i)) k2, posS (fun i => lenSnap (x.safe.snaps.g i)) k4, k1, k2, k3, k4, posS (fun i => lenSnap (x.safe.snaps.g i)) k4 x.safe.snaps.n,
    fun _ => rfl, rfl, fun _ => rfl, rfl, rfl, fun _ _ => rfl, hp _ _ (by omega) (by omega), rfl, fun _ => rfl, fun _ => rfl, rfl, rfl, fun _ _ => rfl, hp _ _ (by omega) (by omega), rfl, fun _ => rfl, by omega, by omega, by omega, by omega, by omega, ?_⟩⟩
  have := e3 x.safe.snaps k4
  omega
end Go.Rk
/- Marks of nests: hsnap. -/
namespace Go.Rk
set_option linter.unusedSimpArgs false
set_option linter.unusedVariables false
open Go.Proofs
set_option maxRecDepth 100000
set_option maxHeartbeats 2000000
def st_hSnap (n : Nat) (GM : Nat → SnapT) (i : Nat) (k : Int) : St := ⟨[(5, .c (.d (eI i))), (1, .c (.d (eI k))), (0, .c (.d (.sl 3 n fun i => eSnap (GM i))))], []⟩
theorem helds_Snap (s : Int) (n : Nat) (hn : n ≤ 1048576) (rd : Nat → SnapT) (hbd : ∀ i, i < n → bdSnap (rd i)) (pos : Nat → Int) (hp0 : pos 0 = s) (hps : ∀ i, i < n → pos (i + 1) = pos i + lenSnap (rd i)) (hpb : ∀ i, i ≤ n → 0 ≤ pos i ∧ pos i ≤ 50000000) (x : Int) (hx : x = pos n) (GM : Nat → SnapT) (hGM : ∀ i, GM i = mkSnap (pos i) (rd i)) :
    Meets Tryz.prog 75 [.c (.d (.sl 3 n fun i => eSnap (GM i))), .c (.d (eI s))] ⟨.one (.c (.d (eI x))), [none, none]⟩ := by
  have hn2 : n ≤ maxLen := Nat.le_trans hn (by decide)
  refine meets_of (H := [7]) (EX := EXA) ttok mixed Tryz.func75 rfl (by kernel_rfl) (by decide) ?_
  generalize hA : real = A
  generalize hM : MeetsB Tryz.prog = M
  cbv
  repeat' first
    | apply And.intro
    | exact True.intro
    | with_reducible rfl
    | exact same_of hA rfl
    | refine br_of hA (fun _ => ?_) (fun _ => ?_)
    | exact imp_of hA id
    | (refine imp_of hA ?_; subst hA; simp only [real, Bool.true_and]; exact id)
    | (refine ind_of hA ?_; decide +kernel)
    | fail
  refine loop_of hA (α := { q : Nat × Int // q.1 ≤ n ∧ q.2 = pos q.1 }) (fun y => st_hSnap n GM y.1.1 y.1.2) (fun y => n - y.1.1) ⟨(0, s), Nat.zero_le _, hp0.symm⟩ ?_ ?_
  · refine cov_of ?_ ?_ ?_
    · (subst hA; repeat' first | exact True.intro | exact rfl |  apply And.intro | (intro _ _; rfl) | (intro _ _ _; rfl) | exact .inr (le_of_nble rfl) | exact .inl rfl | exact .inr (Nat.le_refl _))
    · (subst hA; repeat' first | exact True.intro | exact rfl |  apply And.intro | (intro _ _; rfl) | (intro _ _ _; rfl) | exact .inr (le_of_nble rfl) | exact .inl rfl | exact .inr (Nat.le_refl _))
    · (subst hA; repeat' first | exact True.intro | exact rfl |  apply And.intro | (intro _ _; rfl) | (intro _ _ _; rfl) | exact .inr (le_of_nble rfl) | exact .inl rfl | exact .inr (Nat.le_refl _))
  rintro ⟨⟨i, k⟩, hi, hk⟩
  have hi : i ≤ n := hi
  have hk : k = pos i := hk
  have hkb := hpb i hi
  have hgm := hGM i
  rw [← hk] at hkb hgm
  have hb3 : (maxLen : Nat) = 9223372036854775807 := by decide
  have hnb : ∀ {A : Ar} (v : Int), 0 ≤ v → real = A → A.cmp .lss v 0 = true → False := fun v hv hA h => by subst hA; exact absurd (of_decide_eq_true h) (Int.not_lt.2 hv)
  have hbad0 : ∀ {A : Ar}, real = A → A.cmp .neq (GM (A.nat (Int.ofNat i))).op.mark k = true → False := fun hA h => by
    subst hA
    have h : ((GM i).op.mark != k) = true := h
    rw [hgm] at h
    simp [mkSnap] at h
  have en : (GM i).op.rows.n = (rd i).op.rows.n := by rw [hgm]; rfl
  have em : (GM i).marks.n = (rd i).marks.n := by rw [hgm]; rfl
  obtain ⟨k1, hk1⟩ : ∃ z : Int, z = k + 1 := ⟨_, rfl⟩
  have w1 : IntKind.i64.wrap (k + 1) = k1 := by rw [IntWalk.i64_in _ (by omega)]; omega
  obtain ⟨k2, hk2⟩ : ∃ z : Int, z = k1 + 13 * ((rd i).op.rows.n : Int) := ⟨_, rfl⟩
  obtain ⟨k3, hk3⟩ : ∃ z : Int, z = k2 + 1 * ((rd i).marks.n : Int) := ⟨_, rfl⟩
  have hp2 : 0 ≤ k2 := by omega
  have hp3 : 0 ≤ k3 := by omega
  cbv
  repeat' first
    | exact (hbad0 hA (by assumption)).elim
    | apply And.intro
    | exact True.intro
    | with_reducible rfl
    | exact same_of hA rfl
    | refine br_of hA (fun _ => ?_) (fun _ => ?_)
    | exact imp_of hA id
    | (refine imp_of hA ?_; subst hA; simp only [real, Bool.true_and]; exact id)
    | (refine ind_of hA ?_; decide +kernel)
    | (refine inb_of hA fun _ => ?_; subst hA; simp only [real, decide_eq_true_eq, Int.ofNat_eq_natCast] at *; omega)
    | fail
  · rename_i hlt _
    have hlt' : i < n := by subst hA; simp only [real, decide_eq_true_eq, Int.ofNat_eq_natCast] at hlt; omega
    obtain ⟨hb1, hb2⟩ : (rd i).op.rows.n ≤ 1048576 ∧ (rd i).marks.n ≤ 1048576 := hbd i hlt'
    have hnext := hps i hlt'
    have hkb2 := hpb (i + 1) hlt'
    rw [← hk] at hnext
    have hnext : pos (i + 1) = k + (1 + 13 * ((rd i).op.rows.n : Int) + ((rd i).marks.n : Int)) := hnext
    have hk2 : k2 = k1 + 13 * ((rd i).op.rows.n : Int) := hk2
    have hk3 : k3 = k2 + 1 * ((rd i).marks.n : Int) := hk3
    have m1 := helds_Row k1 (by omega) (GM i).op.rows.n (by rw [en]; omega) k2 (by rw [en]; exact hk2) (GM i).op.rows.g (fun q => by rw [hgm, hk1]; rfl)
    have m2 := helds_int k2 (by omega) (GM i).marks.n (by rw [em]; omega) k3 (by rw [em]; exact hk3) (GM i).marks.g (fun q => by rw [hgm, hk2, hk1]; simp only [mkSnap, mkint, Int.one_mul])
    refine stop_of hA ⟨[(5, .c (.d (eI i))), (1, .c (.d (eI k1))), (0, .c (.d (.sl 3 n fun i => eSnap (GM i))))], []⟩ (cov_of ?_ ?_ ?_) ?_
    · (subst hA; repeat' first | exact True.intro | exact rfl | exact congrArg (fun x => DV.v (.int .i64 x)) w1 |  apply And.intro | (intro _ _; rfl) | (intro _ _ _; rfl) | exact .inr (le_of_nble rfl) | exact .inl rfl | exact .inr (Nat.le_refl _))
    · (subst hA; repeat' first | exact True.intro | exact rfl | exact congrArg (fun x => DV.v (.int .i64 x)) w1 |  apply And.intro | (intro _ _; rfl) | (intro _ _ _; rfl) | exact .inr (le_of_nble rfl) | exact .inl rfl | exact .inr (Nat.le_refl _))
    · (subst hA; repeat' first | exact True.intro | exact rfl | exact congrArg (fun x => DV.v (.int .i64 x)) w1 |  apply And.intro | (intro _ _; rfl) | (intro _ _ _; rfl) | exact .inr (le_of_nble rfl) | exact .inl rfl | exact .inr (Nat.le_refl _))
    cbv
    repeat' first
      | exact (hbad0 hA (by assumption)).elim
      | exact (hnb k2 hp2 hA (by assumption)).elim
      | exact (hnb k3 hp3 hA (by assumption)).elim
      | apply And.intro
      | exact True.intro
      | with_reducible rfl
      | exact same_of hA rfl
      | refine br_of hA (fun _ => ?_) (fun _ => ?_)
      | exact imp_of hA id
      | (refine imp_of hA ?_; subst hA; simp only [real, Bool.true_and]; exact id)
      | (refine ind_of hA ?_; decide +kernel)
      | (refine inb_of hA fun _ => ?_; subst hA; simp only [real, decide_eq_true_eq, Int.ofNat_eq_natCast] at *; omega)
      | (refine call_of2 hA hM _ m1 (by subst hA; rfl) ?_; cbv)
      | (refine call_of2 hA hM _ m2 (by subst hA; rfl) ?_; cbv)
      | fail
    refine ⟨⟨(i + 1, k3), hlt', by (show k3 = pos (i + 1)); omega⟩, by simp only; omega, cov_of ?_ ?_ ?_⟩
    · (subst hA; repeat' first | exact True.intro | exact rfl | exact congrArg (fun x => DV.v (.int .i64 x)) (up64 hlt' hn2) |  apply And.intro | (intro _ _; rfl) | (intro _ _ _; rfl) | exact .inr (le_of_nble rfl) | exact .inl rfl | exact .inr (Nat.le_refl _))
    · (subst hA; repeat' first | exact True.intro | exact rfl | exact congrArg (fun x => DV.v (.int .i64 x)) (up64 hlt' hn2) |  apply And.intro | (intro _ _; rfl) | (intro _ _ _; rfl) | exact .inr (le_of_nble rfl) | exact .inl rfl | exact .inr (Nat.le_refl _))
    · (subst hA; repeat' first | exact True.intro | exact rfl | exact congrArg (fun x => DV.v (.int .i64 x)) (up64 hlt' hn2) |  apply And.intro | (intro _ _; rfl) | (intro _ _ _; rfl) | exact .inr (le_of_nble rfl) | exact .inl rfl | exact .inr (Nat.le_refl _))
  · rename_i hge
    have hin : i = n := by
      subst hA
      have : ¬ ((i : Int) < (n : Int)) := of_decide_eq_false hge
      omega
    subst hin
    exact congrArg (fun x => XA.one (.c (.d (eI x)))) (by rw [hk, hx])
theorem helds_Safe {s : Int} {x : CkpT} (Q : CkpM s x) (hb : bdCkp x) : Meets Tryz.prog 76 [xd (eSafe Q.out.safe), .c (.d (eI Q.k3))] ⟨.one (.c (.d (eI Q.k5))), [none, none]⟩ := by
  have hnb : ∀ {A : Ar} (v : Int), 0 ≤ v → real = A → A.cmp .lss v 0 = true → False := fun v hv hA h => by subst hA; exact absurd (of_decide_eq_true h) (Int.not_lt.2 hv)
  have c4 := helds_int Q.k3 ⟨Q.b3.1, by have := Q.b3.2; omega⟩ x.safe.at_.n (by have := hb.2.2.2.2.1; omega) Q.k4 Q.hk4 Q.f4 Q.h4
  have c5 := helds_Snap Q.k4 x.safe.snaps.n hb.2.2.2.2.2.1 x.safe.snaps.g hb.2.2.2.2.2.2 Q.p5 Q.r0 Q.r1 Q.r2 Q.k5 Q.hk5 Q.f5 Q.h5
  refine meets_of (H := []) (EX := EXA) ttok mixed Tryz.func76 rfl (by kernel_rfl) (by decide) ?_
  generalize hA : real = A
  generalize hM : MeetsB Tryz.prog = M
  cbv
  repeat' first
    | exact (hnb _ Q.b4.1 hA (by assumption)).elim
    | exact (hnb _ Q.b5.1 hA (by assumption)).elim
    | apply And.intro
    | exact True.intro
    | with_reducible rfl
    | exact same_of hA rfl
    | refine br_of hA (fun _ => ?_) (fun _ => ?_)
    | exact imp_of hA id
    | (refine imp_of hA ?_; subst hA; simp only [real, Bool.true_and]; exact id)
    | (refine ind_of hA ?_; decide +kernel)
    | (refine call_of2 hA hM _ c4 (by subst hA; rfl) ?_; cbv)
    | (refine call_of2 hA hM _ c5 (by subst hA; rfl) ?_; cbv)
    | fail
theorem helds_Ckp {s : Int} {x : CkpT} (Q : CkpM s x) (hb : bdCkp x) : Meets Tryz.prog 22 [xd (eCkp Q.out), .c (.d (eI s))] ⟨.one (.c (.d (eI Q.k5))), [none, none]⟩ := by
  have hnb : ∀ {A : Ar} (v : Int), 0 ≤ v → real = A → A.cmp .lss v 0 = true → False := fun v hv hA h => by subst hA; exact absurd (of_decide_eq_true h) (Int.not_lt.2 hv)
  have c1 := helds_int s ⟨Q.b0.1, by have := Q.b0.2; omega⟩ x.src.n (by have := hb.1; omega) Q.k1 Q.hk1 Q.f1 Q.h1
  have c2 := helds_bool Q.k1 ⟨Q.b1.1, by have := Q.b1.2; omega⟩ x.tsk.n (by have := hb.2.1; omega) Q.k2 Q.hk2 Q.f2 Q.h2
  have c3 := helds_Snap Q.k2 x.snaps.n hb.2.2.1 x.snaps.g hb.2.2.2.1 Q.p3 Q.q0 Q.q1 Q.q2 Q.k3 Q.hk3 Q.f3 Q.h3
  have c4 := helds_Safe Q hb
  refine meets_of (H := []) (EX := EXA) ttok mixed Tryz.func22 rfl (by kernel_rfl) (by decide) ?_
  generalize hA : real = A
  generalize hM : MeetsB Tryz.prog = M
  cbv
  repeat' first
    | exact (hnb _ Q.b1.1 hA (by assumption)).elim
    | exact (hnb _ Q.b2.1 hA (by assumption)).elim
    | exact (hnb _ Q.b3.1 hA (by assumption)).elim
    | exact (hnb _ Q.b5.1 hA (by assumption)).elim
    | apply And.intro
    | exact True.intro
    | with_reducible rfl
    | exact same_of hA rfl
    | refine br_of hA (fun _ => ?_) (fun _ => ?_)
    | exact imp_of hA id
    | (refine imp_of hA ?_; subst hA; simp only [real, Bool.true_and]; exact id)
    | (refine ind_of hA ?_; decide +kernel)
    | (refine call_of2 hA hM _ c1 (by subst hA; rfl) ?_; cbv)
    | (refine call_of2 hA hM _ c2 (by subst hA; rfl) ?_; cbv)
    | (refine call_of2 hA hM _ c3 (by subst hA; rfl) ?_; cbv)
    | (refine call_of2 hA hM _ c4 (by subst hA; rfl) ?_; cbv)
    | fail
end Go.Rk
/- A slice of one number, repeated. -/
namespace Go.Rk
set_option linter.unusedSimpArgs false
set_option linter.unusedVariables false
open Go.Proofs
set_option maxRecDepth 100000
set_option maxHeartbeats 2000000
theorem c_Mul64 (y : Int) (hy : y = 1 ∨ y = 2 ∨ y = 3) : Meets Tryz.prog 202 [.c (.d (.v (.int .u64 1))), .c (.d (.v (.int .u64 y)))] ⟨.tup [.c (.d (.v (.int .u64 0))), .c (.d (.v (.int .u64 y)))], [none, none]⟩ := by
  refine meets_of (H := []) (EX := EXA) ttok mixed Tryz.func202 rfl (by kernel_rfl) (by decide) ?_
  generalize hA : real = A
  generalize hM : MeetsB Tryz.prog = M
  cbv
  repeat' first
    | apply And.intro
    | exact True.intro
    | with_reducible rfl
    | exact same_of hA rfl
    | refine br_of hA (fun _ => ?_) (fun _ => ?_)
    | exact imp_of hA id
    | (refine imp_of hA ?_; subst hA; simp only [real, Bool.true_and]; exact id)
    | (refine ind_of hA ?_; decide +kernel)
    | fail
  all_goals (subst hA; rcases hy with rfl | rfl | rfl <;> rfl)
theorem c_Mul (y : Int) (hy : y = 1 ∨ y = 2 ∨ y = 3) : Meets Tryz.prog 173 [.c (.d (.v (.int .u64 1))), .c (.d (.v (.int .u64 y)))] ⟨.tup [.c (.d (.v (.int .u64 0))), .c (.d (.v (.int .u64 y)))], [none, none]⟩ := by
  refine meets_of (H := []) (EX := EXA) ttok mixed Tryz.func173 rfl (by kernel_rfl) (by decide) ?_
  generalize hA : real = A
  generalize hM : MeetsB Tryz.prog = M
  cbv
  repeat' first
    | exact absurd (show false = true by assumption) (by decide)
    | apply And.intro
    | exact True.intro
    | with_reducible rfl
    | exact same_of hA rfl
    | refine br_of hA (fun _ => ?_) (fun _ => ?_)
    | exact imp_of hA id
    | (refine imp_of hA ?_; subst hA; simp only [real, Bool.true_and]; exact id)
    | (refine ind_of hA ?_; decide +kernel)
    | (refine call_of hA hM _ (c_Mul64 y hy) ?_; cbv)
    | fail
def st_rep (n : Nat) (row : Nat → List DV) (m : Nat) (R : Nat → List DV) : St := ⟨[(8, .c (.d (eI m))), (7, .c (.own 1920 0 n 1))], [(1920, 1, .arr 1 n R)]⟩
theorem c_RepeatM1 (n : Nat) (h1 : 1 ≤ n) (h3 : n ≤ 3) (row : Nat → List DV) (hrow : row 0 = [eI (-1)]) : Meets Tryz.prog 134 [.c (.d (.sl 1 1 row)), .c (.d (eI n))] ⟨.one (.c (.own 1 n fun _ => [eI (-1)])), [none, none]⟩ := by
  have hy : (n : Int) = 1 ∨ (n : Int) = 2 ∨ (n : Int) = 3 := by omega
  have hw : IntKind.i64.wrap (n : Int) = n := IntWalk.i64_in _ (by omega)
  have hu : IntKind.u64.wrap (n : Int) = n := by rcases hy with h | h | h <;> rw [h] <;> rfl
  have hbad : ∀ {A : Ar}, real = A → A.cmp .lss (n : Int) 0 = true → False := fun hA h => by
    subst hA
    have h : decide ((n : Int) < 0) = true := h
    have := of_decide_eq_true h
    omega
  have hbad2 : ∀ {A : Ar}, real = A → A.bite (A.cmp .gtr 0 0) true (A.cmp .gtr (n : Int) 9223372036854775807) = true → False := fun hA h => by
    subst hA
    have h : (bif decide ((0 : Int) > 0) then true else decide ((n : Int) > 9223372036854775807)) = true := h
    have h : decide ((n : Int) > 9223372036854775807) = true := h
    have := of_decide_eq_true h
    omega
  refine meets_of (H := [7, 10]) (EX := EXA) ttok mixed Tryz.func134 rfl (by kernel_rfl) (by decide) ?_
  generalize hA : real = A
  generalize hM : MeetsB Tryz.prog = M
  cbv
  repeat' first
    | exact (hbad hA (by assumption)).elim
    | exact (hbad2 hA (by assumption)).elim
    | apply And.intro
    | exact True.intro
    | with_reducible rfl
    | exact same_of hA rfl
    | refine br_of hA (fun _ => ?_) (fun _ => ?_)
    | exact imp_of hA id
    | (refine imp_of hA ?_; subst hA; simp only [real, Bool.true_and]; exact id)
    | (refine ind_of hA ?_; decide +kernel)
    | (refine call_of2 hA hM _ (c_Mul n hy) (by subst hA; show [XT.c (.d (.v (.int .u64 (IntKind.u64.wrap 1)))), XT.c (.d (.v (.int .u64 (IntKind.u64.wrap (n : Int)))))] = _; rw [hu]; rfl) ?_; cbv)
    | (subst hA; show 0 ≤ IntKind.i64.wrap (n : Int) ∧ IntKind.i64.wrap (n : Int) = IntKind.i64.wrap (n : Int) ∧ IntKind.i64.wrap (n : Int) * 8 ≤ 140737488355328 ∧ IntKind.i64.wrap (n : Int) ≤ 140737488355328; rw [hw]; exact ⟨by omega, rfl, by omega, by omega⟩)
    | fail
  refine stop_of hA ⟨[(0, .c (.d (.sl 1 1 row))), (7, .c (.own 1920 0 n 1))], [(1920, 1, .arr 1 n fun _ => [eI 0])]⟩ (cov_of ?_ ?_ ?_) ?_
  · subst hA
    have e : real.nat (real.wrap .i64 (Int.ofNat n)) = n := by show (IntKind.i64.wrap (n : Int)).toNat = n; rw [hw]; exact Int.toNat_natCast n
    repeat' first | exact True.intro | exact rfl | exact e | apply And.intro
  · subst hA
    have e : real.nat (real.wrap .i64 (Int.ofNat n)) = n := by show (IntKind.i64.wrap (n : Int)).toNat = n; rw [hw]; exact Int.toNat_natCast n
    repeat' first | exact True.intro | exact rfl | exact e | apply And.intro | (intro _ _; rfl)
  · subst hA; repeat' first | exact True.intro | exact rfl | apply And.intro | exact .inr (le_of_nble rfl) | exact .inl rfl
  cbv
  repeat' first
    | apply And.intro
    | exact True.intro
    | with_reducible rfl
    | exact same_of hA rfl
    | refine br_of hA (fun _ => ?_) (fun _ => ?_)
    | exact imp_of hA id
    | (refine imp_of hA ?_; subst hA; simp only [real, Bool.true_and]; exact id)
    | (refine ind_of hA ?_; decide +kernel)
    | fail
  refine loop_of hA (α := { q : Nat × (Nat → List DV) // 1 ≤ q.1 ∧ q.1 ≤ n ∧ ∀ i, i < q.1 → q.2 i = [eI (-1)] }) (fun y => st_rep n row y.1.1 y.1.2) (fun y => n - y.1.1) ⟨(1, fun i => if i < 1 then [eI (-1)] else [eI 0]), Nat.le_refl _, h1, fun i hi => if_pos hi⟩ ?_ ?_
  · have e : real.mn (real.int n) (real.int 1) = 1 := by
      show (if (1 : Int) < (n : Int) then (1 : Int) else (n : Int)) = 1
      split <;> omega
    refine cov_of ?_ ?_ ?_
    · subst hA; repeat' first | exact True.intro | exact rfl | exact congrArg (fun x => DV.v (.int .i64 x)) e | apply And.intro
    · subst hA
      refine ⟨⟨rfl, rfl, fun i hi => ?_⟩, trivial⟩
      show (if i < 0 then [eI 0] else if i - 0 < (real.mn (real.int n) (real.int 1)).toNat then row (i - 0) else [eI 0]) = if i < 1 then [eI (-1)] else [eI 0]
      rw [if_neg (by omega), e]
      by_cases c : i < 1
      · rw [if_pos c, if_pos (by simpa using c), show i - 0 = 0 by omega, hrow]
      · rw [if_neg c, if_neg (by simpa using c)]
    · subst hA; repeat' first | exact True.intro | exact rfl | apply And.intro | exact .inr (le_of_nble rfl) | exact .inl rfl
  rintro ⟨⟨m, R⟩, hm1, hmn, hR⟩
  have hm1 : 1 ≤ m := hm1
  have hmn : m ≤ n := hmn
  have hR : ∀ i, i < m → R i = [eI (-1)] := hR
  cbv
  repeat' first
    | apply And.intro
    | exact True.intro
    | with_reducible rfl
    | exact same_of hA rfl
    | refine br_of hA (fun _ => ?_) (fun _ => ?_)
    | exact imp_of hA id
    | (refine imp_of hA ?_; subst hA; simp only [real, Bool.true_and]; exact id)
    | (refine ind_of hA ?_; decide +kernel)
    | (subst hA; show _ ∧ _; simp only [real]; refine ⟨by omega, by omega, by omega⟩)
    | (subst hA; exact ⟨Int.natCast_nonneg _, Int.ofNat_le.2 hmn, Int.le_refl _⟩)
    | (subst hA; exact ⟨Int.le_refl _, Int.natCast_nonneg _, Int.ofNat_le.2 hmn⟩)
    | fail
  · rename_i hlt
    have hlt' : m < n := by subst hA; have h : ((m : Int) < (n : Int)) := of_decide_eq_true hlt; omega
    obtain ⟨k, hk⟩ : ∃ k : Nat, k = min (n - m) m := ⟨_, rfl⟩
    have e8 : real.mn (real.int (real.dif (real.int n) (Int.ofNat m))) (real.int (real.dif (Int.ofNat m) 0)) = (k : Int) := by
      show (if ((((m : Int) - 0).toNat : Nat) : Int) < ((((n : Int) - (m : Int)).toNat : Nat) : Int) then ((((m : Int) - 0).toNat : Nat) : Int) else ((((n : Int) - (m : Int)).toNat : Nat) : Int)) = _
      rw [hk]; split <;> omega
    have hkp : 1 ≤ k ∧ m + k ≤ n ∧ k ≤ m := by rw [hk]; omega
    have e9 : real.ar .add .i64 (Int.ofNat m) (real.mn (real.int (real.dif (real.int n) (Int.ofNat m))) (real.int (real.dif (Int.ofNat m) 0))) = ((m + k : Nat) : Int) := by
      rw [e8]
      show IntKind.i64.wrap ((m : Int) + (k : Int)) = _
      rw [IntWalk.i64_in _ (by omega)]; omega
    refine ⟨⟨(m + k, fun i => if i < m then R i else if i - m < k then R (i - m) else R i), by simp only; omega, by simp only; omega, fun i hi => ?_⟩, by simp only; omega, cov_of ?_ ?_ ?_⟩
    · simp only at hi ⊢
      by_cases c : i < m
      · rw [if_pos c]; exact hR i c
      · rw [if_neg c, if_pos (by omega)]; exact hR _ (by omega)
    · subst hA; repeat' first | exact True.intro | exact rfl | exact congrArg (fun x => DV.v (.int .i64 x)) e9 | apply And.intro
    · subst hA
      refine ⟨⟨rfl, rfl, fun i hi => ?_⟩, trivial⟩
      show (if i < 0 + m then R i else if i - (0 + m) < (real.mn (real.int (real.dif (real.int n) (Int.ofNat m))) (real.int (real.dif (Int.ofNat m) 0))).toNat then R (0 + 0 + (i - (0 + m))) else R (0 + m + (real.mn (real.int (real.dif (real.int n) (Int.ofNat m))) (real.int (real.dif (Int.ofNat m) 0))).toNat + (i - (0 + m) - (real.mn (real.int (real.dif (real.int n) (Int.ofNat m))) (real.int (real.dif (Int.ofNat m) 0))).toNat))) = if i < m then R i else if i - m < k then R (i - m) else R i
      rw [e8, Int.toNat_natCast, Nat.zero_add]
      by_cases c : i < m
      · rw [if_pos c, if_pos c]
      · rw [if_neg c, if_neg c]
        by_cases c2 : i - m < k
        · rw [if_pos c2, if_pos c2]; congr 1; omega
        · rw [if_neg c2, if_neg c2]; congr 1; omega
    · subst hA; repeat' first | exact True.intro | exact rfl | apply And.intro | exact .inr (le_of_nble rfl) | exact .inl rfl
  · rename_i hge
    have hin : m = n := by
      subst hA
      have : ¬ ((m : Int) < (n : Int)) := of_decide_eq_false hge
      omega
    subst hin
    refine stop_of hA ⟨[(7, .c (.own 1920 0 m 1))], [(1920, 1, .arr 1 m fun _ => [eI (-1)])]⟩ (cov_of ?_ ?_ ?_) ?_
    · subst hA; repeat' first | exact True.intro | exact rfl | apply And.intro
    · subst hA; exact ⟨⟨rfl, rfl, fun i hi => hR i hi⟩, trivial⟩
    · subst hA; repeat' first | exact True.intro | exact rfl | apply And.intro | exact .inr (le_of_nble rfl) | exact .inl rfl
    cbv
    repeat' first
      | apply And.intro
      | exact True.intro
      | with_reducible rfl
      | exact same_of hA rfl
      | refine br_of hA (fun _ => ?_) (fun _ => ?_)
      | exact imp_of hA id
      | (refine imp_of hA ?_; subst hA; simp only [real, Bool.true_and]; exact id)
      | (refine ind_of hA ?_; decide +kernel)
      | fail
end Go.Rk
/- What asking, saving and giving up come to, in plain words. -/
namespace Go.Rk
set_option linter.unusedSimpArgs false
set_option linter.unusedVariables false
def zSlI : Sl Int := ⟨0, fun _ => 0, Nat.zero_le _⟩
def zSlB : Sl Bool := ⟨0, fun _ => false, Nat.zero_le _⟩
def zRw : RowT := ⟨0, ⟨0, 0⟩, ⟨0, 0, 0, 0⟩, ⟨0, 0, 0, 0⟩, 0, false⟩
def zSlR : Sl RowT := ⟨0, fun _ => zRw, Nat.zero_le _⟩
def zSnp : SnapT := ⟨⟨0, zSlR⟩, zSlI⟩
def zSlS : Sl SnapT := ⟨0, fun _ => zSnp, Nat.zero_le _⟩
def zCkp : CkpT := ⟨0, false, zSlI, zSlB, zSlS, ⟨0, zSlI, zSlS⟩⟩
theorem jobS {j : JobT} (h : JobOkP j) : 1 ≤ j.srcs.toNat ∧ j.srcs.toNat ≤ 3 ∧ (j.srcs.toNat : Int) = j.srcs := by unfold JobOkP at h; omega
theorem jobT {j : JobT} (h : JobOkP j) : 1 ≤ j.tsks.toNat ∧ j.tsks.toNat ≤ 2 ∧ (j.tsks.toNat : Int) = j.tsks := by unfold JobOkP at h; omega
theorem small_len {n : Nat} (h : n ≤ 3) : n ≤ maxLen := Nat.le_trans h (by decide)
/-- Nothing is under way. -/
def idleP (j : JobT) (h : JobOkP j) (x : CkpT) : CkpT :=
  ⟨x.n, false, ⟨j.srcs.toNat, fun _ => -1, small_len (jobS h).2.1⟩, ⟨j.tsks.toNat, fun _ => false, small_len (Nat.le_trans (jobT h).2.1 (by decide))⟩, ⟨j.tsks.toNat, fun _ => zSnp, small_len (Nat.le_trans (jobT h).2.1 (by decide))⟩, x.safe⟩
def asks (x : CkpT) : CkpT := bif (!x.opn && decide (x.n < 900)) then ⟨x.n + 1, true, x.src, x.tsk, x.snaps, x.safe⟩ else x
theorem ckpJob {j : JobT} {x : CkpT} (h : CkpOkP j x) : JobOkP j := h.1
open Classical in
noncomputable def saveP (j : JobT) (x : CkpT) : CkpT × Bool :=
  if h : CkpOkP j x then (if ReadyP x then (idleP j (ckpJob h) ⟨x.n, x.opn, x.src, x.tsk, x.snaps, ⟨x.n, x.src, x.snaps⟩⟩, true) else (x, false)) else (zCkp, false)
end Go.Rk
/- Checkpoints: k. -/
namespace Go.Rk
set_option linter.unusedSimpArgs false
set_option linter.unusedVariables false
open Go.Proofs
set_option maxRecDepth 100000
set_option maxHeartbeats 2000000
def EXIdle2 : FuncId → List Nat × Bool := fun f => bif nbeq f 1 then ([10901], false) else  ([], false)
theorem k_idle2 (x : CkpT) (a b : Nat) (ha1 : 1 ≤ a) (ha3 : a ≤ 3) (hb1 : 1 ≤ b) (hb2 : b ≤ 2) (r2 r3 r4 r5 r6 r7 r8 r9 : DV) :
    MeetsO Tryz.prog 78 [.c (.bp 384 1 0), .agg [.d (eI (a : Int)), .d (eI (b : Int)), .d r2, .d r3, .d r4, .d r5, .d r6, .d r7, .d r8, .d r9]] [(384, 1, .box [.d (eI x.n), .d (eB x.opn), .own 898 0 x.src.n 1, .own 899 0 x.tsk.n 1, .nown 900 x.snaps.n 1, .d (eI x.n), .own 898 0 x.src.n 1, .nown 900 x.snaps.n 1]), (898, 1, .arr 1 x.src.n fun i => [eI (x.src.g i)]), (899, 1, .arr 1 x.tsk.n fun i => [eB (x.tsk.g i)]), (900, 1, .nest 3 x.snaps.n (fun i => eSnap (x.snaps.g i)) none)] (.tup []) [(384, 1, .box [.d (eI x.n), .d (eB false), .own 11733 0 a 1, .own 11925 0 b 1, .own 12117 0 b 1, .d (eI x.n), .own 898 0 x.src.n 1, .nown 900 x.snaps.n 1]), (898, 1, .arr 1 x.src.n fun i => [eI (x.src.g i)]), (899, 1, .arr 1 x.tsk.n fun i => [eB (x.tsk.g i)]), (900, 1, .nest 3 x.snaps.n (fun i => eSnap (x.snaps.g i)) none), (11733, 1, .arr 1 a fun _ => [eI (-1)]), (11925, 1, .arr 1 b fun _ => [eB false]), (12117, 1, .arr 3 b fun _ => [eI 0, .v nilS, .v nilS]), (11093, 1, .dead), (11541, 1, .dead)] := by
  refine inl_of (EX := EXIdle2) ttok mixed Tryz.func78 rfl (by kernel_rfl) (by decide) (by kernel_rfl) rfl rfl ?_
  generalize hA : real = A
  generalize hM : MeetsB Tryz.prog = M9
  cbv
  repeat' first
    | apply And.intro
    | exact True.intro
    | with_reducible rfl
    | exact same_of hA rfl
    | refine br_of hA (fun _ => ?_) (fun _ => ?_)
    | exact imp_of hA id
    | (refine imp_of hA ?_; subst hA; simp only [real, Bool.true_and]; exact id)
    | (refine ind_of hA ?_; decide +kernel)
    | (intro _ _; rfl)
    | (refine call_of2 hA hM _ (c_RepeatM1 a ha1 ha3 _ rfl) (by subst hA; rfl) ?_; cbv)
    | (subst hA; show 0 ≤ (b : Int) ∧ (b : Int) = (b : Int) ∧ (b : Int) * _ ≤ 140737488355328 ∧ (b : Int) ≤ 140737488355328; refine ⟨by omega, rfl, by omega, by omega⟩)
    | (subst hA; exact flatR fun _ => flat_int _)
    | (subst hA; rfl)
    | (intro _ _; subst hA; rfl)
    | fail
def EXSave : FuncId → List Nat × Bool := fun f => bif nbeq f 1 then ([9901], false) else bif nbeq f 78 then ([99], false) else bif nbeq f 136 then ([0], false) else ([], false)
theorem k_saveT (x : CkpT) (hr : ReadyP x) (a b : Nat) (ha1 : 1 ≤ a) (ha3 : a ≤ 3) (hb1 : 1 ≤ b) (hb2 : b ≤ 2) (r2 r3 r4 r5 r6 r7 r8 r9 : DV) :
    MeetsO Tryz.prog 81 [.c (.bp 384 1 0), .agg [.d (eI (a : Int)), .d (eI (b : Int)), .d r2, .d r3, .d r4, .d r5, .d r6, .d r7, .d r8, .d r9]] [(384, 1, .box [.d (eI x.n), .d (eB x.opn), .own 898 0 x.src.n 1, .own 899 0 x.tsk.n 1, .nown 900 x.snaps.n 1, .d (eI x.safe.n), .own 902 0 x.safe.at_.n 1, .nown 903 x.safe.snaps.n 1]), (898, 1, .arr 1 x.src.n fun i => [eI (x.src.g i)]), (899, 1, .arr 1 x.tsk.n fun i => [eB (x.tsk.g i)]), (900, 1, .nest 3 x.snaps.n (fun i => eSnap (x.snaps.g i)) none), (902, 1, .arr 1 x.safe.at_.n fun i => [eI (x.safe.at_.g i)]), (903, 1, .nest 3 x.safe.snaps.n (fun i => eSnap (x.safe.snaps.g i)) none)] (.c (.d (eB true))) [(384, 1, .box [.d (eI x.n), .d (eB false), .own 11733 0 a 1, .own 11925 0 b 1, .own 12117 0 b 1, .d (eI x.n), .own 898 0 x.src.n 1, .nown 900 x.snaps.n 1]), (898, 1, .arr 1 x.src.n fun i => [eI (x.src.g i)]), (899, 1, .arr 1 x.tsk.n fun i => [eB (x.tsk.g i)]), (900, 1, .nest 3 x.snaps.n (fun i => eSnap (x.snaps.g i)) none), (902, 1, .arr 1 x.safe.at_.n fun i => [eI (x.safe.at_.g i)]), (903, 1, .nest 3 x.safe.snaps.n (fun i => eSnap (x.safe.snaps.g i)) none), (11733, 1, .arr 1 a fun _ => [eI (-1)]), (11925, 1, .arr 1 b fun _ => [eB false]), (12117, 1, .arr 3 b fun _ => [eI 0, .v nilS, .v nilS]), (11093, 1, .dead), (11541, 1, .dead), (10093, 1, .dead)] := by
  obtain ⟨t, ht, hm⟩ := c_readyD x
  obtain rfl : t = true := ht.2 hr
  refine inl_of (EX := EXSave) ttok mixed Tryz.func81 rfl (by kernel_rfl) (by decide) (by kernel_rfl) rfl rfl ?_
  generalize hA : real = A
  generalize hM : MeetsB Tryz.prog = M9
  cbv
  repeat' first
    | exact absurd (show false = true by subst hA; assumption) (by decide)
    | exact absurd (show true = false by subst hA; assumption) (by decide)
    | apply And.intro
    | exact True.intro
    | with_reducible rfl
    | exact same_of hA rfl
    | refine br_of hA (fun _ => ?_) (fun _ => ?_)
    | exact imp_of hA id
    | (refine imp_of hA ?_; subst hA; simp only [real, Bool.true_and]; exact id)
    | (refine ind_of hA ?_; decide +kernel)
    | (refine call_of2 hA hM _ hm (by subst hA; first | rfl | (simp only [sub0r]; done) | (simp only [sub0r]; rfl)) ?_; cbv)
    | (refine inl_call hA _ _ _ ⟨fun _ => (by rw [← hM]; exact (k_idle2 x a b ha1 ha3 hb1 hb2 r2 r3 r4 r5 r6 r7 r8 r9)), (by cbv; repeat' first | apply And.intro | exact True.intro | rfl | exact .inr trivial | exact .inl trivial), ?_⟩; cbv)
    | (intro _ _; rfl)
    | (subst hA; exact flatR fun _ => flat_int _)
    | (subst hA; rfl)
    | (intro _ _; subst hA; rfl)
    | fail
theorem k_saveF (x : CkpT) (hr : ¬ ReadyP x) (a b : Nat) (ha1 : 1 ≤ a) (ha3 : a ≤ 3) (hb1 : 1 ≤ b) (hb2 : b ≤ 2) (r2 r3 r4 r5 r6 r7 r8 r9 : DV) :
    MeetsO Tryz.prog 81 [.c (.bp 384 1 0), .agg [.d (eI (a : Int)), .d (eI (b : Int)), .d r2, .d r3, .d r4, .d r5, .d r6, .d r7, .d r8, .d r9]] [(384, 1, .box [.d (eI x.n), .d (eB x.opn), .own 898 0 x.src.n 1, .own 899 0 x.tsk.n 1, .nown 900 x.snaps.n 1, .d (eI x.safe.n), .own 902 0 x.safe.at_.n 1, .nown 903 x.safe.snaps.n 1]), (898, 1, .arr 1 x.src.n fun i => [eI (x.src.g i)]), (899, 1, .arr 1 x.tsk.n fun i => [eB (x.tsk.g i)]), (900, 1, .nest 3 x.snaps.n (fun i => eSnap (x.snaps.g i)) none), (902, 1, .arr 1 x.safe.at_.n fun i => [eI (x.safe.at_.g i)]), (903, 1, .nest 3 x.safe.snaps.n (fun i => eSnap (x.safe.snaps.g i)) none)] (.c (.d (eB false))) [(384, 1, .box [.d (eI x.n), .d (eB x.opn), .own 898 0 x.src.n 1, .own 899 0 x.tsk.n 1, .nown 900 x.snaps.n 1, .d (eI x.safe.n), .own 902 0 x.safe.at_.n 1, .nown 903 x.safe.snaps.n 1]), (898, 1, .arr 1 x.src.n fun i => [eI (x.src.g i)]), (899, 1, .arr 1 x.tsk.n fun i => [eB (x.tsk.g i)]), (900, 1, .nest 3 x.snaps.n (fun i => eSnap (x.snaps.g i)) none), (902, 1, .arr 1 x.safe.at_.n fun i => [eI (x.safe.at_.g i)]), (903, 1, .nest 3 x.safe.snaps.n (fun i => eSnap (x.safe.snaps.g i)) none), (10093, 1, .dead)] := by
  obtain ⟨t, ht, hm⟩ := c_readyD x
  obtain rfl : t = false := (by cases t; rfl; exact absurd (ht.1 rfl) hr)
  refine inl_of (EX := EXSave) ttok mixed Tryz.func81 rfl (by kernel_rfl) (by decide) (by kernel_rfl) rfl rfl ?_
  generalize hA : real = A
  generalize hM : MeetsB Tryz.prog = M9
  cbv
  repeat' first
    | exact absurd (show false = true by subst hA; assumption) (by decide)
    | exact absurd (show true = false by subst hA; assumption) (by decide)
    | apply And.intro
    | exact True.intro
    | with_reducible rfl
    | exact same_of hA rfl
    | refine br_of hA (fun _ => ?_) (fun _ => ?_)
    | exact imp_of hA id
    | (refine imp_of hA ?_; subst hA; simp only [real, Bool.true_and]; exact id)
    | (refine ind_of hA ?_; decide +kernel)
    | (refine call_of2 hA hM _ hm (by subst hA; first | rfl | (simp only [sub0r]; done) | (simp only [sub0r]; rfl)) ?_; cbv)
    | (refine inl_call hA _ _ _ ⟨fun _ => (by rw [← hM]; exact (k_idle2 x a b ha1 ha3 hb1 hb2 r2 r3 r4 r5 r6 r7 r8 r9)), (by cbv; repeat' first | apply And.intro | exact True.intro | rfl | exact .inr trivial | exact .inl trivial), ?_⟩; cbv)
    | (intro _ _; rfl)
    | (subst hA; exact flatR fun _ => flat_int _)
    | (subst hA; rfl)
    | (intro _ _; subst hA; rfl)
    | fail
end Go.Rk
/- Checkpoints: c. -/
namespace Go.Rk
set_option linter.unusedSimpArgs false
set_option linter.unusedVariables false
open Go.Proofs
set_option maxRecDepth 100000
set_option maxHeartbeats 2000000
def EXCCkpSave : FuncId → List Nat × Bool := fun f => bif nbeq f 81 then ([99], false) else ([], false)
theorem c_CkpSave (j : JobT) (x : CkpT) (hb : bdCkp x) (y : CkpT × Bool) (hy : y = saveP j x) : Meets Tryz.prog 26 [xd (eJob j), xd (eCkp x)] ⟨.tup [.agg [.d (eI y.1.n), .d (eB y.1.opn), .own 1 y.1.src.n fun i => [eI (y.1.src.g i)], .own 1 y.1.tsk.n fun i => [eB (y.1.tsk.g i)], .nown 3 y.1.snaps.n fun i => eSnap (y.1.snaps.g i), .d (eI y.1.safe.n), .own 1 y.1.safe.at_.n fun i => [eI (y.1.safe.at_.g i)], .nown 3 y.1.safe.snaps.n fun i => eSnap (y.1.safe.snaps.g i)], .c (.d (eB y.2))], [none, none]⟩ := by
  obtain ⟨t, ht, hm⟩ := c_CkpOk j x
  have hcp := c_CkpCopied x hb
  cases t with
  | false =>
    have hno : ¬ CkpOkP j x := fun h => by have := ht.2 h; cases this
    obtain rfl : y = (zCkp, false) := by rw [hy]; unfold saveP; rw [dif_neg hno]
    refine meets_wk (r := .tup [.agg [.d (eI 0), .d (eB false), .d (.v nilS), .d (.v nilS), .d (.v nilS), .d (eI 0), .d (.v nilS), .d (.v nilS)], .c (.d (eB false))]) ?_ (by repeat' first | exact True.intro | exact rfl | exact DLe.rfl | exact NLe.rfl | exact nle_nil _ _ | apply And.intro | (intro _ _; exact LsLe.rfl) | (intro _ _; exact NsLe.rfl) | exact (flatR fun _ => flatL ⟨⟨_, rfl⟩, ⟨_, rfl⟩, ⟨_, rfl⟩, trivial⟩) | exact (flatR fun _ => ⟨⟨_, rfl⟩, ⟨_, rfl⟩, ⟨_, rfl⟩, trivial⟩) | (intro _ _; exact ⟨NLe.rfl, nle_nil _ _, nle_nil _ _, trivial⟩))
    refine meets_of (H := []) (EX := EXCCkpSave) ttok mixed Tryz.func26 rfl (by kernel_rfl) (by decide) ?_
    generalize hA : real = A
    generalize hM : MeetsB Tryz.prog = M
    cbv
    repeat' first
      | exact absurd (show false = true by subst hA; assumption) (by decide)
      | exact absurd (show true = false by subst hA; assumption) (by decide)
      | apply And.intro
      | exact True.intro
      | with_reducible rfl
      | exact same_of hA rfl
      | refine br_of hA (fun _ => ?_) (fun _ => ?_)
      | exact imp_of hA id
      | (refine imp_of hA ?_; subst hA; simp only [real, Bool.true_and]; exact id)
      | (refine ind_of hA ?_; decide +kernel)
      | (refine call_of hA hM _ hm ?_; cbv)
      | fail
  | true =>
    have hok : CkpOkP j x := ht.1 rfl
    have ea := jobS (ckpJob hok)
    have eb := jobT (ckpJob hok)
    obtain ⟨a, ha⟩ : ∃ a : Nat, a = j.srcs.toNat := ⟨_, rfl⟩
    obtain ⟨b, hbb⟩ : ∃ b : Nat, b = j.tsks.toNat := ⟨_, rfl⟩
    obtain ⟨ha1, ha3, ja⟩ : 1 ≤ a ∧ a ≤ 3 ∧ (a : Int) = j.srcs := by rw [ha]; exact ea
    obtain ⟨hb1, hb2, jb⟩ : 1 ≤ b ∧ b ≤ 2 ∧ (b : Int) = j.tsks := by rw [hbb]; exact eb
    by_cases hr : ReadyP x
    · obtain rfl : y = (⟨x.n, false, ⟨a, fun _ => -1, small_len ha3⟩, ⟨b, fun _ => false, small_len (Nat.le_trans hb2 (by decide))⟩, ⟨b, fun _ => zSnp, small_len (Nat.le_trans hb2 (by decide))⟩, ⟨x.n, x.src, x.snaps⟩⟩, true) := by
        rw [hy]; unfold saveP; rw [dif_pos hok, if_pos hr]; unfold idleP; subst ha hbb; rfl
      obtain ⟨j0, j1, j2, j3, j4, j5, j6, j7, j8, j9⟩ := j
      obtain rfl : (a : Int) = j0 := ja
      obtain rfl : (b : Int) = j1 := jb
      refine meets_wk (r := .tup [.agg [.d (eI x.n), .d (eB false), .own 1 a fun _ => [eI (-1)], .own 1 b fun _ => [eB false], .own 3 b fun _ => [eI 0, .v nilS, .v nilS], .d (eI x.n), .own 1 x.src.n fun i => [eI (x.src.g i)], .nown 3 x.snaps.n fun i => eSnap (x.snaps.g i)], .c (.d (eB true))]) ?_ (by repeat' first | exact True.intro | exact rfl | exact DLe.rfl | exact NLe.rfl | exact nle_nil _ _ | apply And.intro | (intro _ _; exact LsLe.rfl) | (intro _ _; exact NsLe.rfl) | exact (flatR fun _ => flatL ⟨⟨_, rfl⟩, ⟨_, rfl⟩, ⟨_, rfl⟩, trivial⟩) | exact (flatR fun _ => ⟨⟨_, rfl⟩, ⟨_, rfl⟩, ⟨_, rfl⟩, trivial⟩) | (intro _ _; exact ⟨NLe.rfl, nle_nil _ _, nle_nil _ _, trivial⟩))
      refine meets_of (H := []) (EX := EXCCkpSave) ttok mixed Tryz.func26 rfl (by kernel_rfl) (by decide) ?_
      generalize hA : real = A
      generalize hM : MeetsB Tryz.prog = M
      cbv
      repeat' first
        | exact absurd (show false = true by subst hA; assumption) (by decide)
        | exact absurd (show true = false by subst hA; assumption) (by decide)
        | apply And.intro
        | exact True.intro
        | with_reducible rfl
        | exact same_of hA rfl
        | refine br_of hA (fun _ => ?_) (fun _ => ?_)
        | exact imp_of hA id
        | (refine imp_of hA ?_; subst hA; simp only [real, Bool.true_and]; exact id)
        | (refine ind_of hA ?_; decide +kernel)
        | (refine call_of hA hM _ hm ?_; cbv)
        | (refine call_of hA hM _ hcp ?_; cbv)
        | (refine inl_call hA _ _ _ ⟨fun _ => (by rw [← hM]; exact (k_saveT x hr a b ha1 ha3 hb1 hb2 (eI j2) (eI j3) (eI j4) (eI j5) (eI j6) (eB j7) (eI j8) (eI j9))), (by cbv; repeat' first | apply And.intro | exact True.intro | rfl | exact .inr trivial | exact .inl trivial), ?_⟩; cbv)
        | fail
    · obtain rfl : y = (x, false) := by
        rw [hy]; unfold saveP; rw [dif_pos hok, if_neg hr]
      obtain ⟨j0, j1, j2, j3, j4, j5, j6, j7, j8, j9⟩ := j
      obtain rfl : (a : Int) = j0 := ja
      obtain rfl : (b : Int) = j1 := jb
      refine meets_of (H := []) (EX := EXCCkpSave) ttok mixed Tryz.func26 rfl (by kernel_rfl) (by decide) ?_
      generalize hA : real = A
      generalize hM : MeetsB Tryz.prog = M
      cbv
      repeat' first
        | exact absurd (show false = true by subst hA; assumption) (by decide)
        | exact absurd (show true = false by subst hA; assumption) (by decide)
        | apply And.intro
        | exact True.intro
        | with_reducible rfl
        | exact same_of hA rfl
        | refine br_of hA (fun _ => ?_) (fun _ => ?_)
        | exact imp_of hA id
        | (refine imp_of hA ?_; subst hA; simp only [real, Bool.true_and]; exact id)
        | (refine ind_of hA ?_; decide +kernel)
        | (refine call_of hA hM _ hm ?_; cbv)
        | (refine call_of hA hM _ hcp ?_; cbv)
        | (refine inl_call hA _ _ _ ⟨fun _ => (by rw [← hM]; exact (k_saveF x hr a b ha1 ha3 hb1 hb2 (eI j2) (eI j3) (eI j4) (eI j5) (eI j6) (eB j7) (eI j8) (eI j9))), (by cbv; repeat' first | apply And.intro | exact True.intro | rfl | exact .inr trivial | exact .inl trivial), ?_⟩; cbv)
        | fail
end Go.Rk
