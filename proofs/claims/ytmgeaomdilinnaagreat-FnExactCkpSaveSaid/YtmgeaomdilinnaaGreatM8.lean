/- The walk over this seat's functions, part 8: what each of them answers, at all data. -/
import Derived.Test.YtmgeaomdilinnaaGreatM1
import Derived.Test.YtmgeaomdilinnaaGreatM2
import Derived.Test.YtmgeaomdilinnaaGreatM3
import Derived.Test.YtmgeaomdilinnaaGreatM4
import Derived.Test.YtmgeaomdilinnaaGreatM5
import Derived.Test.YtmgeaomdilinnaaGreatM6
import Derived.Test.YtmgeaomdilinnaaGreatM7
import Derived.Test.YtmgeaomdilinnaaGreatRows
import Derived.WalkKit
import Derived.ProofKit
import Derived.OpenShut
import Derived.ShutString
import Derived.ChangeOld
import Derived.SizedLaws
import Derived.DataShut
/- Checkpoints, as said: copy. -/
namespace Go.Rk
set_option linter.unusedSimpArgs false
set_option linter.unusedVariables false
open Go.Proofs
set_option maxRecDepth 100000
set_option maxHeartbeats 2000000
theorem c_sSnap (x : SnapT) (hb : bdSnap x) : Meets Tryz.prog 135 [xd (eSnap x)] ⟨.one (.agg [.d (eI x.op.mark), .own 13 x.op.rows.n fun i => eRow (x.op.rows.g i), .own 1 x.marks.n fun i => [eI (x.marks.g i)]]), [none]⟩ := by
  have hb1 : x.op.rows.n ≤ 1048576 := hb.1
  have hb2 : x.marks.n ≤ 1048576 := hb.2
  refine meets_of (H := []) (EX := EXA) ttok mixed Tryz.func135 rfl (by kernel_rfl) (by decide) ?_
  generalize hA : real = A
  generalize hM : MeetsB Tryz.prog = M
  cbv
  repeat' first
    | apply And.intro
    | exact True.intro
    | with_reducible rfl
    | exact same_of hA rfl
    | refine br_of hA (fun _ => ?_) (fun _ => ?_)
    | exact imp_of hA id
    | (refine imp_of hA ?_; subst hA; simp only [real, Bool.true_and]; exact id)
    | (refine ind_of hA ?_; decide +kernel)
    | (refine call_of2 hA hM _ (c_sCopy x.op.mark x.op.rows.n (Nat.le_trans hb.1 (by decide)) x.op.rows.g) rfl ?_; cbv)
    | exact room_z hA (Nat.le_trans hb2 (by decide)) (by decide)
    | exact room_add2 hA (Nat.le_trans hb2 (by decide)) (by decide)
    | exact room_of2 hA (Nat.le_trans hb2 (by decide)) (by decide)
    | fail
  all_goals (subst hA
             have e0 : ∀ k, real.add 0 k = k := fun k => Nat.zero_add k
             have ea : ∀ (z row : Nat → List DV), real.app 0 z row = row := fun z row => funext fun i => by
               show (if i < 0 then z i else row (i - 0)) = row i
               rw [if_neg (Nat.not_lt_zero i)]; rfl
             simp only [e0, ea]
             first | done | rfl)
def st_sSnaps (n : Nat) (rd : Nat → SnapT) (i : Nat) : St := ⟨[(4, .c (.d (eI i))), (0, .c (.d (.sl 3 n fun i => eSnap (rd i)))), (3, .c (.nown 8000 i 1))], [(8000, 1, .nest 3 i (fun j => eSnap (rd j)) none)]⟩
theorem c_sSnaps (n : Nat) (hn : n ≤ 1048576) (rd : Nat → SnapT) (hb : ∀ i, i < n → bdSnap (rd i)) : Meets Tryz.prog 80 [.c (.d (.sl 3 n fun i => eSnap (rd i)))] ⟨.one (.c (.nown 3 n fun i => eSnap (rd i))), [none]⟩ := by
  have hn2 : n ≤ maxLen := Nat.le_trans hn (by decide)
  refine meets_of (H := []) (EX := EXA) ttok mixed Tryz.func80 rfl (by kernel_rfl) (by decide) ?_
  generalize hA : real = A
  generalize hM : MeetsB Tryz.prog = M
  cbv
  repeat' first
    | apply And.intro
    | exact True.intro
    | with_reducible rfl
    | exact same_of hA rfl
    | refine br_of hA (fun _ => ?_) (fun _ => ?_)
    | exact imp_of hA id
    | (refine imp_of hA ?_; subst hA; simp only [real, Bool.true_and]; exact id)
    | (refine ind_of hA ?_; decide +kernel)
    | fail
  refine loop_of hA (α := { i : Nat // i ≤ n }) (fun x => st_sSnaps n rd x.1) (fun x => n - x.1) ⟨0, Nat.zero_le _⟩ ?_ ?_
  · refine cov_nestOf 3 320 8000 1 (fun j => eSnap (rd j)) rfl rfl rfl rfl (by subst hA; intro i hi; exact absurd hi (Nat.not_lt_zero i)) (fun i hi => absurd hi (Nat.not_lt_zero i)) (cov_of ?_ ?_ ?_)
    · (subst hA; repeat' first | exact True.intro | exact rfl |  apply And.intro | (intro _ _; rfl) | (intro _ _ _; rfl) | exact .inr (le_of_nble rfl) | exact .inl rfl | exact .inr (Nat.le_refl _))
    · (subst hA; repeat' first | exact True.intro | exact rfl |  apply And.intro | (intro _ _; rfl) | (intro _ _ _; rfl) | exact .inr (le_of_nble rfl) | exact .inl rfl | exact .inr (Nat.le_refl _))
    · (subst hA; repeat' first | exact True.intro | exact rfl |  apply And.intro | (intro _ _; rfl) | (intro _ _ _; rfl) | exact .inr (le_of_nble rfl) | exact .inl rfl | exact .inr (Nat.le_refl _))
  rintro ⟨i, hi⟩
  have hi : i ≤ n := hi
  cbv
  repeat' first
    | apply And.intro
    | exact True.intro
    | with_reducible rfl
    | exact same_of hA rfl
    | refine br_of hA (fun _ => ?_) (fun _ => ?_)
    | exact imp_of hA id
    | (refine imp_of hA ?_; subst hA; simp only [real, Bool.true_and]; exact id)
    | (refine ind_of hA ?_; decide +kernel)
    | (refine call_of hA hM _ (c_sSnap (rd (A.nat (Int.ofNat i))) (hb _ (by rename_i hlt; subst hA; simp only [real, decide_eq_true_eq, Int.ofNat_eq_natCast, Int.toNat_natCast] at *; omega))) ?_; cbv)
    | (refine inb_of hA fun _ => ?_; subst hA; simp only [real, decide_eq_true_eq, Int.ofNat_eq_natCast] at *; omega)
    | exact room_add2 hA (by omega) (by decide)
    | exact room_of2 hA (by omega) (by decide)
    | (refine room_add2 hA ?_ (by decide); rename_i hlt; subst hA; simp only [real, decide_eq_true_eq, Int.ofNat_eq_natCast] at hlt; omega)
    | (refine same_of hA ?_; subst hA; rfl)
    | fail
  · rename_i hlt
    have hlt' : i < n := by subst hA; simp only [real, decide_eq_true_eq, Int.ofNat_eq_natCast] at hlt; omega
    refine ⟨⟨i + 1, hlt'⟩, by simp only; omega, cov_close 8000 (fun j => eSnap (rd j)) (eSnap (rd i)) [(17 * 64 + 1, 1), (17 * 64 + 2, 1)] rfl ?_ rfl rfl (fun k _ _ => rfl) (cov_of ?_ ?_ ?_)⟩
    · subst hA; exact (close_v (close_own rfl (fun _ _ => rfl) (flatR fun _ => flat_Row _) (close_own rfl (fun _ _ => rfl) (flatR fun _ => flat_int _) close_end)))
    · (subst hA; repeat' first | exact True.intro | exact rfl | exact congrArg (fun x => DV.v (.int .i64 x)) (up64 hlt' hn2) |  apply And.intro | (intro _ _; rfl) | (intro _ _ _; rfl) | exact .inr (le_of_nble rfl) | exact .inl rfl | exact .inr (Nat.le_refl _))
    · (subst hA; repeat' first | exact True.intro | exact rfl | exact congrArg (fun x => DV.v (.int .i64 x)) (up64 hlt' hn2) |  apply And.intro | (intro _ _; rfl) | (intro _ _ _; rfl) | exact .inr (le_of_nble rfl) | exact .inl rfl | exact .inr (Nat.le_refl _))
    · (subst hA; repeat' first | exact True.intro | exact rfl | exact congrArg (fun x => DV.v (.int .i64 x)) (up64 hlt' hn2) |  apply And.intro | (intro _ _; rfl) | (intro _ _ _; rfl) | exact .inr (le_of_nble rfl) | exact .inl rfl | exact .inr (Nat.le_refl _))
  · rename_i hge
    have hin : i = n := by
      subst hA
      have : ¬ ((i : Int) < (n : Int)) := of_decide_eq_false hge
      omega
    subst hin
    rfl
theorem c_sCkp (x : CkpT) (hb : bdCkp x) : Meets Tryz.prog 57 [xd (eCkp x)] ⟨.one (xd (eCkp x)), [none]⟩ := by
  have b1 : x.src.n ≤ 1048576 := hb.1
  have b2 : x.tsk.n ≤ 1048576 := hb.2.1
  have b3 : x.safe.at_.n ≤ 1048576 := hb.2.2.2.2.1
  have c1 := c_sSnaps x.snaps.n hb.2.2.1 x.snaps.g hb.2.2.2.1
  have c2 := c_sSnaps x.safe.snaps.n hb.2.2.2.2.2.1 x.safe.snaps.g hb.2.2.2.2.2.2
  refine meets_frz (r := .one (.agg [.d (eI x.n), .d (eB x.opn), .own 1 x.src.n fun i => [eI (x.src.g i)], .own 1 x.tsk.n fun i => [eB (x.tsk.g i)], .nown 3 x.snaps.n fun i => eSnap (x.snaps.g i), .d (eI x.safe.n), .own 1 x.safe.at_.n fun i => [eI (x.safe.at_.g i)], .nown 3 x.safe.snaps.n fun i => eSnap (x.safe.snaps.g i)])) ?_ rfl
  refine meets_of (H := []) (EX := EXA) ttok mixed Tryz.func57 rfl (by kernel_rfl) (by decide) ?_
  generalize hA : real = A
  generalize hM : MeetsB Tryz.prog = M
  cbv
  repeat' first
    | apply And.intro
    | exact True.intro
    | with_reducible rfl
    | exact same_of hA rfl
    | refine br_of hA (fun _ => ?_) (fun _ => ?_)
    | exact imp_of hA id
    | (refine imp_of hA ?_; subst hA; simp only [real, Bool.true_and]; exact id)
    | (refine ind_of hA ?_; decide +kernel)
    | (refine call_of hA hM _ c1 ?_; cbv)
    | (refine call_of hA hM _ c2 ?_; cbv)
    | exact room_z hA (Nat.le_trans b1 (by decide)) (by decide)
    | exact room_add2 hA (Nat.le_trans b1 (by decide)) (by decide)
    | exact room_of2 hA (Nat.le_trans b1 (by decide)) (by decide)
    | exact room_z hA (Nat.le_trans b2 (by decide)) (by decide)
    | exact room_add2 hA (Nat.le_trans b2 (by decide)) (by decide)
    | exact room_of2 hA (Nat.le_trans b2 (by decide)) (by decide)
    | exact room_z hA (Nat.le_trans b3 (by decide)) (by decide)
    | exact room_add2 hA (Nat.le_trans b3 (by decide)) (by decide)
    | exact room_of2 hA (Nat.le_trans b3 (by decide)) (by decide)
    | fail
  all_goals (subst hA
             have e0 : ∀ k, real.add 0 k = k := fun k => Nat.zero_add k
             have ea : ∀ (z row : Nat → List DV), real.app 0 z row = row := fun z row => funext fun i => by
               show (if i < 0 then z i else row (i - 0)) = row i
               rw [if_neg (Nat.not_lt_zero i)]; rfl
             simp only [e0, ea]
             first | done | rfl)
end Go.Rk
/- Checkpoints, as said: drop. -/
namespace Go.Rk
set_option linter.unusedSimpArgs false
set_option linter.unusedVariables false
open Go.Proofs
set_option maxRecDepth 100000
set_option maxHeartbeats 2000000
def st_nb1 (a b : Nat) (r2 r3 r4 r5 r6 r7 r8 r9 : DV) (i : Nat) : St := ⟨[(8, .c (.d (eI i))), (1, .c (.bp 64 1 0)), (5, .c (.own 640 0 i 1)), (6, .c (.own 704 0 0 1)), (7, .c (.own 768 0 0 1))], [(64, 1, .box [.d (eI (a : Int)), .d (eI (b : Int)), .d r2, .d r3, .d r4, .d r5, .d r6, .d r7, .d r8, .d r9]), (640, 1, .arr 1 i fun _ => [eI (-1)]), (704, 1, .arr 1 0 fun _ => [eB false]), (768, 1, .arr 3 0 fun _ => [eI 0, .v nilS, .v nilS])]⟩
def st_nb2 (a b : Nat) (r2 r3 r4 r5 r6 r7 r8 r9 : DV) (i : Nat) : St := ⟨[(9, .c (.d (eI i))), (1, .c (.bp 64 1 0)), (5, .c (.own 640 0 a 1)), (6, .c (.own 704 0 i 1)), (7, .c (.own 768 0 i 1))], [(64, 1, .box [.d (eI (a : Int)), .d (eI (b : Int)), .d r2, .d r3, .d r4, .d r5, .d r6, .d r7, .d r8, .d r9]), (640, 1, .arr 1 a fun _ => [eI (-1)]), (704, 1, .arr 1 i fun _ => [eB false]), (768, 1, .arr 3 i fun _ => [eI 0, .v nilS, .v nilS])]⟩
theorem c_nobody (a b : Nat) (ha3 : a ≤ 3) (hb2 : b ≤ 2) (r2 r3 r4 r5 r6 r7 r8 r9 : DV) : Meets Tryz.prog 133 [xd [eI (a : Int), eI (b : Int), r2, r3, r4, r5, r6, r7, r8, r9]] ⟨.tup [.c (.d (.sl 1 a fun _ => [eI (-1)])), .c (.d (.sl 1 b fun _ => [eB false])), .c (.d (.sl 3 b fun _ => eSnap zSnp))], [none]⟩ := by
  refine meets_wk (r := .tup [.c (.d (.sl 1 a fun _ => [eI (-1)])), .c (.d (.sl 1 b fun _ => [eB false])), .c (.d (.sl 3 b fun _ => [eI 0, .v nilS, .v nilS]))]) ?_ (by repeat' first | exact True.intro | exact rfl | exact DLe.rfl | exact dle_nil _ _ | apply And.intro | (intro _ _; exact LsLe.rfl) | (refine dle_sl fun _ _ => ?_; exact ⟨DLe.rfl, dle_nil _ _, dle_nil _ _, trivial⟩))
  refine meets_frz (r := .tup [.c (.own 1 a fun _ => [eI (-1)]), .c (.own 1 b fun _ => [eB false]), .c (.own 3 b fun _ => [eI 0, .v nilS, .v nilS])]) ?_ rfl
  refine meets_of (H := []) (EX := EXA) ttok mixed Tryz.func133 rfl (by kernel_rfl) (by decide) ?_
  generalize hA : real = A
  generalize hM : MeetsB Tryz.prog = M
  cbv
  repeat' first
    | apply And.intro
    | exact True.intro
    | with_reducible rfl
    | exact same_of hA rfl
    | refine br_of hA (fun _ => ?_) (fun _ => ?_)
    | exact imp_of hA id
    | (refine imp_of hA ?_; subst hA; simp only [real, Bool.true_and]; exact id)
    | (refine ind_of hA ?_; decide +kernel)
    | fail
  refine loop_of hA (α := { i : Nat // i ≤ a }) (fun x => st_nb1 a b r2 r3 r4 r5 r6 r7 r8 r9 x.1) (fun x => a - x.1) ⟨0, Nat.zero_le _⟩ ?_ ?_
  · refine cov_of ?_ ?_ ?_
    · (subst hA; repeat' first | exact True.intro | exact rfl | apply And.intro | (intro q hq; exact absurd hq (Nat.not_lt_zero q)) | (intro _ _; rfl) | exact .inr (le_of_nble rfl) | exact .inl rfl)
    · (subst hA; repeat' first | exact True.intro | exact rfl | apply And.intro | (intro q hq; exact absurd hq (Nat.not_lt_zero q)) | (intro _ _; rfl) | exact .inr (le_of_nble rfl) | exact .inl rfl)
    · (subst hA; repeat' first | exact True.intro | exact rfl | apply And.intro | (intro q hq; exact absurd hq (Nat.not_lt_zero q)) | (intro _ _; rfl) | exact .inr (le_of_nble rfl) | exact .inl rfl)
  rintro ⟨i, hi⟩
  have hi : i ≤ a := hi
  have hn3 : a ≤ 3 := by omega
  cbv
  repeat' first
    | apply And.intro
    | exact True.intro
    | with_reducible rfl
    | exact same_of hA rfl
    | refine br_of hA (fun _ => ?_) (fun _ => ?_)
    | exact imp_of hA id
    | (refine imp_of hA ?_; subst hA; simp only [real, Bool.true_and]; exact id)
    | (refine ind_of hA ?_; decide +kernel)
    | exact room_add2 hA (by omega) (by decide)
    | exact room_of2 hA (by omega) (by decide)
    | (refine same_of hA ?_; subst hA; rfl)
    | fail
  · rename_i hlt
    have hlt' : i < a := by subst hA; have h : ((i : Int) < (a : Int)) := of_decide_eq_true hlt; omega
    have hn2 : a ≤ maxLen := Nat.le_trans hn3 (by decide)
    refine ⟨⟨i + 1, hlt'⟩, by simp only; omega, cov_of ?_ ?_ ?_⟩
    · (subst hA; repeat' first | exact True.intro | exact rfl | exact congrArg (fun x => DV.v (.int .i64 x)) (up64 hlt' hn2) | apply And.intro | (intro q hq; have hq : q < i + 1 := hq; exact (push_at rfl i (fun _ => [eI (-1)]) [eI (-1)] _ q hq).trans (ite_self _)) | (intro _ _; rfl) | exact .inr (le_of_nble rfl) | exact .inl rfl)
    · (subst hA; repeat' first | exact True.intro | exact rfl | exact congrArg (fun x => DV.v (.int .i64 x)) (up64 hlt' hn2) | apply And.intro | (intro q hq; have hq : q < i + 1 := hq; exact (push_at rfl i (fun _ => [eI (-1)]) [eI (-1)] _ q hq).trans (ite_self _)) | (intro _ _; rfl) | exact .inr (le_of_nble rfl) | exact .inl rfl)
    · (subst hA; repeat' first | exact True.intro | exact rfl | exact congrArg (fun x => DV.v (.int .i64 x)) (up64 hlt' hn2) | apply And.intro | (intro q hq; have hq : q < i + 1 := hq; exact (push_at rfl i (fun _ => [eI (-1)]) [eI (-1)] _ q hq).trans (ite_self _)) | (intro _ _; rfl) | exact .inr (le_of_nble rfl) | exact .inl rfl)
  · rename_i hge
    have hin : i = a := by
      subst hA
      have : ¬ ((i : Int) < (a : Int)) := of_decide_eq_false hge
      omega
    subst hin
    refine loop_of hA (α := { i2 : Nat // i2 ≤ b }) (fun x => st_nb2 i b r2 r3 r4 r5 r6 r7 r8 r9 x.1) (fun x => b - x.1) ⟨0, Nat.zero_le _⟩ ?_ ?_
    · refine cov_of ?_ ?_ ?_
      · (subst hA; repeat' first | exact True.intro | exact rfl | apply And.intro | (intro q hq; exact absurd hq (Nat.not_lt_zero q)) | (intro _ _; rfl) | exact .inr (le_of_nble rfl) | exact .inl rfl)
      · (subst hA; repeat' first | exact True.intro | exact rfl | apply And.intro | (intro q hq; exact absurd hq (Nat.not_lt_zero q)) | (intro _ _; rfl) | exact .inr (le_of_nble rfl) | exact .inl rfl)
      · (subst hA; repeat' first | exact True.intro | exact rfl | apply And.intro | (intro q hq; exact absurd hq (Nat.not_lt_zero q)) | (intro _ _; rfl) | exact .inr (le_of_nble rfl) | exact .inl rfl)
    rintro ⟨i2, hi⟩
    have hi : i2 ≤ b := hi
    have hn3 : b ≤ 3 := by omega
    cbv
    repeat' first
      | apply And.intro
      | exact True.intro
      | with_reducible rfl
      | exact same_of hA rfl
      | refine br_of hA (fun _ => ?_) (fun _ => ?_)
      | exact imp_of hA id
      | (refine imp_of hA ?_; subst hA; simp only [real, Bool.true_and]; exact id)
      | (refine ind_of hA ?_; decide +kernel)
      | exact room_add2 hA (by omega) (by decide)
      | exact room_of2 hA (by omega) (by decide)
      | (refine same_of hA ?_; subst hA; rfl)
      | fail
    · rename_i hlt
      have hlt' : i2 < b := by subst hA; have h : ((i2 : Int) < (b : Int)) := of_decide_eq_true hlt; omega
      have hn2 : b ≤ maxLen := Nat.le_trans hn3 (by decide)
      refine ⟨⟨i2 + 1, hlt'⟩, by simp only; omega, cov_of ?_ ?_ ?_⟩
      · (subst hA; repeat' first | exact True.intro | exact rfl | exact congrArg (fun x => DV.v (.int .i64 x)) (up64 hlt' hn2) | apply And.intro | (intro q hq; have hq : q < i2 + 1 := hq; exact (push_at rfl i2 (fun _ => [eB false]) [eB false] _ q hq).trans (ite_self _)) | (intro q hq; have hq : q < i2 + 1 := hq; exact (push_at rfl i2 (fun _ => [eI 0, .v nilS, .v nilS]) [eI 0, .v nilS, .v nilS] _ q hq).trans (ite_self _)) | (intro _ _; rfl) | exact .inr (le_of_nble rfl) | exact .inl rfl)
      · (subst hA; repeat' first | exact True.intro | exact rfl | exact congrArg (fun x => DV.v (.int .i64 x)) (up64 hlt' hn2) | apply And.intro | (intro q hq; have hq : q < i2 + 1 := hq; exact (push_at rfl i2 (fun _ => [eB false]) [eB false] _ q hq).trans (ite_self _)) | (intro q hq; have hq : q < i2 + 1 := hq; exact (push_at rfl i2 (fun _ => [eI 0, .v nilS, .v nilS]) [eI 0, .v nilS, .v nilS] _ q hq).trans (ite_self _)) | (intro _ _; rfl) | exact .inr (le_of_nble rfl) | exact .inl rfl)
      · (subst hA; repeat' first | exact True.intro | exact rfl | exact congrArg (fun x => DV.v (.int .i64 x)) (up64 hlt' hn2) | apply And.intro | (intro q hq; have hq : q < i2 + 1 := hq; exact (push_at rfl i2 (fun _ => [eB false]) [eB false] _ q hq).trans (ite_self _)) | (intro q hq; have hq : q < i2 + 1 := hq; exact (push_at rfl i2 (fun _ => [eI 0, .v nilS, .v nilS]) [eI 0, .v nilS, .v nilS] _ q hq).trans (ite_self _)) | (intro _ _; rfl) | exact .inr (le_of_nble rfl) | exact .inl rfl)
    · rename_i hge
      have hin : i2 = b := by
        subst hA
        have : ¬ ((i2 : Int) < (b : Int)) := of_decide_eq_false hge
        omega
      subst hin
      repeat' first
        | apply And.intro
        | exact True.intro
        | with_reducible rfl
        | exact same_of hA rfl
        | refine br_of hA (fun _ => ?_) (fun _ => ?_)
        | exact imp_of hA id
        | (refine imp_of hA ?_; subst hA; simp only [real, Bool.true_and]; exact id)
        | (refine ind_of hA ?_; decide +kernel)
        | (subst hA; rfl)
        | fail
end Go.Rk
/- Checkpoints, as said: spec. -/
namespace Go.Rk
set_option linter.unusedSimpArgs false
set_option linter.unusedVariables false
open Go.Proofs
set_option maxRecDepth 100000
set_option maxHeartbeats 2000000
theorem c_l9Drop (a b : Nat) (ha3 : a ≤ 3) (hb2 : b ≤ 2) (r2 r3 r4 r5 r6 r7 r8 r9 : DV) (x : CkpT) : Meets Tryz.prog 77 [xd [eI (a : Int), eI (b : Int), r2, r3, r4, r5, r6, r7, r8, r9], xd (eCkp x)] ⟨.one (xd (eCkp ⟨x.n, false, ⟨a, fun _ => -1, small_len ha3⟩, ⟨b, fun _ => false, small_len (Nat.le_trans hb2 (by decide))⟩, ⟨b, fun _ => zSnp, small_len (Nat.le_trans hb2 (by decide))⟩, x.safe⟩)), [none, none]⟩ := by
  refine meets_of (H := []) (EX := EXA) ttok mixed Tryz.func77 rfl (by kernel_rfl) (by decide) ?_
  generalize hA : real = A
  generalize hM : MeetsB Tryz.prog = M
  cbv
  repeat' first
    | apply And.intro
    | exact True.intro
    | with_reducible rfl
    | exact same_of hA rfl
    | refine br_of hA (fun _ => ?_) (fun _ => ?_)
    | exact imp_of hA id
    | (refine imp_of hA ?_; subst hA; simp only [real, Bool.true_and]; exact id)
    | (refine ind_of hA ?_; decide +kernel)
    | (refine call_of hA hM _ (c_nobody a b ha3 hb2 r2 r3 r4 r5 r6 r7 r8 r9) ?_; cbv)
    | fail
def EXSCkpSave : FuncId → List Nat × Bool := fun f => bif nbeq f 77 then ([], true) else ([], false)
theorem c_sCkpSave (j : JobT) (x : CkpT) (hb : bdCkp x) (y : CkpT × Bool) (hy : y = saveP j x) : Meets Tryz.prog 25 [xd (eJob j), xd (eCkp x)] ⟨.tup [xd (eCkp y.1), .c (.d (eB y.2))], [none, none]⟩ := by
  obtain ⟨t, ht, hm⟩ := c_sCkpOk j x hb
  have hcp := c_sCkp x hb
  cases t with
  | false =>
    have hno : ¬ CkpOkP j x := fun h => by have := ht.2 h; cases this
    obtain rfl : y = (zCkp, false) := by rw [hy]; unfold saveP; rw [dif_neg hno]
    refine meets_wk (r := .tup [.agg [.d (eI 0), .d (eB false), .d (.v nilS), .d (.v nilS), .d (.v nilS), .d (eI 0), .d (.v nilS), .d (.v nilS)], .c (.d (eB false))]) ?_ (by repeat' first | exact True.intro | exact rfl | exact DLe.rfl | exact dle_nil _ _ | apply And.intro | (intro _ _; exact LsLe.rfl) | (refine dle_sl fun _ _ => ?_; exact ⟨DLe.rfl, dle_nil _ _, dle_nil _ _, trivial⟩))
    refine meets_of (H := []) (EX := EXSCkpSave) ttok mixed Tryz.func25 rfl (by kernel_rfl) (by decide) ?_
    generalize hA : real = A
    generalize hM : MeetsB Tryz.prog = M
    cbv
    repeat' first
      | exact absurd (show false = true by subst hA; assumption) (by decide)
      | exact absurd (show true = false by subst hA; assumption) (by decide)
      | apply And.intro
      | exact True.intro
      | with_reducible rfl
      | exact same_of hA rfl
      | refine br_of hA (fun _ => ?_) (fun _ => ?_)
      | exact imp_of hA id
      | (refine imp_of hA ?_; subst hA; simp only [real, Bool.true_and]; exact id)
      | (refine ind_of hA ?_; decide +kernel)
      | (refine call_of hA hM _ hm ?_; cbv)
      | fail
  | true =>
    have hok : CkpOkP j x := ht.1 rfl
    have hrl := c_l9Ready x (fun i hi => (hok.2.2.2.2.2.2.2.1 i hi).1.1)
    obtain ⟨u, hu, hmr⟩ := hrl
    have hcs := c_sSnaps x.snaps.n hb.2.2.1 x.snaps.g hb.2.2.2.1
    have b1 : x.src.n ≤ 1048576 := hb.1
    have ea := jobS (ckpJob hok)
    have eb := jobT (ckpJob hok)
    obtain ⟨a, ha⟩ : ∃ a : Nat, a = j.srcs.toNat := ⟨_, rfl⟩
    obtain ⟨b, hbb⟩ : ∃ b : Nat, b = j.tsks.toNat := ⟨_, rfl⟩
    obtain ⟨ha1, ha3, ja⟩ : 1 ≤ a ∧ a ≤ 3 ∧ (a : Int) = j.srcs := by rw [ha]; exact ea
    obtain ⟨hb1, hb2, jb⟩ : 1 ≤ b ∧ b ≤ 2 ∧ (b : Int) = j.tsks := by rw [hbb]; exact eb
    cases u with
    | true =>
      have hr : ReadyP x := hu.1 rfl
      obtain rfl : y = (⟨x.n, false, ⟨a, fun _ => -1, small_len ha3⟩, ⟨b, fun _ => false, small_len (Nat.le_trans hb2 (by decide))⟩, ⟨b, fun _ => zSnp, small_len (Nat.le_trans hb2 (by decide))⟩, ⟨x.n, x.src, x.snaps⟩⟩, true) := by
        rw [hy]; unfold saveP; rw [dif_pos hok, if_pos hr]; unfold idleP; subst ha hbb; rfl
      obtain ⟨j0, j1, j2, j3, j4, j5, j6, j7, j8, j9⟩ := j
      obtain rfl : (a : Int) = j0 := ja
      obtain rfl : (b : Int) = j1 := jb
      refine meets_of (H := []) (EX := EXSCkpSave) ttok mixed Tryz.func25 rfl (by kernel_rfl) (by decide) ?_
      generalize hA : real = A
      generalize hM : MeetsB Tryz.prog = M
      cbv
      repeat' first
        | exact absurd (show false = true by subst hA; assumption) (by decide)
        | exact absurd (show true = false by subst hA; assumption) (by decide)
        | apply And.intro
        | exact True.intro
        | with_reducible rfl
        | exact same_of hA rfl
        | refine br_of hA (fun _ => ?_) (fun _ => ?_)
        | exact imp_of hA id
        | (refine imp_of hA ?_; subst hA; simp only [real, Bool.true_and]; exact id)
        | (refine ind_of hA ?_; decide +kernel)
        | (refine call_of hA hM _ hm ?_; cbv)
        | (refine call_of hA hM _ hcp ?_; cbv)
        | (refine call_of hA hM _ hmr ?_; cbv)
        | (refine call_of hA hM _ hcs ?_; cbv)
        | (refine call_of2 hA hM _ (c_l9Drop a b ha3 hb2 (eI j2) (eI j3) (eI j4) (eI j5) (eI j6) (eB j7) (eI j8) (eI j9) ⟨x.n, x.opn, x.src, x.tsk, x.snaps, ⟨x.n, x.src, x.snaps⟩⟩) (by subst hA; have e0 : ∀ k, real.add 0 k = k := fun k => Nat.zero_add k; have ea : ∀ (z row : Nat → List DV), real.app 0 z row = row := fun z row => funext fun i => (by show (if i < 0 then z i else row (i - 0)) = row i; rw [if_neg (Nat.not_lt_zero i)]; rfl); simp only [e0, ea, sub0r]; first | done | rfl) ?_; cbv)
        | exact room_z hA (Nat.le_trans b1 (by decide)) (by decide)
        | exact room_add2 hA (Nat.le_trans b1 (by decide)) (by decide)
        | exact room_of2 hA (Nat.le_trans b1 (by decide)) (by decide)
        | fail
    | false =>
      have hr : ¬ ReadyP x := fun h => by have := hu.2 h; cases this
      obtain rfl : y = (x, false) := by
        rw [hy]; unfold saveP; rw [dif_pos hok, if_neg hr]
      refine meets_of (H := []) (EX := EXSCkpSave) ttok mixed Tryz.func25 rfl (by kernel_rfl) (by decide) ?_
      generalize hA : real = A
      generalize hM : MeetsB Tryz.prog = M
      cbv
      repeat' first
        | exact absurd (show false = true by subst hA; assumption) (by decide)
        | exact absurd (show true = false by subst hA; assumption) (by decide)
        | apply And.intro
        | exact True.intro
        | with_reducible rfl
        | exact same_of hA rfl
        | refine br_of hA (fun _ => ?_) (fun _ => ?_)
        | exact imp_of hA id
        | (refine imp_of hA ?_; subst hA; simp only [real, Bool.true_and]; exact id)
        | (refine ind_of hA ?_; decide +kernel)
        | (refine call_of hA hM _ hm ?_; cbv)
        | (refine call_of hA hM _ hcp ?_; cbv)
        | (refine call_of hA hM _ hmr ?_; cbv)
        | fail
end Go.Rk
/- How long the results are. -/
namespace Go.Rk
set_option linter.unusedSimpArgs false
set_option linter.unusedVariables false
theorem bd_zSnp : bdSnap zSnp := ⟨Nat.zero_le _, Nat.zero_le _⟩
theorem bd_zCkp : bdCkp zCkp := ⟨Nat.zero_le _, Nat.zero_le _, Nat.zero_le _, fun i h => absurd h (Nat.not_lt_zero i), Nat.zero_le _, Nat.zero_le _, fun i h => absurd h (Nat.not_lt_zero i)⟩
theorem tot_zCkp : totCkp zCkp = 0 := rfl
theorem lenS_le {n : Nat} (h : n ≤ 3) (hn : n ≤ maxLen) : lenS ⟨n, fun _ => zSnp, hn⟩ ≤ 3 := by
  have e : ∀ k : Nat, posS (fun _ => lenSnap zSnp) 0 k = (k : Int) := fun k => by
    induction k with
    | zero => rfl
    | succ k ih =>
      show posS (fun _ => lenSnap zSnp) 0 k + 1 = _
      rw [ih]; rfl
  show posS (fun _ => lenSnap zSnp) 0 n ≤ 3
  rw [e]; omega
theorem idle_bd {j : JobT} (h : JobOkP j) {x : CkpT} (hb : bdSafe x.safe) (ht : (x.safe.at_.n : Int) + lenS x.safe.snaps ≤ 27262976) : bdCkp (idleP j h x) ∧ totCkp (idleP j h x) ≤ 40000000 := by
  have e1 := jobS h
  have e2 := jobT h
  have d : (3 : Nat) ≤ 1048576 := by decide
  refine ⟨⟨by show j.srcs.toNat ≤ _; omega, by show j.tsks.toNat ≤ _; omega, by show j.tsks.toNat ≤ _; omega, fun _ _ => bd_zSnp, hb⟩, ?_⟩
  have e3 : lenS (idleP j h x).snaps ≤ 3 := lenS_le (by omega) _
  show (j.srcs.toNat : Int) + (j.tsks.toNat : Int) + lenS (idleP j h x).snaps + (x.safe.at_.n : Int) + lenS x.safe.snaps ≤ _
  omega
theorem save_bd {j : JobT} {x : CkpT} {y : CkpT × Bool} (hb : bdCkp x) (ht : totCkp x ≤ 13631488) (hy : y = saveP j x) : bdCkp y.1 ∧ totCkp y.1 ≤ 40000000 := by
  subst hy
  unfold saveP
  have h3 := lenS_pos x.snaps
  have h5 := lenS_pos x.safe.snaps
  by_cases h : CkpOkP j x
  · rw [dif_pos h]
    by_cases c : ReadyP x
    · rw [if_pos c]
      unfold totCkp at ht
      exact idle_bd (x := ⟨x.n, x.opn, x.src, x.tsk, x.snaps, ⟨x.n, x.src, x.snaps⟩⟩) (ckpJob h) ⟨hb.1, hb.2.2.1, hb.2.2.2.1⟩ (by show (x.src.n : Int) + lenS x.snaps ≤ _; omega)
    · rw [if_neg c]; exact ⟨hb, by show totCkp x ≤ _; omega⟩
  · rw [dif_neg h]; exact ⟨bd_zCkp, by show totCkp zCkp ≤ _; rw [tot_zCkp]; omega⟩
end Go.Rk
/- Marks of nests: kckp2. -/
namespace Go.Rk
set_option linter.unusedSimpArgs false
set_option linter.unusedVariables false
open Go.Proofs
set_option maxRecDepth 100000
set_option maxHeartbeats 2000000
def EXSx2 : FuncId → List Nat × Bool := fun f => bif nbeq f 1 then ([9601], false) else bif nbeq f 69 then ([0], false) else bif nbeq f 70 then ([0], false) else bif nbeq f 71 then ([0], false) else bif nbeq f 72 then ([99], false) else ([], false)
def EXKx2 : FuncId → List Nat × Bool := fun f => bif nbeq f 1 then ([9501], false) else bif nbeq f 69 then ([0], false) else bif nbeq f 70 then ([0], false) else bif nbeq f 71 then ([0], false) else bif nbeq f 72 then ([99], false) else ([], false)
theorem k_marksx2 {s : Int} {x : CkpT} (Q : CkpM s x) (hb : bdCkp x) : MeetsO Tryz.prog 72 [.agg [.d (eI x.safe.n), .own 1926 0 x.safe.at_.n 1, .nown 1927 x.safe.snaps.n 1], .c (.d (eI Q.k3))]
    [(1926, 1, .arr 1 x.safe.at_.n fun i => [eI (x.safe.at_.g i)]), (1927, 1, .nest 3 x.safe.snaps.n (fun i => eSnap (x.safe.snaps.g i)) none)] (.c (.d (eI Q.k5))) [(1926, 1, .arr 1 x.safe.at_.n fun i => [eI (Q.f4 i)]), (1927, 1, .nest 3 x.safe.snaps.n (fun i => eSnap (Q.f5 i)) none), (9729, 1, .dead)] := by
  refine inl_of (EX := EXSx2) ttok mixed Tryz.func72 rfl (by kernel_rfl) (by decide) (by kernel_rfl) rfl rfl ?_
  have c4 := marks_int Q.k3 ⟨Q.b3.1, by have := Q.b3.2; omega⟩ x.safe.at_.n (by have := hb.2.2.2.2.1; omega) x.safe.at_.g Q.k4 Q.hk4 Q.f4 Q.h4
  have c5 := marks_Snap Q.k4 x.safe.snaps.n hb.2.2.2.2.2.1 x.safe.snaps.g hb.2.2.2.2.2.2 Q.p5 Q.r0 Q.r1 Q.r2 Q.k5 Q.hk5 Q.f5 Q.h5
  generalize hA : real = A
  generalize hM : MeetsB Tryz.prog = M9
  cbv
  repeat' first
    | apply And.intro
    | exact True.intro
    | with_reducible rfl
    | exact same_of hA rfl
    | refine br_of hA (fun _ => ?_) (fun _ => ?_)
    | exact imp_of hA id
    | (refine imp_of hA ?_; subst hA; simp only [real, Bool.true_and]; exact id)
    | (refine ind_of hA ?_; decide +kernel)
    | (refine call_of hA hM _ c4 ?_; cbv)
    | (refine call_of hA hM _ c5 ?_; cbv)
    | (intro _ _; rfl)
    | fail
theorem k_markx2 {s : Int} {x : CkpT} (Q : CkpM s x) (hb : bdCkp x) : MeetsO Tryz.prog 21 [.agg [.d (eI x.n), .d (eB x.opn), .own 1922 0 x.src.n 1, .own 1923 0 x.tsk.n 1, .nown 1924 x.snaps.n 1, .d (eI x.safe.n), .own 1926 0 x.safe.at_.n 1, .nown 1927 x.safe.snaps.n 1], .c (.d (eI s))]
    [(1922, 1, .arr 1 x.src.n fun i => [eI (x.src.g i)]), (1923, 1, .arr 1 x.tsk.n fun i => [eB (x.tsk.g i)]), (1924, 1, .nest 3 x.snaps.n (fun i => eSnap (x.snaps.g i)) none), (1926, 1, .arr 1 x.safe.at_.n fun i => [eI (x.safe.at_.g i)]), (1927, 1, .nest 3 x.safe.snaps.n (fun i => eSnap (x.safe.snaps.g i)) none)] (.c (.d (eI Q.k5))) [(1922, 1, .arr 1 x.src.n fun i => [eI (Q.f1 i)]), (1923, 1, .arr 1 x.tsk.n fun i => [eB (Q.f2 i)]), (1924, 1, .nest 3 x.snaps.n (fun i => eSnap (Q.f3 i)) none), (1926, 1, .arr 1 x.safe.at_.n fun i => [eI (Q.f4 i)]), (1927, 1, .nest 3 x.safe.snaps.n (fun i => eSnap (Q.f5 i)) none), (9629, 1, .dead), (9729, 1, .dead)] := by
  refine inl_of (EX := EXKx2) ttok mixed Tryz.func21 rfl (by kernel_rfl) (by decide) (by kernel_rfl) rfl rfl ?_
  have c1 := marks_int s ⟨Q.b0.1, by have := Q.b0.2; omega⟩ x.src.n (by have := hb.1; omega) x.src.g Q.k1 Q.hk1 Q.f1 Q.h1
  have c2 := marks_bool Q.k1 ⟨Q.b1.1, by have := Q.b1.2; omega⟩ x.tsk.n (by have := hb.2.1; omega) x.tsk.g Q.k2 Q.hk2 Q.f2 Q.h2
  have c3 := marks_Snap Q.k2 x.snaps.n hb.2.2.1 x.snaps.g hb.2.2.2.1 Q.p3 Q.q0 Q.q1 Q.q2 Q.k3 Q.hk3 Q.f3 Q.h3
  have c4 := k_marksx2 Q hb
  generalize hA : real = A
  generalize hM : MeetsB Tryz.prog = M9
  cbv
  repeat' first
    | apply And.intro
    | exact True.intro
    | with_reducible rfl
    | exact same_of hA rfl
    | refine br_of hA (fun _ => ?_) (fun _ => ?_)
    | exact imp_of hA id
    | (refine imp_of hA ?_; subst hA; simp only [real, Bool.true_and]; exact id)
    | (refine ind_of hA ?_; decide +kernel)
    | (refine call_of hA hM _ c1 ?_; cbv)
    | (refine call_of hA hM _ c2 ?_; cbv)
    | (refine call_of hA hM _ c3 ?_; cbv)
    | (refine inl_call hA _ _ _ ⟨fun _ => (by rw [← hM]; exact c4), (by cbv; repeat' first | apply And.intro | exact True.intro | rfl | exact .inr trivial | exact .inl trivial), ?_⟩; cbv)
    | (intro _ _; rfl)
    | fail
def EXSg2 : FuncId → List Nat × Bool := fun f => bif nbeq f 1 then ([9801], false) else bif nbeq f 69 then ([0], false) else bif nbeq f 70 then ([0], false) else bif nbeq f 71 then ([0], false) else bif nbeq f 72 then ([99], false) else ([], false)
def EXKg2 : FuncId → List Nat × Bool := fun f => bif nbeq f 1 then ([9701], false) else bif nbeq f 69 then ([0], false) else bif nbeq f 70 then ([0], false) else bif nbeq f 71 then ([0], false) else bif nbeq f 72 then ([99], false) else ([], false)
theorem k_marksg2 {s : Int} {x : CkpT} (Q : CkpM s x) (hb : bdCkp x) : MeetsO Tryz.prog 72 [.agg [.d (eI x.safe.n), .own 2246 0 x.safe.at_.n 1, .nown 2247 x.safe.snaps.n 1], .c (.d (eI Q.k3))]
    [(2246, 1, .arr 1 x.safe.at_.n fun i => [eI (x.safe.at_.g i)]), (2247, 1, .nest 3 x.safe.snaps.n (fun i => eSnap (x.safe.snaps.g i)) none)] (.c (.d (eI Q.k5))) [(2246, 1, .arr 1 x.safe.at_.n fun i => [eI (Q.f4 i)]), (2247, 1, .nest 3 x.safe.snaps.n (fun i => eSnap (Q.f5 i)) none), (9929, 1, .dead)] := by
  refine inl_of (EX := EXSg2) ttok mixed Tryz.func72 rfl (by kernel_rfl) (by decide) (by kernel_rfl) rfl rfl ?_
  have c4 := marks_int Q.k3 ⟨Q.b3.1, by have := Q.b3.2; omega⟩ x.safe.at_.n (by have := hb.2.2.2.2.1; omega) x.safe.at_.g Q.k4 Q.hk4 Q.f4 Q.h4
  have c5 := marks_Snap Q.k4 x.safe.snaps.n hb.2.2.2.2.2.1 x.safe.snaps.g hb.2.2.2.2.2.2 Q.p5 Q.r0 Q.r1 Q.r2 Q.k5 Q.hk5 Q.f5 Q.h5
  generalize hA : real = A
  generalize hM : MeetsB Tryz.prog = M9
  cbv
  repeat' first
    | apply And.intro
    | exact True.intro
    | with_reducible rfl
    | exact same_of hA rfl
    | refine br_of hA (fun _ => ?_) (fun _ => ?_)
    | exact imp_of hA id
    | (refine imp_of hA ?_; subst hA; simp only [real, Bool.true_and]; exact id)
    | (refine ind_of hA ?_; decide +kernel)
    | (refine call_of hA hM _ c4 ?_; cbv)
    | (refine call_of hA hM _ c5 ?_; cbv)
    | (intro _ _; rfl)
    | fail
theorem k_markg2 {s : Int} {x : CkpT} (Q : CkpM s x) (hb : bdCkp x) : MeetsO Tryz.prog 21 [.agg [.d (eI x.n), .d (eB x.opn), .own 2242 0 x.src.n 1, .own 2243 0 x.tsk.n 1, .nown 2244 x.snaps.n 1, .d (eI x.safe.n), .own 2246 0 x.safe.at_.n 1, .nown 2247 x.safe.snaps.n 1], .c (.d (eI s))]
    [(2242, 1, .arr 1 x.src.n fun i => [eI (x.src.g i)]), (2243, 1, .arr 1 x.tsk.n fun i => [eB (x.tsk.g i)]), (2244, 1, .nest 3 x.snaps.n (fun i => eSnap (x.snaps.g i)) none), (2246, 1, .arr 1 x.safe.at_.n fun i => [eI (x.safe.at_.g i)]), (2247, 1, .nest 3 x.safe.snaps.n (fun i => eSnap (x.safe.snaps.g i)) none)] (.c (.d (eI Q.k5))) [(2242, 1, .arr 1 x.src.n fun i => [eI (Q.f1 i)]), (2243, 1, .arr 1 x.tsk.n fun i => [eB (Q.f2 i)]), (2244, 1, .nest 3 x.snaps.n (fun i => eSnap (Q.f3 i)) none), (2246, 1, .arr 1 x.safe.at_.n fun i => [eI (Q.f4 i)]), (2247, 1, .nest 3 x.safe.snaps.n (fun i => eSnap (Q.f5 i)) none), (9829, 1, .dead), (9929, 1, .dead)] := by
  refine inl_of (EX := EXKg2) ttok mixed Tryz.func21 rfl (by kernel_rfl) (by decide) (by kernel_rfl) rfl rfl ?_
  have c1 := marks_int s ⟨Q.b0.1, by have := Q.b0.2; omega⟩ x.src.n (by have := hb.1; omega) x.src.g Q.k1 Q.hk1 Q.f1 Q.h1
  have c2 := marks_bool Q.k1 ⟨Q.b1.1, by have := Q.b1.2; omega⟩ x.tsk.n (by have := hb.2.1; omega) x.tsk.g Q.k2 Q.hk2 Q.f2 Q.h2
  have c3 := marks_Snap Q.k2 x.snaps.n hb.2.2.1 x.snaps.g hb.2.2.2.1 Q.p3 Q.q0 Q.q1 Q.q2 Q.k3 Q.hk3 Q.f3 Q.h3
  have c4 := k_marksg2 Q hb
  generalize hA : real = A
  generalize hM : MeetsB Tryz.prog = M9
  cbv
  repeat' first
    | apply And.intro
    | exact True.intro
    | with_reducible rfl
    | exact same_of hA rfl
    | refine br_of hA (fun _ => ?_) (fun _ => ?_)
    | exact imp_of hA id
    | (refine imp_of hA ?_; subst hA; simp only [real, Bool.true_and]; exact id)
    | (refine ind_of hA ?_; decide +kernel)
    | (refine call_of hA hM _ c1 ?_; cbv)
    | (refine call_of hA hM _ c2 ?_; cbv)
    | (refine call_of hA hM _ c3 ?_; cbv)
    | (refine inl_call hA _ _ _ ⟨fun _ => (by rw [← hM]; exact c4), (by cbv; repeat' first | apply And.intro | exact True.intro | rfl | exact .inr trivial | exact .inl trivial), ?_⟩; cbv)
    | (intro _ _; rfl)
    | fail
end Go.Rk
/- The law, walked. -/
namespace Go.Rk
set_option linter.unusedSimpArgs false
set_option linter.unusedVariables false
open Go.Proofs Go.ChangeShapes Go.WideShapes Go.ChangeAt Go.RowKit
set_option maxRecDepth 100000
set_option maxHeartbeats 4000000
def EXL : FuncId → List Nat × Bool := fun f => bif nbeq f 21 then ([99], false) else bif nbeq f 25 then ([], true) else ([], false)
theorem m_law (j : JobT) (x : CkpT) : Meets Tryz.prog 6 [xd (eJob j), xd (eCkp x)] ⟨.one (.c (.d (eB true))), [none, none]⟩ := by
  obtain ⟨z, hz⟩ : ∃ z : Int, z = szCkp x 1048576 := ⟨_, rfl⟩
  have hc := sz_Ckp x 1048576 (by omega) (by omega) z hz
  have hs := szCkp_spec x (l0 := 1048576) (by omega) (by omega)
  have ht : 0 ≤ szCkp x 1048576 → totCkp x ≤ 13631488 := totCkp_le
  rw [← hz] at hs ht
  obtain ⟨y, hy⟩ : ∃ y, y = saveP j x := ⟨_, rfl⟩
  refine meets_of (H := [2, 6, 12, 16, 24]) (EX := EXL) ttok mixed Tryz.func6 rfl (by kernel_rfl) (by decide) ?_
  generalize hA : real = A
  generalize hM : MeetsB Tryz.prog = M
  cbv
  repeat' first
    | apply And.intro
    | exact True.intro
    | with_reducible rfl
    | exact same_of hA rfl
    | refine br_of hA (fun _ => ?_) (fun _ => ?_)
    | exact imp_of hA id
    | (refine imp_of hA ?_; subst hA; simp only [real, Bool.true_and]; exact id)
    | (refine ind_of hA ?_; decide +kernel)
    | fail
  refine stop_of hA ⟨[(5, .c (.d (eI 1048576))), (2, .c (.bp 128 1 0)), (3, .c (.bp 192 1 0))], [(128, 1, .box [.d (eI j.srcs), .d (eI j.tsks), .d (eI j.kind), .d (eI j.size), .d (eI j.step), .d (eI j.late), .d (eI j.tell), .d (eB j.piece), .d (eI j.least), .d (eI j.room)]), (192, 1, .box ((eCkp x).map .d))]⟩ (cov_of ?_ ?_ ?_) ?_
  · (subst hA; (repeat' first | exact True.intro | exact rfl | apply And.intro | (intro _ _; first | rfl | trivial) | (intro _ _ _; rfl)))
  · (subst hA; (repeat' first | exact True.intro | exact rfl | apply And.intro | (intro _ _; first | rfl | trivial) | (intro _ _ _; rfl)))
  · (subst hA; (repeat' first | exact True.intro | exact rfl | apply And.intro | (intro _ _; first | rfl | trivial) | (intro _ _ _; rfl) | exact .inl rfl | exact .inr (le_of_nble rfl)))
  cbv
  repeat' first
    | apply And.intro
    | exact True.intro
    | with_reducible rfl
    | exact same_of hA rfl
    | refine br_of hA (fun _ => ?_) (fun _ => ?_)
    | exact imp_of hA id
    | (refine imp_of hA ?_; subst hA; simp only [real, Bool.true_and]; exact id)
    | (refine ind_of hA ?_; decide +kernel)
    | (refine call_of hA hM _ hc ?_; cbv)
    | fail
  rename_i hge
  have hz0 : 0 ≤ z := by subst hA; have h : ¬ z < 0 := of_decide_eq_false hge; omega
  have hbd : bdCkp x := hs.2.2 hz0
  have htx := ht hz0
  obtain ⟨hbdy, hty⟩ := save_bd hbd htx hy
  have hI := c_CkpSave j x hbd y hy
  have hS := c_sCkpSave j x hbd y hy
  have hto := to_CkpO x hbd
  obtain ⟨Qx⟩ := ckpM_ex x (by omega)
  obtain ⟨Qy⟩ := ckpM_ex y.1 hty
  have kx := k_markx2 Qx hbd
  have kg := k_markg2 Qy hbdy
  have hh := helds_Ckp Qy hbdy
  have hneg : ∀ {A : Ar} (v : Int), 0 ≤ v → real = A → A.cmp .lss v 0 = true → False := fun v hv hA h => by subst hA; exact absurd (of_decide_eq_true h) (Int.not_lt.2 hv)
  have nx : ∀ {A : Ar}, real = A → A.bite (A.cmp .lss Qx.k5 0) true (A.bnot true) = true → False := fun hA h => by
    subst hA
    have h : (bif decide (Qx.k5 < 0) then true else !true) = true := h
    rw [decide_eq_false (Int.not_lt.2 Qx.b5.1)] at h
    cases h
  have nbt : ∀ {A : Ar}, real = A → A.bite (A.bnot true) true (A.bnot (A.beq y.2 y.2)) = true → False := fun hA h => by
    subst hA
    have h : (bif !true then true else !(y.2 == y.2)) = true := h
    cases e : y.2 <;> rw [e] at h <;> cases h
  have nxt : ∀ {A : Ar}, real = A → A.bite (A.bite (A.cmp .lss Qx.k5 0) true (A.bnot true)) true (A.bnot (A.beq y.2 y.2)) = true → False := fun hA h => by
    subst hA
    have h : (bif (bif decide (Qx.k5 < 0) then true else !true) then true else !(y.2 == y.2)) = true := h
    rw [decide_eq_false (Int.not_lt.2 Qx.b5.1)] at h
    cases e : y.2 <;> rw [e] at h <;> cases h
  repeat' first
    | apply And.intro
    | exact True.intro
    | with_reducible rfl
    | exact same_of hA rfl
    | refine br_of hA (fun _ => ?_) (fun _ => ?_)
    | exact imp_of hA id
    | (refine imp_of hA ?_; subst hA; simp only [real, Bool.true_and]; exact id)
    | (refine ind_of hA ?_; decide +kernel)
    | (refine call_of hA hM _ (to_Job j) ?_; cbv)
    | (refine call_of hA hM _ hto ?_; cbv)
    | (refine call_of2 hA hM _ hS (by (subst hA; first | rfl | (simp only [sub0r]; done) | (simp only [sub0r]; rfl))) ?_; cbv)
    | (subst hA; exact flatR fun _ => flat_int _)
    | (subst hA; exact flatR fun _ => flat_bool _)
    | fail
  refine stop_of hA ⟨[(2, .c (.bp 128 1 0)), (3, .c (.bp 192 1 0)), (6, .c (.bp 384 1 0)), (7, .c (.d (eB y.2)))], [(128, 1, .box [.d (eI j.srcs), .d (eI j.tsks), .d (eI j.kind), .d (eI j.size), .d (eI j.step), .d (eI j.late), .d (eI j.tell), .d (eB j.piece), .d (eI j.least), .d (eI j.room)]), (192, 1, .box ((eCkp x).map .d)), (384, 1, .box ((eCkp y.1).map .d))]⟩ (cov_of ?_ ?_ ?_) ?_
  · (subst hA; (repeat' first | exact True.intro | exact rfl | apply And.intro | (intro _ _; first | rfl | trivial) | (intro _ _ _; rfl)))
  · (subst hA; (repeat' first | exact True.intro | exact rfl | apply And.intro | (intro _ _; first | rfl | trivial) | (intro _ _ _; rfl)))
  · (subst hA; (repeat' first | exact True.intro | exact rfl | apply And.intro | (intro _ _; first | rfl | trivial) | (intro _ _ _; rfl) | exact .inl rfl | exact .inr (le_of_nble rfl)))
  cbv
  repeat' first
    | exact (hneg Qy.k5 Qy.b5.1 hA (by assumption)).elim
    | exact (nx hA (by assumption)).elim
    | exact (nbt hA (by assumption)).elim
    | exact (nxt hA (by assumption)).elim
    | apply And.intro
    | exact True.intro
    | with_reducible rfl
    | exact same_of hA rfl
    | refine br_of hA (fun _ => ?_) (fun _ => ?_)
    | exact imp_of hA id
    | (refine imp_of hA ?_; subst hA; simp only [real, Bool.true_and]; exact id)
    | (refine ind_of hA ?_; decide +kernel)
    | (refine call_of hA hM _ (to_Job j) ?_; cbv)
    | (refine call_of hA hM _ hto ?_; cbv)
    | (subst hA; exact flatR fun _ => flat_int _)
    | (subst hA; exact flatR fun _ => flat_bool _)
    | (refine call_of2 hA hM _ hI (by (subst hA; first | rfl | (simp only [sub0r]; done) | (simp only [sub0r]; rfl))) ?_; cbv)
    | (refine call_of2 hA hM _ (eq_Ckp y.1) (by (subst hA; first | rfl | (simp only [sub0r]; done) | (simp only [sub0r]; rfl))) ?_; cbv)
    | (refine call_of2 hA hM _ (eq_Ckp x) (by (subst hA; first | rfl | (simp only [sub0r]; done) | (simp only [sub0r]; rfl))) ?_; cbv)
    | (exfalso; rename_i h; subst hA; simp [real] at h; done)
    | fail
  refine stop_of hA ⟨[(2, .c (.bp 128 1 0)), (3, .c (.bp 192 1 0)), (6, .c (.bp 384 1 0)), (7, .c (.d (eB y.2))), (8, .c (.bp 512 1 0)), (9, .c (.bp 576 1 0)), (10, .c (.d (eB y.2)))], [(128, 1, .box [.d (eI j.srcs), .d (eI j.tsks), .d (eI j.kind), .d (eI j.size), .d (eI j.step), .d (eI j.late), .d (eI j.tell), .d (eB j.piece), .d (eI j.least), .d (eI j.room)]), (192, 1, .box ((eCkp x).map .d)), (384, 1, .box ((eCkp y.1).map .d)), (512, 1, .box [.d (eI x.n), .d (eB x.opn), .own 1922 0 x.src.n 1, .own 1923 0 x.tsk.n 1, .nown 1924 x.snaps.n 1, .d (eI x.safe.n), .own 1926 0 x.safe.at_.n 1, .nown 1927 x.safe.snaps.n 1]), (1922, 1, .arr 1 x.src.n fun i => [eI (x.src.g i)]), (1923, 1, .arr 1 x.tsk.n fun i => [eB (x.tsk.g i)]), (1924, 1, .nest 3 x.snaps.n (fun i => eSnap (x.snaps.g i)) none), (1926, 1, .arr 1 x.safe.at_.n fun i => [eI (x.safe.at_.g i)]), (1927, 1, .nest 3 x.safe.snaps.n (fun i => eSnap (x.safe.snaps.g i)) none), (576, 1, .box [.d (eI y.1.n), .d (eB y.1.opn), .own 2242 0 y.1.src.n 1, .own 2243 0 y.1.tsk.n 1, .nown 2244 y.1.snaps.n 1, .d (eI y.1.safe.n), .own 2246 0 y.1.safe.at_.n 1, .nown 2247 y.1.safe.snaps.n 1]), (2242, 1, .arr 1 y.1.src.n fun i => [eI (y.1.src.g i)]), (2243, 1, .arr 1 y.1.tsk.n fun i => [eB (y.1.tsk.g i)]), (2244, 1, .nest 3 y.1.snaps.n (fun i => eSnap (y.1.snaps.g i)) none), (2246, 1, .arr 1 y.1.safe.at_.n fun i => [eI (y.1.safe.at_.g i)]), (2247, 1, .nest 3 y.1.safe.snaps.n (fun i => eSnap (y.1.safe.snaps.g i)) none)]⟩ (cov_of ?_ ?_ ?_) ?_
  · (subst hA; (repeat' first | exact True.intro | exact rfl | apply And.intro | (intro _ _; first | rfl | trivial) | (intro _ _ _; rfl)))
  · (subst hA; (repeat' first | exact True.intro | exact rfl | apply And.intro | (intro _ _; first | rfl | trivial) | (intro _ _ _; rfl)))
  · (subst hA; (repeat' first | exact True.intro | exact rfl | apply And.intro | (intro _ _; first | rfl | trivial) | (intro _ _ _; rfl) | exact .inl rfl | exact .inr (le_of_nble rfl)))
  cbv
  repeat' first
    | exact (hneg Qy.k5 Qy.b5.1 hA (by assumption)).elim
    | exact (nx hA (by assumption)).elim
    | exact (nbt hA (by assumption)).elim
    | exact (nxt hA (by assumption)).elim
    | apply And.intro
    | exact True.intro
    | with_reducible rfl
    | exact same_of hA rfl
    | refine br_of hA (fun _ => ?_) (fun _ => ?_)
    | exact imp_of hA id
    | (refine imp_of hA ?_; subst hA; simp only [real, Bool.true_and]; exact id)
    | (refine ind_of hA ?_; decide +kernel)
    | (refine call_of hA hM _ (to_Job j) ?_; cbv)
    | (refine call_of hA hM _ hto ?_; cbv)
    | (subst hA; exact flatR fun _ => flat_int _)
    | (subst hA; exact flatR fun _ => flat_bool _)
    | (refine inl_call hA _ _ _ ⟨fun _ => (by rw [← hM]; exact kx), (by cbv; repeat' first | apply And.intro | exact True.intro | rfl | exact .inr trivial | exact .inl trivial), ?_⟩; cbv)
    | (refine call_of2 hA hM _ (eq_Ckp y.1) (by (subst hA; first | rfl | (simp only [sub0r]; done) | (simp only [sub0r]; rfl))) ?_; cbv)
    | (refine call_of2 hA hM _ (eq_Ckp x) (by (subst hA; first | rfl | (simp only [sub0r]; done) | (simp only [sub0r]; rfl))) ?_; cbv)
    | (exfalso; rename_i h; subst hA; simp [real] at h; done)
    | fail
  refine stop_of hA ⟨[(2, .c (.bp 128 1 0)), (3, .c (.bp 192 1 0)), (6, .c (.bp 384 1 0)), (7, .c (.d (eB y.2))), (9, .c (.bp 576 1 0)), (10, .c (.d (eB y.2)))], [(128, 1, .box [.d (eI j.srcs), .d (eI j.tsks), .d (eI j.kind), .d (eI j.size), .d (eI j.step), .d (eI j.late), .d (eI j.tell), .d (eB j.piece), .d (eI j.least), .d (eI j.room)]), (192, 1, .box ((eCkp x).map .d)), (384, 1, .box ((eCkp y.1).map .d)), (576, 1, .box [.d (eI y.1.n), .d (eB y.1.opn), .own 2242 0 y.1.src.n 1, .own 2243 0 y.1.tsk.n 1, .nown 2244 y.1.snaps.n 1, .d (eI y.1.safe.n), .own 2246 0 y.1.safe.at_.n 1, .nown 2247 y.1.safe.snaps.n 1]), (2242, 1, .arr 1 y.1.src.n fun i => [eI (y.1.src.g i)]), (2243, 1, .arr 1 y.1.tsk.n fun i => [eB (y.1.tsk.g i)]), (2244, 1, .nest 3 y.1.snaps.n (fun i => eSnap (y.1.snaps.g i)) none), (2246, 1, .arr 1 y.1.safe.at_.n fun i => [eI (y.1.safe.at_.g i)]), (2247, 1, .nest 3 y.1.safe.snaps.n (fun i => eSnap (y.1.safe.snaps.g i)) none)]⟩ (cov_of ?_ ?_ ?_) ?_
  · (subst hA; (repeat' first | exact True.intro | exact rfl | apply And.intro | (intro _ _; first | rfl | trivial) | (intro _ _ _; rfl)))
  · (subst hA; (repeat' first | exact True.intro | exact rfl | apply And.intro | (intro _ _; first | rfl | trivial) | (intro _ _ _; rfl)))
  · (subst hA; (repeat' first | exact True.intro | exact rfl | apply And.intro | (intro _ _; first | rfl | trivial) | (intro _ _ _; rfl) | exact .inl rfl | exact .inr (le_of_nble rfl)))
  cbv
  repeat' first
    | exact (hneg Qy.k5 Qy.b5.1 hA (by assumption)).elim
    | exact (nx hA (by assumption)).elim
    | exact (nbt hA (by assumption)).elim
    | exact (nxt hA (by assumption)).elim
    | apply And.intro
    | exact True.intro
    | with_reducible rfl
    | exact same_of hA rfl
    | refine br_of hA (fun _ => ?_) (fun _ => ?_)
    | exact imp_of hA id
    | (refine imp_of hA ?_; subst hA; simp only [real, Bool.true_and]; exact id)
    | (refine ind_of hA ?_; decide +kernel)
    | (refine call_of hA hM _ (to_Job j) ?_; cbv)
    | (refine call_of hA hM _ hto ?_; cbv)
    | (subst hA; exact flatR fun _ => flat_int _)
    | (subst hA; exact flatR fun _ => flat_bool _)
    | (refine inl_call hA _ _ _ ⟨fun _ => (by rw [← hM]; exact kg), (by cbv; repeat' first | apply And.intro | exact True.intro | rfl | exact .inr trivial | exact .inl trivial), ?_⟩; cbv)
    | (refine call_of2 hA hM _ hh (by (subst hA; first | rfl | (simp only [sub0r]; done) | (simp only [sub0r]; rfl))) ?_; cbv)
    | (exfalso; rename_i h; subst hA; simp [real] at h; done)
    | fail
  refine stop_of hA ⟨[(2, .c (.bp 128 1 0)), (3, .c (.bp 192 1 0)), (6, .c (.bp 384 1 0)), (7, .c (.d (eB y.2))), (9, .c (.bp 576 1 0)), (10, .c (.d (eB y.2))), (12, .c (.d (eI Qy.k5)))], [(128, 1, .box [.d (eI j.srcs), .d (eI j.tsks), .d (eI j.kind), .d (eI j.size), .d (eI j.step), .d (eI j.late), .d (eI j.tell), .d (eB j.piece), .d (eI j.least), .d (eI j.room)]), (192, 1, .box ((eCkp x).map .d)), (384, 1, .box ((eCkp y.1).map .d)), (576, 1, .box [.d (eI y.1.n), .d (eB y.1.opn), .own 2242 0 y.1.src.n 1, .own 2243 0 y.1.tsk.n 1, .nown 2244 y.1.snaps.n 1, .d (eI y.1.safe.n), .own 2246 0 y.1.safe.at_.n 1, .nown 2247 y.1.safe.snaps.n 1]), (2242, 1, .arr 1 y.1.src.n fun i => [eI (Qy.f1 i)]), (2243, 1, .arr 1 y.1.tsk.n fun i => [eB (Qy.f2 i)]), (2244, 1, .nest 3 y.1.snaps.n (fun i => eSnap (Qy.f3 i)) none), (2246, 1, .arr 1 y.1.safe.at_.n fun i => [eI (Qy.f4 i)]), (2247, 1, .nest 3 y.1.safe.snaps.n (fun i => eSnap (Qy.f5 i)) none)]⟩ (cov_of ?_ ?_ ?_) ?_
  · (subst hA; (repeat' first | exact True.intro | exact rfl | apply And.intro | (intro _ _; first | rfl | trivial) | (intro _ _ _; rfl)))
  · (subst hA; (repeat' first | exact True.intro | exact rfl | apply And.intro | (intro _ _; first | rfl | trivial) | (intro _ _ _; rfl)))
  · (subst hA; (repeat' first | exact True.intro | exact rfl | apply And.intro | (intro _ _; first | rfl | trivial) | (intro _ _ _; rfl) | exact .inl rfl | exact .inr (le_of_nble rfl)))
  cbv
  repeat' first
    | exact (hneg Qy.k5 Qy.b5.1 hA (by assumption)).elim
    | exact (nx hA (by assumption)).elim
    | exact (nbt hA (by assumption)).elim
    | exact (nxt hA (by assumption)).elim
    | apply And.intro
    | exact True.intro
    | with_reducible rfl
    | exact same_of hA rfl
    | refine br_of hA (fun _ => ?_) (fun _ => ?_)
    | exact imp_of hA id
    | (refine imp_of hA ?_; subst hA; simp only [real, Bool.true_and]; exact id)
    | (refine ind_of hA ?_; decide +kernel)
    | (refine call_of hA hM _ (to_Job j) ?_; cbv)
    | (refine call_of hA hM _ hto ?_; cbv)
    | (subst hA; exact flatR fun _ => flat_int _)
    | (subst hA; exact flatR fun _ => flat_bool _)
    | (refine call_of2 hA hM _ hI (by (subst hA; first | rfl | (simp only [sub0r]; done) | (simp only [sub0r]; rfl))) ?_; cbv)
    | (refine call_of2 hA hM _ (eq_Ckp y.1) (by (subst hA; first | rfl | (simp only [sub0r]; done) | (simp only [sub0r]; rfl))) ?_; cbv)
    | (refine call_of2 hA hM _ (eq_Ckp x) (by (subst hA; first | rfl | (simp only [sub0r]; done) | (simp only [sub0r]; rfl))) ?_; cbv)
    | (refine call_of2 hA hM _ hh (by (subst hA; first | rfl | (simp only [sub0r]; done) | (simp only [sub0r]; rfl))) ?_; cbv)
    | (exfalso; rename_i h; subst hA; simp [real] at h; done)
    | fail
  all_goals trace_state
end Go.Rk
