/- The walk over this seat's functions, part 6: what each of them answers, at all data. -/
import Derived.Test.YtmgeaomdilinnaaM1
import Derived.Test.YtmgeaomdilinnaaM2
import Derived.Test.YtmgeaomdilinnaaM3
import Derived.Test.YtmgeaomdilinnaaM4
import Derived.Test.YtmgeaomdilinnaaM5
import Derived.Test.YtmgeaomdilinnaaRows
import Derived.WalkKit
import Derived.ProofKit
import Derived.OpenShut
import Derived.ShutString
import Derived.ChangeOld
import Derived.SizedLaws
import Derived.DataShut
/- Marks of checkpoints and of tasks, as a whole. -/
namespace Go.Rk
set_option linter.unusedSimpArgs false
set_option linter.unusedVariables false
theorem posS_shift (len : Nat → Int) (s t : Int) : ∀ i, posS len (s + t) i = posS len s i + t
  | 0 => rfl
  | i + 1 => by show posS len (s + t) i + len i = posS len s i + len i + t; rw [posS_shift len s t i]; omega
theorem posS_ge {len : Nat → Int} (h : ∀ i, 0 ≤ len i) (s : Int) (i : Nat) : s ≤ posS len s i := posS_mono (len := len) (s := s) (n := i) (fun i _ => h i) (Nat.zero_le i) (Nat.le_refl i)
theorem lenSnap_pos (x : SnapT) : 0 ≤ lenSnap x := by unfold lenSnap; omega
def lenS (s : Sl SnapT) : Int := posS (fun i => lenSnap (s.g i)) 0 s.n
theorem lenS_pos (s : Sl SnapT) : 0 ≤ lenS s := posS_ge (fun i => lenSnap_pos _) 0 _
/-- How many marks checkpoints take. -/
def totCkp (x : CkpT) : Int := (x.src.n : Int) + (x.tsk.n : Int) + lenS x.snaps + (x.safe.at_.n : Int) + lenS x.safe.snaps
structure CkpM (s : Int) (x : CkpT) where
  f1 : Nat → Int
  f2 : Nat → Bool
  f3 : Nat → SnapT
  f4 : Nat → Int
  f5 : Nat → SnapT
  p3 : Nat → Int
  p5 : Nat → Int
  k1 : Int
  k2 : Int
  k3 : Int
  k4 : Int
  k5 : Int
  h1 : ∀ i, f1 i = mkint (s + 1 * (i : Int))
  hk1 : k1 = s + 1 * (x.src.n : Int)
  h2 : ∀ i, f2 i = mkbool (k1 + 1 * (i : Int))
  hk2 : k2 = k1 + 1 * (x.tsk.n : Int)
  q0 : p3 0 = k2
  q1 : ∀ i, i < x.snaps.n → p3 (i + 1) = p3 i + lenSnap (x.snaps.g i)
  q2 : ∀ i, i ≤ x.snaps.n → 0 ≤ p3 i ∧ p3 i ≤ 50000000
  hk3 : k3 = p3 x.snaps.n
  h3 : ∀ i, f3 i = mkSnap (p3 i) (x.snaps.g i)
  h4 : ∀ i, f4 i = mkint (k3 + 1 * (i : Int))
  hk4 : k4 = k3 + 1 * (x.safe.at_.n : Int)
  r0 : p5 0 = k4
  r1 : ∀ i, i < x.safe.snaps.n → p5 (i + 1) = p5 i + lenSnap (x.safe.snaps.g i)
  r2 : ∀ i, i ≤ x.safe.snaps.n → 0 ≤ p5 i ∧ p5 i ≤ 50000000
  hk5 : k5 = p5 x.safe.snaps.n
  h5 : ∀ i, f5 i = mkSnap (p5 i) (x.safe.snaps.g i)
  b0 : 0 ≤ s ∧ s ≤ 50000000
  b1 : 0 ≤ k1 ∧ k1 ≤ 50000000
  b2 : 0 ≤ k2 ∧ k2 ≤ 50000000
  b3 : 0 ≤ k3 ∧ k3 ≤ 50000000
  b4 : 0 ≤ k4 ∧ k4 ≤ 50000000
  b5 : 0 ≤ k5 ∧ k5 ≤ 50000000
def CkpM.out {s : Int} {x : CkpT} (M : CkpM s x) : CkpT := ⟨x.n, x.opn, ⟨x.src.n, M.f1, x.src.hn⟩, ⟨x.tsk.n, M.f2, x.tsk.hn⟩, ⟨x.snaps.n, M.f3, x.snaps.hn⟩, ⟨x.safe.n, ⟨x.safe.at_.n, M.f4, x.safe.at_.hn⟩, ⟨x.safe.snaps.n, M.f5, x.safe.snaps.hn⟩⟩⟩
theorem ckpM_ex (x : CkpT) (h : totCkp x ≤ 40000000) : Nonempty (CkpM 1 x) := by
  have n3 := lenS_pos x.snaps
  have n5 := lenS_pos x.safe.snaps
  unfold totCkp at h
  have hp : ∀ (s : Sl SnapT) (k : Int), 0 ≤ k → k + lenS s ≤ 50000000 → ∀ i, i ≤ s.n → 0 ≤ posS (fun i => lenSnap (s.g i)) k i ∧ posS (fun i => lenSnap (s.g i)) k i ≤ 50000000 := fun s k h0 h1 i hi => by
    have a := posS_ge (len := fun i => lenSnap (s.g i)) (fun i => lenSnap_pos _) k i
    have b := posS_mono (len := fun i => lenSnap (s.g i)) (s := k) (n := s.n) (fun i _ => lenSnap_pos _) hi (Nat.le_refl _)
    have c := posS_shift (fun i => lenSnap (s.g i)) 0 k s.n
    rw [Int.zero_add] at c
    unfold lenS at h1
    omega
  have e3 : ∀ (s : Sl SnapT) (k : Int), posS (fun i => lenSnap (s.g i)) k s.n = lenS s + k := fun s k => by
    have c := posS_shift (fun i => lenSnap (s.g i)) 0 k s.n
    rw [Int.zero_add] at c
    exact c
  let k1 : Int := 1 + 1 * (x.src.n : Int)
  let k2 : Int := k1 + 1 * (x.tsk.n : Int)
  let k3 : Int := posS (fun i => lenSnap (x.snaps.g i)) k2 x.snaps.n
  let k4 : Int := k3 + 1 * (x.safe.at_.n : Int)
  have h3 : k3 = lenS x.snaps + k2 := e3 _ _
  refine ⟨⟨fun i => mkint (1 + 1 * (i : Int)), fun i => mkbool (k1 + 1 * (i : Int)), fun i => mkSnap (posS (fun i => lenSnap (x.snaps.g i)) k2 i) (x.snaps.g i), fun i => mkint (k3 + 1 * (i : Int)), fun i => mkSnap (posS (fun i => lenSnap (x.safe.snaps.g i)) k4 i) (x.safe.snaps.g i),
    posS (fun i => lenSnap (x.snaps.g i)) k2, posS (fun i => lenSnap (x.safe.snaps.g i)) k4, k1, k2, k3, k4, posS (fun i => lenSnap (x.safe.snaps.g i)) k4 x.safe.snaps.n,
    fun _ => rfl, rfl, fun _ => rfl, rfl, rfl, fun _ _ => rfl, hp _ _ (by omega) (by omega), rfl, fun _ => rfl, fun _ => rfl, rfl, rfl, fun _ _ => rfl, hp _ _ (by omega) (by omega), rfl, fun _ => rfl, by omega, by omega, by omega, by omega, by omega, ?_⟩⟩
  have := e3 x.safe.snaps k4
  omega
end Go.Rk
/- Marks of nests: hsnap. -/
namespace Go.Rk
set_option linter.unusedSimpArgs false
set_option linter.unusedVariables false
open Go.Proofs
set_option maxRecDepth 100000
set_option maxHeartbeats 2000000
def st_hSnap (n : Nat) (GM : Nat → SnapT) (i : Nat) (k : Int) : St := ⟨[(5, .c (.d (eI i))), (1, .c (.d (eI k))), (0, .c (.d (.sl 3 n fun i => eSnap (GM i))))], []⟩
theorem helds_Snap (s : Int) (n : Nat) (hn : n ≤ 1048576) (rd : Nat → SnapT) (hbd : ∀ i, i < n → bdSnap (rd i)) (pos : Nat → Int) (hp0 : pos 0 = s) (hps : ∀ i, i < n → pos (i + 1) = pos i + lenSnap (rd i)) (hpb : ∀ i, i ≤ n → 0 ≤ pos i ∧ pos i ≤ 50000000) (x : Int) (hx : x = pos n) (GM : Nat → SnapT) (hGM : ∀ i, GM i = mkSnap (pos i) (rd i)) :
    Meets Try.prog 71 [.c (.d (.sl 3 n fun i => eSnap (GM i))), .c (.d (eI s))] ⟨.one (.c (.d (eI x))), [none, none]⟩ := by
  have hn2 : n ≤ maxLen := Nat.le_trans hn (by decide)
  refine meets_of (H := [7]) (EX := EXA) ttok mixed Try.func71 rfl (by kernel_rfl) (by decide) ?_
  generalize hA : real = A
  generalize hM : MeetsB Try.prog = M
  cbv
  repeat' first
    | apply And.intro
    | exact True.intro
    | with_reducible rfl
    | exact same_of hA rfl
    | refine br_of hA (fun _ => ?_) (fun _ => ?_)
    | exact imp_of hA id
    | (refine imp_of hA ?_; subst hA; simp only [real, Bool.true_and]; exact id)
    | (refine ind_of hA ?_; decide +kernel)
    | fail
  refine loop_of hA (α := { q : Nat × Int // q.1 ≤ n ∧ q.2 = pos q.1 }) (fun y => st_hSnap n GM y.1.1 y.1.2) (fun y => n - y.1.1) ⟨(0, s), Nat.zero_le _, hp0.symm⟩ ?_ ?_
  · refine cov_of ?_ ?_ ?_
    · (subst hA; repeat' first | exact True.intro | exact rfl |  apply And.intro | (intro _ _; rfl) | (intro _ _ _; rfl) | exact .inr (le_of_nble rfl) | exact .inl rfl | exact .inr (Nat.le_refl _))
    · (subst hA; repeat' first | exact True.intro | exact rfl |  apply And.intro | (intro _ _; rfl) | (intro _ _ _; rfl) | exact .inr (le_of_nble rfl) | exact .inl rfl | exact .inr (Nat.le_refl _))
    · (subst hA; repeat' first | exact True.intro | exact rfl |  apply And.intro | (intro _ _; rfl) | (intro _ _ _; rfl) | exact .inr (le_of_nble rfl) | exact .inl rfl | exact .inr (Nat.le_refl _))
  rintro ⟨⟨i, k⟩, hi, hk⟩
  have hi : i ≤ n := hi
  have hk : k = pos i := hk
  have hkb := hpb i hi
  have hgm := hGM i
  rw [← hk] at hkb hgm
  have hb3 : (maxLen : Nat) = 9223372036854775807 := by decide
  have hnb : ∀ {A : Ar} (v : Int), 0 ≤ v → real = A → A.cmp .lss v 0 = true → False := fun v hv hA h => by subst hA; exact absurd (of_decide_eq_true h) (Int.not_lt.2 hv)
  have hbad0 : ∀ {A : Ar}, real = A → A.cmp .neq (GM (A.nat (Int.ofNat i))).op.mark k = true → False := fun hA h => by
    subst hA
    have h : ((GM i).op.mark != k) = true := h
    rw [hgm] at h
    simp [mkSnap] at h
  have en : (GM i).op.rows.n = (rd i).op.rows.n := by rw [hgm]; rfl
  have em : (GM i).marks.n = (rd i).marks.n := by rw [hgm]; rfl
  obtain ⟨k1, hk1⟩ : ∃ z : Int, z = k + 1 := ⟨_, rfl⟩
  have w1 : IntKind.i64.wrap (k + 1) = k1 := by rw [IntWalk.i64_in _ (by omega)]; omega
  obtain ⟨k2, hk2⟩ : ∃ z : Int, z = k1 + 13 * ((rd i).op.rows.n : Int) := ⟨_, rfl⟩
  obtain ⟨k3, hk3⟩ : ∃ z : Int, z = k2 + 1 * ((rd i).marks.n : Int) := ⟨_, rfl⟩
  have hp2 : 0 ≤ k2 := by omega
  have hp3 : 0 ≤ k3 := by omega
  cbv
  repeat' first
    | exact (hbad0 hA (by assumption)).elim
    | apply And.intro
    | exact True.intro
    | with_reducible rfl
    | exact same_of hA rfl
    | refine br_of hA (fun _ => ?_) (fun _ => ?_)
    | exact imp_of hA id
    | (refine imp_of hA ?_; subst hA; simp only [real, Bool.true_and]; exact id)
    | (refine ind_of hA ?_; decide +kernel)
    | (refine inb_of hA fun _ => ?_; subst hA; simp only [real, decide_eq_true_eq, Int.ofNat_eq_natCast] at *; omega)
    | fail
  · rename_i hlt _
    have hlt' : i < n := by subst hA; simp only [real, decide_eq_true_eq, Int.ofNat_eq_natCast] at hlt; omega
    obtain ⟨hb1, hb2⟩ : (rd i).op.rows.n ≤ 1048576 ∧ (rd i).marks.n ≤ 1048576 := hbd i hlt'
    have hnext := hps i hlt'
    have hkb2 := hpb (i + 1) hlt'
    rw [← hk] at hnext
    have hnext : pos (i + 1) = k + (1 + 13 * ((rd i).op.rows.n : Int) + ((rd i).marks.n : Int)) := hnext
    have hk2 : k2 = k1 + 13 * ((rd i).op.rows.n : Int) := hk2
    have hk3 : k3 = k2 + 1 * ((rd i).marks.n : Int) := hk3
    have m1 := helds_Row k1 (by omega) (GM i).op.rows.n (by rw [en]; omega) k2 (by rw [en]; exact hk2) (GM i).op.rows.g (fun q => by rw [hgm, hk1]; rfl)
    have m2 := helds_int k2 (by omega) (GM i).marks.n (by rw [em]; omega) k3 (by rw [em]; exact hk3) (GM i).marks.g (fun q => by rw [hgm, hk2, hk1]; simp only [mkSnap, mkint, Int.one_mul])
    refine stop_of hA ⟨[(5, .c (.d (eI i))), (1, .c (.d (eI k1))), (0, .c (.d (.sl 3 n fun i => eSnap (GM i))))], []⟩ (cov_of ?_ ?_ ?_) ?_
    · (subst hA; repeat' first | exact True.intro | exact rfl | exact congrArg (fun x => DV.v (.int .i64 x)) w1 |  apply And.intro | (intro _ _; rfl) | (intro _ _ _; rfl) | exact .inr (le_of_nble rfl) | exact .inl rfl | exact .inr (Nat.le_refl _))
    · (subst hA; repeat' first | exact True.intro | exact rfl | exact congrArg (fun x => DV.v (.int .i64 x)) w1 |  apply And.intro | (intro _ _; rfl) | (intro _ _ _; rfl) | exact .inr (le_of_nble rfl) | exact .inl rfl | exact .inr (Nat.le_refl _))
    · (subst hA; repeat' first | exact True.intro | exact rfl | exact congrArg (fun x => DV.v (.int .i64 x)) w1 |  apply And.intro | (intro _ _; rfl) | (intro _ _ _; rfl) | exact .inr (le_of_nble rfl) | exact .inl rfl | exact .inr (Nat.le_refl _))
    cbv
    repeat' first
      | exact (hbad0 hA (by assumption)).elim
      | exact (hnb k2 hp2 hA (by assumption)).elim
      | exact (hnb k3 hp3 hA (by assumption)).elim
      | apply And.intro
      | exact True.intro
      | with_reducible rfl
      | exact same_of hA rfl
      | refine br_of hA (fun _ => ?_) (fun _ => ?_)
      | exact imp_of hA id
      | (refine imp_of hA ?_; subst hA; simp only [real, Bool.true_and]; exact id)
      | (refine ind_of hA ?_; decide +kernel)
      | (refine inb_of hA fun _ => ?_; subst hA; simp only [real, decide_eq_true_eq, Int.ofNat_eq_natCast] at *; omega)
      | (refine call_of2 hA hM _ m1 (by subst hA; rfl) ?_; cbv)
      | (refine call_of2 hA hM _ m2 (by subst hA; rfl) ?_; cbv)
      | fail
    refine ⟨⟨(i + 1, k3), hlt', by (show k3 = pos (i + 1)); omega⟩, by simp only; omega, cov_of ?_ ?_ ?_⟩
    · (subst hA; repeat' first | exact True.intro | exact rfl | exact congrArg (fun x => DV.v (.int .i64 x)) (up64 hlt' hn2) |  apply And.intro | (intro _ _; rfl) | (intro _ _ _; rfl) | exact .inr (le_of_nble rfl) | exact .inl rfl | exact .inr (Nat.le_refl _))
    · (subst hA; repeat' first | exact True.intro | exact rfl | exact congrArg (fun x => DV.v (.int .i64 x)) (up64 hlt' hn2) |  apply And.intro | (intro _ _; rfl) | (intro _ _ _; rfl) | exact .inr (le_of_nble rfl) | exact .inl rfl | exact .inr (Nat.le_refl _))
    · (subst hA; repeat' first | exact True.intro | exact rfl | exact congrArg (fun x => DV.v (.int .i64 x)) (up64 hlt' hn2) |  apply And.intro | (intro _ _; rfl) | (intro _ _ _; rfl) | exact .inr (le_of_nble rfl) | exact .inl rfl | exact .inr (Nat.le_refl _))
  · rename_i hge
    have hin : i = n := by
      subst hA
      have : ¬ ((i : Int) < (n : Int)) := of_decide_eq_false hge
      omega
    subst hin
    exact congrArg (fun x => XA.one (.c (.d (eI x)))) (by rw [hk, hx])
theorem helds_Safe {s : Int} {x : CkpT} (Q : CkpM s x) (hb : bdCkp x) : Meets Try.prog 72 [xd (eSafe Q.out.safe), .c (.d (eI Q.k3))] ⟨.one (.c (.d (eI Q.k5))), [none, none]⟩ := by
  have hnb : ∀ {A : Ar} (v : Int), 0 ≤ v → real = A → A.cmp .lss v 0 = true → False := fun v hv hA h => by subst hA; exact absurd (of_decide_eq_true h) (Int.not_lt.2 hv)
  have c4 := helds_int Q.k3 ⟨Q.b3.1, by have := Q.b3.2; omega⟩ x.safe.at_.n (by have := hb.2.2.2.2.1; omega) Q.k4 Q.hk4 Q.f4 Q.h4
  have c5 := helds_Snap Q.k4 x.safe.snaps.n hb.2.2.2.2.2.1 x.safe.snaps.g hb.2.2.2.2.2.2 Q.p5 Q.r0 Q.r1 Q.r2 Q.k5 Q.hk5 Q.f5 Q.h5
  refine meets_of (H := []) (EX := EXA) ttok mixed Try.func72 rfl (by kernel_rfl) (by decide) ?_
  generalize hA : real = A
  generalize hM : MeetsB Try.prog = M
  cbv
  repeat' first
    | exact (hnb _ Q.b4.1 hA (by assumption)).elim
    | exact (hnb _ Q.b5.1 hA (by assumption)).elim
    | apply And.intro
    | exact True.intro
    | with_reducible rfl
    | exact same_of hA rfl
    | refine br_of hA (fun _ => ?_) (fun _ => ?_)
    | exact imp_of hA id
    | (refine imp_of hA ?_; subst hA; simp only [real, Bool.true_and]; exact id)
    | (refine ind_of hA ?_; decide +kernel)
    | (refine call_of2 hA hM _ c4 (by subst hA; rfl) ?_; cbv)
    | (refine call_of2 hA hM _ c5 (by subst hA; rfl) ?_; cbv)
    | fail
theorem helds_Ckp {s : Int} {x : CkpT} (Q : CkpM s x) (hb : bdCkp x) : Meets Try.prog 30 [xd (eCkp Q.out), .c (.d (eI s))] ⟨.one (.c (.d (eI Q.k5))), [none, none]⟩ := by
  have hnb : ∀ {A : Ar} (v : Int), 0 ≤ v → real = A → A.cmp .lss v 0 = true → False := fun v hv hA h => by subst hA; exact absurd (of_decide_eq_true h) (Int.not_lt.2 hv)
  have c1 := helds_int s ⟨Q.b0.1, by have := Q.b0.2; omega⟩ x.src.n (by have := hb.1; omega) Q.k1 Q.hk1 Q.f1 Q.h1
  have c2 := helds_bool Q.k1 ⟨Q.b1.1, by have := Q.b1.2; omega⟩ x.tsk.n (by have := hb.2.1; omega) Q.k2 Q.hk2 Q.f2 Q.h2
  have c3 := helds_Snap Q.k2 x.snaps.n hb.2.2.1 x.snaps.g hb.2.2.2.1 Q.p3 Q.q0 Q.q1 Q.q2 Q.k3 Q.hk3 Q.f3 Q.h3
  have c4 := helds_Safe Q hb
  refine meets_of (H := []) (EX := EXA) ttok mixed Try.func30 rfl (by kernel_rfl) (by decide) ?_
  generalize hA : real = A
  generalize hM : MeetsB Try.prog = M
  cbv
  repeat' first
    | exact (hnb _ Q.b1.1 hA (by assumption)).elim
    | exact (hnb _ Q.b2.1 hA (by assumption)).elim
    | exact (hnb _ Q.b3.1 hA (by assumption)).elim
    | exact (hnb _ Q.b5.1 hA (by assumption)).elim
    | apply And.intro
    | exact True.intro
    | with_reducible rfl
    | exact same_of hA rfl
    | refine br_of hA (fun _ => ?_) (fun _ => ?_)
    | exact imp_of hA id
    | (refine imp_of hA ?_; subst hA; simp only [real, Bool.true_and]; exact id)
    | (refine ind_of hA ?_; decide +kernel)
    | (refine call_of2 hA hM _ c1 (by subst hA; rfl) ?_; cbv)
    | (refine call_of2 hA hM _ c2 (by subst hA; rfl) ?_; cbv)
    | (refine call_of2 hA hM _ c3 (by subst hA; rfl) ?_; cbv)
    | (refine call_of2 hA hM _ c4 (by subst hA; rfl) ?_; cbv)
    | fail
end Go.Rk
/- Marks of nests: kckpn. -/
namespace Go.Rk
set_option linter.unusedSimpArgs false
set_option linter.unusedVariables false
open Go.Proofs
set_option maxRecDepth 100000
set_option maxHeartbeats 2000000
def EXSn : FuncId → List Nat × Bool := fun f => bif nbeq f 1 then ([9101], false) else bif nbeq f 16 then ([0], false) else bif nbeq f 66 then ([0], false) else bif nbeq f 67 then ([0], false) else bif nbeq f 68 then ([99], false) else ([], false)
def EXKn : FuncId → List Nat × Bool := fun f => bif nbeq f 1 then ([9001], false) else bif nbeq f 16 then ([0], false) else bif nbeq f 66 then ([0], false) else bif nbeq f 67 then ([0], false) else bif nbeq f 68 then ([99], false) else ([], false)
theorem k_marksn {s : Int} {x : CkpT} (Q : CkpM s x) (hb : bdCkp x) : MeetsO Try.prog 68 [.agg [.d (eI x.safe.n), .own 838 0 x.safe.at_.n 1, .nown 839 x.safe.snaps.n 1], .c (.d (eI Q.k3))]
    [(838, 1, .arr 1 x.safe.at_.n fun i => [eI (x.safe.at_.g i)]), (839, 1, .nest 3 x.safe.snaps.n (fun i => eSnap (x.safe.snaps.g i)) none)] (.c (.d (eI Q.k5))) [(838, 1, .arr 1 x.safe.at_.n fun i => [eI (Q.f4 i)]), (839, 1, .nest 3 x.safe.snaps.n (fun i => eSnap (Q.f5 i)) none), (9229, 1, .dead)] := by
  refine inl_of (EX := EXSn) ttok mixed Try.func68 rfl (by kernel_rfl) (by decide) (by kernel_rfl) rfl rfl ?_
  have c4 := marks_int Q.k3 ⟨Q.b3.1, by have := Q.b3.2; omega⟩ x.safe.at_.n (by have := hb.2.2.2.2.1; omega) x.safe.at_.g Q.k4 Q.hk4 Q.f4 Q.h4
  have c5 := marks_Snap Q.k4 x.safe.snaps.n hb.2.2.2.2.2.1 x.safe.snaps.g hb.2.2.2.2.2.2 Q.p5 Q.r0 Q.r1 Q.r2 Q.k5 Q.hk5 Q.f5 Q.h5
  generalize hA : real = A
  generalize hM : MeetsB Try.prog = M9
  cbv
  repeat' first
    | apply And.intro
    | exact True.intro
    | with_reducible rfl
    | exact same_of hA rfl
    | refine br_of hA (fun _ => ?_) (fun _ => ?_)
    | exact imp_of hA id
    | (refine imp_of hA ?_; subst hA; simp only [real, Bool.true_and]; exact id)
    | (refine ind_of hA ?_; decide +kernel)
    | (refine call_of hA hM _ c4 ?_; cbv)
    | (refine call_of hA hM _ c5 ?_; cbv)
    | (intro _ _; rfl)
    | fail
theorem k_markn {s : Int} {x : CkpT} (Q : CkpM s x) (hb : bdCkp x) : MeetsO Try.prog 29 [.agg [.d (eI x.n), .d (eB x.opn), .own 834 0 x.src.n 1, .own 835 0 x.tsk.n 1, .nown 836 x.snaps.n 1, .d (eI x.safe.n), .own 838 0 x.safe.at_.n 1, .nown 839 x.safe.snaps.n 1], .c (.d (eI s))]
    [(834, 1, .arr 1 x.src.n fun i => [eI (x.src.g i)]), (835, 1, .arr 1 x.tsk.n fun i => [eB (x.tsk.g i)]), (836, 1, .nest 3 x.snaps.n (fun i => eSnap (x.snaps.g i)) none), (838, 1, .arr 1 x.safe.at_.n fun i => [eI (x.safe.at_.g i)]), (839, 1, .nest 3 x.safe.snaps.n (fun i => eSnap (x.safe.snaps.g i)) none)] (.c (.d (eI Q.k5))) [(834, 1, .arr 1 x.src.n fun i => [eI (Q.f1 i)]), (835, 1, .arr 1 x.tsk.n fun i => [eB (Q.f2 i)]), (836, 1, .nest 3 x.snaps.n (fun i => eSnap (Q.f3 i)) none), (838, 1, .arr 1 x.safe.at_.n fun i => [eI (Q.f4 i)]), (839, 1, .nest 3 x.safe.snaps.n (fun i => eSnap (Q.f5 i)) none), (9129, 1, .dead), (9229, 1, .dead)] := by
  refine inl_of (EX := EXKn) ttok mixed Try.func29 rfl (by kernel_rfl) (by decide) (by kernel_rfl) rfl rfl ?_
  have c1 := marks_int s ⟨Q.b0.1, by have := Q.b0.2; omega⟩ x.src.n (by have := hb.1; omega) x.src.g Q.k1 Q.hk1 Q.f1 Q.h1
  have c2 := marks_bool Q.k1 ⟨Q.b1.1, by have := Q.b1.2; omega⟩ x.tsk.n (by have := hb.2.1; omega) x.tsk.g Q.k2 Q.hk2 Q.f2 Q.h2
  have c3 := marks_Snap Q.k2 x.snaps.n hb.2.2.1 x.snaps.g hb.2.2.2.1 Q.p3 Q.q0 Q.q1 Q.q2 Q.k3 Q.hk3 Q.f3 Q.h3
  have c4 := k_marksn Q hb
  generalize hA : real = A
  generalize hM : MeetsB Try.prog = M9
  cbv
  repeat' first
    | apply And.intro
    | exact True.intro
    | with_reducible rfl
    | exact same_of hA rfl
    | refine br_of hA (fun _ => ?_) (fun _ => ?_)
    | exact imp_of hA id
    | (refine imp_of hA ?_; subst hA; simp only [real, Bool.true_and]; exact id)
    | (refine ind_of hA ?_; decide +kernel)
    | (refine call_of hA hM _ c1 ?_; cbv)
    | (refine call_of hA hM _ c2 ?_; cbv)
    | (refine call_of hA hM _ c3 ?_; cbv)
    | (refine inl_call hA _ _ _ ⟨fun _ => (by rw [← hM]; exact c4), (by cbv; repeat' first | apply And.intro | exact True.intro | rfl | exact .inr trivial | exact .inl trivial), ?_⟩; cbv)
    | (intro _ _; rfl)
    | fail
end Go.Rk
/- A slice of one number, repeated. -/
namespace Go.Rk
set_option linter.unusedSimpArgs false
set_option linter.unusedVariables false
open Go.Proofs
set_option maxRecDepth 100000
set_option maxHeartbeats 2000000
theorem c_Mul64 (y : Int) (hy : y = 1 ∨ y = 2 ∨ y = 3) : Meets Try.prog 137 [.c (.d (.v (.int .u64 1))), .c (.d (.v (.int .u64 y)))] ⟨.tup [.c (.d (.v (.int .u64 0))), .c (.d (.v (.int .u64 y)))], [none, none]⟩ := by
  refine meets_of (H := []) (EX := EXA) ttok mixed Try.func137 rfl (by kernel_rfl) (by decide) ?_
  generalize hA : real = A
  generalize hM : MeetsB Try.prog = M
  cbv
  repeat' first
    | apply And.intro
    | exact True.intro
    | with_reducible rfl
    | exact same_of hA rfl
    | refine br_of hA (fun _ => ?_) (fun _ => ?_)
    | exact imp_of hA id
    | (refine imp_of hA ?_; subst hA; simp only [real, Bool.true_and]; exact id)
    | (refine ind_of hA ?_; decide +kernel)
    | fail
  all_goals (subst hA; rcases hy with rfl | rfl | rfl <;> rfl)
theorem c_Mul (y : Int) (hy : y = 1 ∨ y = 2 ∨ y = 3) : Meets Try.prog 129 [.c (.d (.v (.int .u64 1))), .c (.d (.v (.int .u64 y)))] ⟨.tup [.c (.d (.v (.int .u64 0))), .c (.d (.v (.int .u64 y)))], [none, none]⟩ := by
  refine meets_of (H := []) (EX := EXA) ttok mixed Try.func129 rfl (by kernel_rfl) (by decide) ?_
  generalize hA : real = A
  generalize hM : MeetsB Try.prog = M
  cbv
  repeat' first
    | exact absurd (show false = true by assumption) (by decide)
    | apply And.intro
    | exact True.intro
    | with_reducible rfl
    | exact same_of hA rfl
    | refine br_of hA (fun _ => ?_) (fun _ => ?_)
    | exact imp_of hA id
    | (refine imp_of hA ?_; subst hA; simp only [real, Bool.true_and]; exact id)
    | (refine ind_of hA ?_; decide +kernel)
    | (refine call_of hA hM _ (c_Mul64 y hy) ?_; cbv)
    | fail
def st_rep (n : Nat) (row : Nat → List DV) (m : Nat) (R : Nat → List DV) : St := ⟨[(8, .c (.d (eI m))), (7, .c (.own 1920 0 n 1))], [(1920, 1, .arr 1 n R)]⟩
theorem c_RepeatM1 (n : Nat) (h1 : 1 ≤ n) (h3 : n ≤ 3) (row : Nat → List DV) (hrow : row 0 = [eI (-1)]) : Meets Try.prog 100 [.c (.d (.sl 1 1 row)), .c (.d (eI n))] ⟨.one (.c (.own 1 n fun _ => [eI (-1)])), [none, none]⟩ := by
  have hy : (n : Int) = 1 ∨ (n : Int) = 2 ∨ (n : Int) = 3 := by omega
  have hw : IntKind.i64.wrap (n : Int) = n := IntWalk.i64_in _ (by omega)
  have hu : IntKind.u64.wrap (n : Int) = n := by rcases hy with h | h | h <;> rw [h] <;> rfl
  have hbad : ∀ {A : Ar}, real = A → A.cmp .lss (n : Int) 0 = true → False := fun hA h => by
    subst hA
    have h : decide ((n : Int) < 0) = true := h
    have := of_decide_eq_true h
    omega
  have hbad2 : ∀ {A : Ar}, real = A → A.bite (A.cmp .gtr 0 0) true (A.cmp .gtr (n : Int) 9223372036854775807) = true → False := fun hA h => by
    subst hA
    have h : (bif decide ((0 : Int) > 0) then true else decide ((n : Int) > 9223372036854775807)) = true := h
    have h : decide ((n : Int) > 9223372036854775807) = true := h
    have := of_decide_eq_true h
    omega
  refine meets_of (H := [7, 10]) (EX := EXA) ttok mixed Try.func100 rfl (by kernel_rfl) (by decide) ?_
  generalize hA : real = A
  generalize hM : MeetsB Try.prog = M
  cbv
  repeat' first
    | exact (hbad hA (by assumption)).elim
    | exact (hbad2 hA (by assumption)).elim
    | apply And.intro
    | exact True.intro
    | with_reducible rfl
    | exact same_of hA rfl
    | refine br_of hA (fun _ => ?_) (fun _ => ?_)
    | exact imp_of hA id
    | (refine imp_of hA ?_; subst hA; simp only [real, Bool.true_and]; exact id)
    | (refine ind_of hA ?_; decide +kernel)
    | (refine call_of2 hA hM _ (c_Mul n hy) (by subst hA; show [XT.c (.d (.v (.int .u64 (IntKind.u64.wrap 1)))), XT.c (.d (.v (.int .u64 (IntKind.u64.wrap (n : Int)))))] = _; rw [hu]; rfl) ?_; cbv)
    | (subst hA; show 0 ≤ IntKind.i64.wrap (n : Int) ∧ IntKind.i64.wrap (n : Int) = IntKind.i64.wrap (n : Int) ∧ IntKind.i64.wrap (n : Int) * 8 ≤ 140737488355328 ∧ IntKind.i64.wrap (n : Int) ≤ 140737488355328; rw [hw]; exact ⟨by omega, rfl, by omega, by omega⟩)
    | fail
  refine stop_of hA ⟨[(0, .c (.d (.sl 1 1 row))), (7, .c (.own 1920 0 n 1))], [(1920, 1, .arr 1 n fun _ => [eI 0])]⟩ (cov_of ?_ ?_ ?_) ?_
  · subst hA
    have e : real.nat (real.wrap .i64 (Int.ofNat n)) = n := by show (IntKind.i64.wrap (n : Int)).toNat = n; rw [hw]; exact Int.toNat_natCast n
    repeat' first | exact True.intro | exact rfl | exact e | apply And.intro
  · subst hA
    have e : real.nat (real.wrap .i64 (Int.ofNat n)) = n := by show (IntKind.i64.wrap (n : Int)).toNat = n; rw [hw]; exact Int.toNat_natCast n
    repeat' first | exact True.intro | exact rfl | exact e | apply And.intro | (intro _ _; rfl)
  · subst hA; repeat' first | exact True.intro | exact rfl | apply And.intro | exact .inr (le_of_nble rfl) | exact .inl rfl
  cbv
  repeat' first
    | apply And.intro
    | exact True.intro
    | with_reducible rfl
    | exact same_of hA rfl
    | refine br_of hA (fun _ => ?_) (fun _ => ?_)
    | exact imp_of hA id
    | (refine imp_of hA ?_; subst hA; simp only [real, Bool.true_and]; exact id)
    | (refine ind_of hA ?_; decide +kernel)
    | fail
  refine loop_of hA (α := { q : Nat × (Nat → List DV) // 1 ≤ q.1 ∧ q.1 ≤ n ∧ ∀ i, i < q.1 → q.2 i = [eI (-1)] }) (fun y => st_rep n row y.1.1 y.1.2) (fun y => n - y.1.1) ⟨(1, fun i => if i < 1 then [eI (-1)] else [eI 0]), Nat.le_refl _, h1, fun i hi => if_pos hi⟩ ?_ ?_
  · have e : real.mn (real.int n) (real.int 1) = 1 := by
      show (if (1 : Int) < (n : Int) then (1 : Int) else (n : Int)) = 1
      split <;> omega
    refine cov_of ?_ ?_ ?_
    · subst hA; repeat' first | exact True.intro | exact rfl | exact congrArg (fun x => DV.v (.int .i64 x)) e | apply And.intro
    · subst hA
      refine ⟨⟨rfl, rfl, fun i hi => ?_⟩, trivial⟩
      show (if i < 0 then [eI 0] else if i - 0 < (real.mn (real.int n) (real.int 1)).toNat then row (i - 0) else [eI 0]) = if i < 1 then [eI (-1)] else [eI 0]
      rw [if_neg (by omega), e]
      by_cases c : i < 1
      · rw [if_pos c, if_pos (by simpa using c), show i - 0 = 0 by omega, hrow]
      · rw [if_neg c, if_neg (by simpa using c)]
    · subst hA; repeat' first | exact True.intro | exact rfl | apply And.intro | exact .inr (le_of_nble rfl) | exact .inl rfl
  rintro ⟨⟨m, R⟩, hm1, hmn, hR⟩
  have hm1 : 1 ≤ m := hm1
  have hmn : m ≤ n := hmn
  have hR : ∀ i, i < m → R i = [eI (-1)] := hR
  cbv
  repeat' first
    | apply And.intro
    | exact True.intro
    | with_reducible rfl
    | exact same_of hA rfl
    | refine br_of hA (fun _ => ?_) (fun _ => ?_)
    | exact imp_of hA id
    | (refine imp_of hA ?_; subst hA; simp only [real, Bool.true_and]; exact id)
    | (refine ind_of hA ?_; decide +kernel)
    | (subst hA; show _ ∧ _; simp only [real]; refine ⟨by omega, by omega, by omega⟩)
    | (subst hA; exact ⟨Int.natCast_nonneg _, Int.ofNat_le.2 hmn, Int.le_refl _⟩)
    | (subst hA; exact ⟨Int.le_refl _, Int.natCast_nonneg _, Int.ofNat_le.2 hmn⟩)
    | fail
  · rename_i hlt
    have hlt' : m < n := by subst hA; have h : ((m : Int) < (n : Int)) := of_decide_eq_true hlt; omega
    obtain ⟨k, hk⟩ : ∃ k : Nat, k = min (n - m) m := ⟨_, rfl⟩
    have e8 : real.mn (real.int (real.dif (real.int n) (Int.ofNat m))) (real.int (real.dif (Int.ofNat m) 0)) = (k : Int) := by
      show (if ((((m : Int) - 0).toNat : Nat) : Int) < ((((n : Int) - (m : Int)).toNat : Nat) : Int) then ((((m : Int) - 0).toNat : Nat) : Int) else ((((n : Int) - (m : Int)).toNat : Nat) : Int)) = _
      rw [hk]; split <;> omega
    have hkp : 1 ≤ k ∧ m + k ≤ n ∧ k ≤ m := by rw [hk]; omega
    have e9 : real.ar .add .i64 (Int.ofNat m) (real.mn (real.int (real.dif (real.int n) (Int.ofNat m))) (real.int (real.dif (Int.ofNat m) 0))) = ((m + k : Nat) : Int) := by
      rw [e8]
      show IntKind.i64.wrap ((m : Int) + (k : Int)) = _
      rw [IntWalk.i64_in _ (by omega)]; omega
    refine ⟨⟨(m + k, fun i => if i < m then R i else if i - m < k then R (i - m) else R i), by simp only; omega, by simp only; omega, fun i hi => ?_⟩, by simp only; omega, cov_of ?_ ?_ ?_⟩
    · simp only at hi ⊢
      by_cases c : i < m
      · rw [if_pos c]; exact hR i c
      · rw [if_neg c, if_pos (by omega)]; exact hR _ (by omega)
    · subst hA; repeat' first | exact True.intro | exact rfl | exact congrArg (fun x => DV.v (.int .i64 x)) e9 | apply And.intro
    · subst hA
      refine ⟨⟨rfl, rfl, fun i hi => ?_⟩, trivial⟩
      show (if i < 0 + m then R i else if i - (0 + m) < (real.mn (real.int (real.dif (real.int n) (Int.ofNat m))) (real.int (real.dif (Int.ofNat m) 0))).toNat then R (0 + 0 + (i - (0 + m))) else R (0 + m + (real.mn (real.int (real.dif (real.int n) (Int.ofNat m))) (real.int (real.dif (Int.ofNat m) 0))).toNat + (i - (0 + m) - (real.mn (real.int (real.dif (real.int n) (Int.ofNat m))) (real.int (real.dif (Int.ofNat m) 0))).toNat))) = if i < m then R i else if i - m < k then R (i - m) else R i
      rw [e8, Int.toNat_natCast, Nat.zero_add]
      by_cases c : i < m
      · rw [if_pos c, if_pos c]
      · rw [if_neg c, if_neg c]
        by_cases c2 : i - m < k
        · rw [if_pos c2, if_pos c2]; congr 1; omega
        · rw [if_neg c2, if_neg c2]; congr 1; omega
    · subst hA; repeat' first | exact True.intro | exact rfl | apply And.intro | exact .inr (le_of_nble rfl) | exact .inl rfl
  · rename_i hge
    have hin : m = n := by
      subst hA
      have : ¬ ((m : Int) < (n : Int)) := of_decide_eq_false hge
      omega
    subst hin
    refine stop_of hA ⟨[(7, .c (.own 1920 0 m 1))], [(1920, 1, .arr 1 m fun _ => [eI (-1)])]⟩ (cov_of ?_ ?_ ?_) ?_
    · subst hA; repeat' first | exact True.intro | exact rfl | apply And.intro
    · subst hA; exact ⟨⟨rfl, rfl, fun i hi => hR i hi⟩, trivial⟩
    · subst hA; repeat' first | exact True.intro | exact rfl | apply And.intro | exact .inr (le_of_nble rfl) | exact .inl rfl
    cbv
    repeat' first
      | apply And.intro
      | exact True.intro
      | with_reducible rfl
      | exact same_of hA rfl
      | refine br_of hA (fun _ => ?_) (fun _ => ?_)
      | exact imp_of hA id
      | (refine imp_of hA ?_; subst hA; simp only [real, Bool.true_and]; exact id)
      | (refine ind_of hA ?_; decide +kernel)
      | fail
end Go.Rk
/- What asking, saving and giving up come to, in plain words. -/
namespace Go.Rk
set_option linter.unusedSimpArgs false
set_option linter.unusedVariables false
def zSlI : Sl Int := ⟨0, fun _ => 0, Nat.zero_le _⟩
def zSlB : Sl Bool := ⟨0, fun _ => false, Nat.zero_le _⟩
def zRw : RowT := ⟨0, ⟨0, 0⟩, ⟨0, 0, 0, 0⟩, ⟨0, 0, 0, 0⟩, 0, false⟩
def zSlR : Sl RowT := ⟨0, fun _ => zRw, Nat.zero_le _⟩
def zSnp : SnapT := ⟨⟨0, zSlR⟩, zSlI⟩
def zSlS : Sl SnapT := ⟨0, fun _ => zSnp, Nat.zero_le _⟩
def zCkp : CkpT := ⟨0, false, zSlI, zSlB, zSlS, ⟨0, zSlI, zSlS⟩⟩
theorem jobS {j : JobT} (h : JobOkP j) : 1 ≤ j.srcs.toNat ∧ j.srcs.toNat ≤ 3 ∧ (j.srcs.toNat : Int) = j.srcs := by unfold JobOkP at h; omega
theorem jobT {j : JobT} (h : JobOkP j) : 1 ≤ j.tsks.toNat ∧ j.tsks.toNat ≤ 2 ∧ (j.tsks.toNat : Int) = j.tsks := by unfold JobOkP at h; omega
theorem small_len {n : Nat} (h : n ≤ 3) : n ≤ maxLen := Nat.le_trans h (by decide)
def asks (x : CkpT) : CkpT := bif (!x.opn && decide (x.n < 900)) then ⟨x.n + 1, true, x.src, x.tsk, x.snaps, x.safe⟩ else x
end Go.Rk
/- How long the results are. -/
namespace Go.Rk
set_option linter.unusedSimpArgs false
set_option linter.unusedVariables false
theorem bd_zSnp : bdSnap zSnp := ⟨Nat.zero_le _, Nat.zero_le _⟩
theorem bd_zCkp : bdCkp zCkp := ⟨Nat.zero_le _, Nat.zero_le _, Nat.zero_le _, fun i h => absurd h (Nat.not_lt_zero i), Nat.zero_le _, Nat.zero_le _, fun i h => absurd h (Nat.not_lt_zero i)⟩
theorem tot_zCkp : totCkp zCkp = 0 := rfl
theorem lenS_le {n : Nat} (h : n ≤ 3) (hn : n ≤ maxLen) : lenS ⟨n, fun _ => zSnp, hn⟩ ≤ 3 := by
  have e : ∀ k : Nat, posS (fun _ => lenSnap zSnp) 0 k = (k : Int) := fun k => by
    induction k with
    | zero => rfl
    | succ k ih =>
      show posS (fun _ => lenSnap zSnp) 0 k + 1 = _
      rw [ih]; rfl
  show posS (fun _ => lenSnap zSnp) 0 n ≤ 3
  rw [e]; omega
end Go.Rk
/- What a new checkpoint is, in plain words. -/
namespace Go.Rk
set_option linter.unusedSimpArgs false
set_option linter.unusedVariables false
def nSnp (a : Nat) (ha : a ≤ 3) : SnapT := ⟨⟨0, zSlR⟩, ⟨a, fun _ => 0, small_len ha⟩⟩
def newC (a b : Nat) (ha : a ≤ 3) (hb : b ≤ 2) : CkpT :=
  ⟨0, false, ⟨a, fun _ => -1, small_len ha⟩, ⟨b, fun _ => false, small_len (Nat.le_trans hb (by decide))⟩, ⟨b, fun _ => zSnp, small_len (Nat.le_trans hb (by decide))⟩, ⟨0, ⟨a, fun _ => 0, small_len ha⟩, ⟨b, fun _ => nSnp a ha, small_len (Nat.le_trans hb (by decide))⟩⟩⟩
open Classical in
noncomputable def newP (j : JobT) : CkpT := if h : JobOkP j then newC j.srcs.toNat j.tsks.toNat (jobS h).2.1 (jobT h).2.1 else zCkp
theorem lenN_le {a n : Nat} (ha : a ≤ 3) (h : n ≤ 3) (hn : n ≤ maxLen) : lenS ⟨n, fun _ => nSnp a ha, hn⟩ ≤ 12 := by
  have e : ∀ k : Nat, posS (fun _ => lenSnap (nSnp a ha)) 0 k = (k : Int) * (1 + (a : Int)) := fun k => by
    induction k with
    | zero => show (0 : Int) = _; rw [show ((0 : Nat) : Int) = 0 from rfl, Int.zero_mul]
    | succ k ih =>
      show posS (fun _ => lenSnap (nSnp a ha)) 0 k + lenSnap (nSnp a ha) = _
      rw [ih, show lenSnap (nSnp a ha) = 1 + (a : Int) from by unfold lenSnap nSnp zSlR; show 1 + 13 * 0 + (a : Int) = _; omega, show ((k + 1 : Nat) : Int) = (k : Int) + 1 from rfl, Int.add_mul, Int.one_mul]
  show posS (fun _ => lenSnap (nSnp a ha)) 0 n ≤ 12
  rw [e]
  have h1 : (n : Int) * (1 + (a : Int)) ≤ 3 * 4 := by
    have : n = 0 ∨ n = 1 ∨ n = 2 ∨ n = 3 := by omega
    rcases this with rfl | rfl | rfl | rfl <;> omega
  omega
theorem newC_bd {a b : Nat} (ha : a ≤ 3) (hb : b ≤ 2) : bdCkp (newC a b ha hb) ∧ totCkp (newC a b ha hb) ≤ 40000000 := by
  have d : (3 : Nat) ≤ 1048576 := by decide
  refine ⟨⟨by show a ≤ _; omega, by show b ≤ _; omega, by show b ≤ _; omega, fun _ _ => bd_zSnp, ⟨by show a ≤ _; omega, by show b ≤ _; omega, fun i _ => ⟨Nat.zero_le _, by show a ≤ _; omega⟩⟩⟩, ?_⟩
  have e3 : lenS (newC a b ha hb).snaps ≤ 3 := lenS_le (by omega) _
  have e4 : lenS (newC a b ha hb).safe.snaps ≤ 12 := lenN_le _ (by omega) _
  show (a : Int) + (b : Int) + lenS (newC a b ha hb).snaps + (a : Int) + lenS (newC a b ha hb).safe.snaps ≤ _
  omega
theorem new_bd {j : JobT} {y : CkpT} (hy : y = newP j) : bdCkp y ∧ totCkp y ≤ 40000000 := by
  subst hy
  unfold newP
  by_cases h : JobOkP j
  · rw [dif_pos h]; exact newC_bd _ _
  · rw [dif_neg h]; exact ⟨bd_zCkp, by rw [tot_zCkp]; omega⟩
end Go.Rk
/- Checkpoints: new. -/
namespace Go.Rk
set_option linter.unusedSimpArgs false
set_option linter.unusedVariables false
open Go.Proofs
set_option maxRecDepth 100000
set_option maxHeartbeats 2000000
def EXIdleN : FuncId → List Nat × Bool := fun f => bif nbeq f 1 then ([9801], false) else  ([], false)
theorem k_idleN  (a b : Nat) (ha1 : 1 ≤ a) (ha3 : a ≤ 3) (hb1 : 1 ≤ b) (hb2 : b ≤ 2) (r2 r3 r4 r5 r6 r7 r8 r9 : DV) :
    MeetsO Try.prog 51 [.c (.bp 192 1 0), .agg [.d (eI (a : Int)), .d (eI (b : Int)), .d r2, .d r3, .d r4, .d r5, .d r6, .d r7, .d r8, .d r9]] [(192, 1, .box [.d (eI 0), .d (eB false), .d (.v nilS), .d (.v nilS), .d (.v nilS), .d (eI 0), .own 640 0 a 1, .d (.v nilS)]), (640, 1, .arr 1 a fun _ => [eI 0])] (.tup []) [(192, 1, .box [.d (eI 0), .d (eB false), .own 10633 0 a 1, .own 10825 0 b 1, .own 11017 0 b 1, .d (eI 0), .own 640 0 a 1, .d (.v nilS)]), (640, 1, .arr 1 a fun _ => [eI 0]), (10633, 1, .arr 1 a fun _ => [eI (-1)]), (10825, 1, .arr 1 b fun _ => [eB false]), (11017, 1, .arr 3 b fun _ => [eI 0, .v nilS, .v nilS]), (9993, 1, .dead), (10441, 1, .dead)] := by
  refine inl_of (EX := EXIdleN) ttok mixed Try.func51 rfl (by kernel_rfl) (by decide) (by kernel_rfl) rfl rfl ?_
  generalize hA : real = A
  generalize hM : MeetsB Try.prog = M9
  cbv
  repeat' first
    | apply And.intro
    | exact True.intro
    | with_reducible rfl
    | exact same_of hA rfl
    | refine br_of hA (fun _ => ?_) (fun _ => ?_)
    | exact imp_of hA id
    | (refine imp_of hA ?_; subst hA; simp only [real, Bool.true_and]; exact id)
    | (refine ind_of hA ?_; decide +kernel)
    | (intro _ _; rfl)
    | (refine call_of2 hA hM _ (c_RepeatM1 a ha1 ha3 _ rfl) (by subst hA; rfl) ?_; cbv)
    | (subst hA; show 0 ≤ (b : Int) ∧ (b : Int) = (b : Int) ∧ (b : Int) * _ ≤ 140737488355328 ∧ (b : Int) ≤ 140737488355328; refine ⟨by omega, rfl, by omega, by omega⟩)
    | (subst hA; exact flatR fun _ => flat_int _)
    | (subst hA; rfl)
    | (intro _ _; subst hA; rfl)
    | fail
def EXNew : FuncId → List Nat × Bool := fun f => bif nbeq f 51 then ([99], false) else ([], false)
def st_new (a b : Nat) (ha : a ≤ 3) (r2 r3 r4 r5 r6 r7 r8 r9 : DV) (i : Nat) : St := ⟨[(17, .c (.d (eI i))), (16, .c (.d (eI b))), (1, .c (.bp 64 1 0)), (2, .c (.bp 128 1 0)), (3, .c (.bp 192 1 0))], [(64, 1, .box [.d (eI (a : Int)), .d (eI (b : Int)), .d r2, .d r3, .d r4, .d r5, .d r6, .d r7, .d r8, .d r9]), (128, 1, .box [.d (eI 0), .d (eB false), .d (.v nilS), .d (.v nilS), .d (.v nilS), .d (eI 0), .d (.v nilS), .d (.v nilS)]), (192, 1, .box [.d (eI 0), .d (eB false), .own 10633 0 a 1, .own 10825 0 b 1, .own 11017 0 b 1, .d (eI 0), .own 640 0 a 1, .nown 8000 i 1]), (10633, 1, .arr 1 a fun _ => [eI (-1)]), (10825, 1, .arr 1 b fun _ => [eB false]), (11017, 1, .arr 3 b fun _ => [eI 0, .v nilS, .v nilS]), (640, 1, .arr 1 a fun _ => [eI 0]), (8000, 1, .nest 3 i (fun _ => eSnap (nSnp a ha)) none)]⟩
theorem c_CkpNew (j : JobT) (y : CkpT) (hy : y = newP j) : Meets Try.prog 20 [xd (eJob j)] ⟨.one (.agg [.d (eI y.n), .d (eB y.opn), .own 1 y.src.n fun i => [eI (y.src.g i)], .own 1 y.tsk.n fun i => [eB (y.tsk.g i)], .nown 3 y.snaps.n fun i => eSnap (y.snaps.g i), .d (eI y.safe.n), .own 1 y.safe.at_.n fun i => [eI (y.safe.at_.g i)], .nown 3 y.safe.snaps.n fun i => eSnap (y.safe.snaps.g i)]), [none]⟩ := by
  obtain ⟨t, ht, hm⟩ := c_JobOkP j
  cases t with
  | false =>
    have hno : ¬ JobOkP j := fun h => by have := ht.2 h; cases this
    obtain rfl : y = zCkp := by rw [hy]; unfold newP; rw [dif_neg hno]
    refine meets_wk (r := .one (.agg [.d (eI 0), .d (eB false), .d (.v nilS), .d (.v nilS), .d (.v nilS), .d (eI 0), .d (.v nilS), .d (.v nilS)])) ?_ (by repeat' first | exact True.intro | exact rfl | exact DLe.rfl | exact NLe.rfl | exact nle_nil _ _ | apply And.intro | (intro _ _; exact LsLe.rfl) | (intro _ _; exact NsLe.rfl) | exact (flatR fun _ => flatL ⟨⟨_, rfl⟩, ⟨_, rfl⟩, ⟨_, rfl⟩, trivial⟩) | exact (flatR fun _ => ⟨⟨_, rfl⟩, ⟨_, rfl⟩, ⟨_, rfl⟩, trivial⟩) | (intro _ _; exact ⟨NLe.rfl, nle_nil _ _, nle_nil _ _, trivial⟩))
    refine meets_of (H := [4]) (EX := EXNew) ttok mixed Try.func20 rfl (by kernel_rfl) (by decide) ?_
    generalize hA : real = A
    generalize hM : MeetsB Try.prog = M
    cbv
    repeat' first
      | exact absurd (show false = true by subst hA; assumption) (by decide)
      | exact absurd (show true = false by subst hA; assumption) (by decide)
      | apply And.intro
      | exact True.intro
      | with_reducible rfl
      | exact same_of hA rfl
      | refine br_of hA (fun _ => ?_) (fun _ => ?_)
      | exact imp_of hA id
      | (refine imp_of hA ?_; subst hA; simp only [real, Bool.true_and]; exact id)
      | (refine ind_of hA ?_; decide +kernel)
      | (refine call_of hA hM _ hm ?_; cbv)
      | fail
  | true =>
    have hok : JobOkP j := ht.1 rfl
    have ea := jobS hok
    have eb := jobT hok
    obtain ⟨a, ha⟩ : ∃ a : Nat, a = j.srcs.toNat := ⟨_, rfl⟩
    obtain ⟨b, hbb⟩ : ∃ b : Nat, b = j.tsks.toNat := ⟨_, rfl⟩
    obtain ⟨ha1, ha3, ja⟩ : 1 ≤ a ∧ a ≤ 3 ∧ (a : Int) = j.srcs := by rw [ha]; exact ea
    obtain ⟨hb1, hb2, jb⟩ : 1 ≤ b ∧ b ≤ 2 ∧ (b : Int) = j.tsks := by rw [hbb]; exact eb
    obtain rfl : y = newC a b ha3 hb2 := by
      rw [hy]; unfold newP; rw [dif_pos hok]; subst ha hbb; rfl
    clear hy
    obtain ⟨j0, j1, j2, j3, j4, j5, j6, j7, j8, j9⟩ := j
    obtain rfl : (a : Int) = j0 := ja
    obtain rfl : (b : Int) = j1 := jb
    refine meets_wk (r := .one (.agg [.d (eI 0), .d (eB false), .own 1 a fun _ => [eI (-1)], .own 1 b fun _ => [eB false], .own 3 b fun _ => [eI 0, .v nilS, .v nilS], .d (eI 0), .own 1 a fun _ => [eI 0], .nown 3 b fun _ => eSnap (nSnp a ha3)])) ?_ (by repeat' first | exact True.intro | exact rfl | exact DLe.rfl | exact NLe.rfl | exact nle_nil _ _ | apply And.intro | (intro _ _; exact LsLe.rfl) | (intro _ _; exact NsLe.rfl) | exact (flatR fun _ => flatL ⟨⟨_, rfl⟩, ⟨_, rfl⟩, ⟨_, rfl⟩, trivial⟩) | exact (flatR fun _ => ⟨⟨_, rfl⟩, ⟨_, rfl⟩, ⟨_, rfl⟩, trivial⟩) | (intro _ _; exact ⟨NLe.rfl, nle_nil _ _, nle_nil _ _, trivial⟩))
    clear ht ha hbb hok ea eb
    refine meets_of (H := [4]) (EX := EXNew) ttok mixed Try.func20 rfl (by kernel_rfl) (by decide) ?_
    generalize hA : real = A
    generalize hM : MeetsB Try.prog = M
    cbv
    repeat' first
      | exact absurd (show false = true by subst hA; assumption) (by decide)
      | exact absurd (show true = false by subst hA; assumption) (by decide)
      | apply And.intro
      | exact True.intro
      | with_reducible rfl
      | exact same_of hA rfl
      | refine br_of hA (fun _ => ?_) (fun _ => ?_)
      | exact imp_of hA id
      | (refine imp_of hA ?_; subst hA; simp only [real, Bool.true_and]; exact id)
      | (refine ind_of hA ?_; decide +kernel)
      | (refine call_of hA hM _ hm ?_; cbv)
      | (subst hA; show 0 ≤ (b : Int) ∧ (b : Int) = (b : Int) ∧ (b : Int) * _ ≤ 140737488355328 ∧ (b : Int) ≤ 140737488355328; refine ⟨by omega, rfl, by omega, by omega⟩)
      | (subst hA; show 0 ≤ (a : Int) ∧ (a : Int) = (a : Int) ∧ (a : Int) * _ ≤ 140737488355328 ∧ (a : Int) ≤ 140737488355328; refine ⟨by omega, rfl, by omega, by omega⟩)
      | fail
    refine stop_of hA ⟨[(1, .c (.bp 64 1 0)), (2, .c (.bp 128 1 0)), (3, .c (.bp 192 1 0))], [(64, 1, .box [.d (eI (a : Int)), .d (eI (b : Int)), .d (eI j2), .d (eI j3), .d (eI j4), .d (eI j5), .d (eI j6), .d (eB j7), .d (eI j8), .d (eI j9)]), (128, 1, .box [.d (eI 0), .d (eB false), .d (.v nilS), .d (.v nilS), .d (.v nilS), .d (eI 0), .d (.v nilS), .d (.v nilS)]), (192, 1, .box [.d (eI 0), .d (eB false), .d (.v nilS), .d (.v nilS), .d (.v nilS), .d (eI 0), .own 640 0 a 1, .d (.v nilS)]), (640, 1, .arr 1 a fun _ => [eI 0])]⟩ (cov_of ?_ ?_ ?_) ?_
    · (subst hA; repeat' first | exact True.intro | exact rfl | apply And.intro | (intro _ _; rfl) | (intro _ _ _; rfl) | (intro q hq; exact absurd hq (Nat.not_lt_zero q)))
    · (subst hA; repeat' first | exact True.intro | exact rfl | apply And.intro | (intro _ _; rfl) | (intro _ _ _; rfl) | (intro q hq; exact absurd hq (Nat.not_lt_zero q)))
    · (subst hA; repeat' first | exact True.intro | exact rfl | apply And.intro | (intro _ _; rfl) | (intro _ _ _; rfl) | (intro q hq; exact absurd hq (Nat.not_lt_zero q)) | exact .inr (le_of_nble rfl) | exact .inl rfl)
    cbv
    repeat' first
      | exact absurd (show false = true by subst hA; assumption) (by decide)
      | exact absurd (show true = false by subst hA; assumption) (by decide)
      | apply And.intro
      | exact True.intro
      | with_reducible rfl
      | exact same_of hA rfl
      | refine br_of hA (fun _ => ?_) (fun _ => ?_)
      | exact imp_of hA id
      | (refine imp_of hA ?_; subst hA; simp only [real, Bool.true_and]; exact id)
      | (refine ind_of hA ?_; decide +kernel)
      | (refine call_of hA hM _ hm ?_; cbv)
      | (subst hA; show 0 ≤ (b : Int) ∧ (b : Int) = (b : Int) ∧ (b : Int) * _ ≤ 140737488355328 ∧ (b : Int) ≤ 140737488355328; refine ⟨by omega, rfl, by omega, by omega⟩)
      | (subst hA; show 0 ≤ (a : Int) ∧ (a : Int) = (a : Int) ∧ (a : Int) * _ ≤ 140737488355328 ∧ (a : Int) ≤ 140737488355328; refine ⟨by omega, rfl, by omega, by omega⟩)
      | (refine inl_call hA _ _ _ ⟨fun _ => (by rw [← hM]; exact (k_idleN a b ha1 ha3 hb1 hb2 (eI j2) (eI j3) (eI j4) (eI j5) (eI j6) (eB j7) (eI j8) (eI j9))), (by cbv; repeat' first | apply And.intro | exact True.intro | rfl | exact .inr trivial | exact .inl trivial), ?_⟩; cbv)
      | fail
    refine loop_of hA (α := { i : Nat // i ≤ b }) (fun x => st_new a b ha3 (eI j2) (eI j3) (eI j4) (eI j5) (eI j6) (eB j7) (eI j8) (eI j9) x.1) (fun x => b - x.1) ⟨0, Nat.zero_le _⟩ ?_ ?_
    · refine cov_promCN 192 8000 1 3 (fun _ => eSnap (nSnp a ha3)) [.d (eI 0), .d (eB false), .own 10633 0 a 1, .own 10825 0 b 1, .own 11017 0 b 1, .d (eI 0), .own 640 0 a 1] [] rfl rfl rfl (cov_of ?_ ?_ ?_)
      · (subst hA; repeat' first | exact True.intro | exact rfl | apply And.intro | (intro _ _; rfl) | (intro _ _ _; rfl) | (intro q hq; exact absurd hq (Nat.not_lt_zero q)))
      · (subst hA; repeat' first | exact True.intro | exact rfl | apply And.intro | (intro _ _; rfl) | (intro _ _ _; rfl) | (intro q hq; exact absurd hq (Nat.not_lt_zero q)))
      · (subst hA; repeat' first | exact True.intro | exact rfl | apply And.intro | (intro _ _; rfl) | (intro _ _ _; rfl) | (intro q hq; exact absurd hq (Nat.not_lt_zero q)) | exact .inr (le_of_nble rfl) | exact .inl rfl)
    rintro ⟨i, hi⟩
    have hi : i ≤ b := hi
    cbv
    repeat' first
      | apply And.intro
      | exact True.intro
      | with_reducible rfl
      | exact same_of hA rfl
      | refine br_of hA (fun _ => ?_) (fun _ => ?_)
      | exact imp_of hA id
      | (refine imp_of hA ?_; subst hA; simp only [real, Bool.true_and]; exact id)
      | (refine ind_of hA ?_; decide +kernel)
      | (subst hA; show 0 ≤ (b : Int) ∧ (b : Int) = (b : Int) ∧ (b : Int) * _ ≤ 140737488355328 ∧ (b : Int) ≤ 140737488355328; refine ⟨by omega, rfl, by omega, by omega⟩)
      | (subst hA; show 0 ≤ (a : Int) ∧ (a : Int) = (a : Int) ∧ (a : Int) * _ ≤ 140737488355328 ∧ (a : Int) ≤ 140737488355328; refine ⟨by omega, rfl, by omega, by omega⟩)
      | exact room_add2 hA (by omega) (by decide)
      | exact room_of2 hA (by omega) (by decide)
      | (refine same_of hA ?_; subst hA; rfl)
      | fail
    · rename_i hlt
      have hlt' : i < b := by subst hA; have h : ((i : Int) < (b : Int)) := of_decide_eq_true hlt; omega
      have hn2 : b ≤ maxLen := Nat.le_trans hb2 (by decide)
      refine ⟨⟨i + 1, hlt'⟩, by simp only; omega, cov_close 8000 (fun _ => eSnap (nSnp a ha3)) (eSnap (nSnp a ha3)) [(1536, 1)] rfl ?_ rfl rfl (fun k _ _ => rfl) (cov_of ?_ ?_ ?_)⟩
      · subst hA; exact close_v (close_nil (close_own rfl (fun _ _ => rfl) (flatR fun _ => flat_int _) close_end))
      · (subst hA; repeat' first | exact True.intro | exact rfl | exact congrArg (fun x => DV.v (.int .i64 x)) (up64 hlt' hn2) | apply And.intro | (intro _ _; rfl) | (intro _ _ _; rfl) | (intro q hq; exact absurd hq (Nat.not_lt_zero q)))
      · (subst hA; repeat' first | exact True.intro | exact rfl | exact congrArg (fun x => DV.v (.int .i64 x)) (up64 hlt' hn2) | apply And.intro | (intro _ _; rfl) | (intro _ _ _; rfl) | (intro q hq; exact absurd hq (Nat.not_lt_zero q)))
      · (subst hA; repeat' first | exact True.intro | exact rfl | exact congrArg (fun x => DV.v (.int .i64 x)) (up64 hlt' hn2) | apply And.intro | (intro _ _; rfl) | (intro _ _ _; rfl) | (intro q hq; exact absurd hq (Nat.not_lt_zero q)) | exact .inr (le_of_nble rfl) | exact .inl rfl)
    · rename_i hge
      have hin : i = b := by
        subst hA
        have : ¬ ((i : Int) < (b : Int)) := of_decide_eq_false hge
        omega
      subst hin
      rfl
end Go.Rk
/- Checkpoints, as said: drop. -/
namespace Go.Rk
set_option linter.unusedSimpArgs false
set_option linter.unusedVariables false
open Go.Proofs
set_option maxRecDepth 100000
set_option maxHeartbeats 2000000
def st_nb1 (a b : Nat) (r2 r3 r4 r5 r6 r7 r8 r9 : DV) (i : Nat) : St := ⟨[(8, .c (.d (eI i))), (1, .c (.bp 64 1 0)), (5, .c (.own 640 0 i 1)), (6, .c (.own 704 0 0 1)), (7, .c (.own 768 0 0 1))], [(64, 1, .box [.d (eI (a : Int)), .d (eI (b : Int)), .d r2, .d r3, .d r4, .d r5, .d r6, .d r7, .d r8, .d r9]), (640, 1, .arr 1 i fun _ => [eI (-1)]), (704, 1, .arr 1 0 fun _ => [eB false]), (768, 1, .arr 3 0 fun _ => [eI 0, .v nilS, .v nilS])]⟩
def st_nb2 (a b : Nat) (r2 r3 r4 r5 r6 r7 r8 r9 : DV) (i : Nat) : St := ⟨[(9, .c (.d (eI i))), (1, .c (.bp 64 1 0)), (5, .c (.own 640 0 a 1)), (6, .c (.own 704 0 i 1)), (7, .c (.own 768 0 i 1))], [(64, 1, .box [.d (eI (a : Int)), .d (eI (b : Int)), .d r2, .d r3, .d r4, .d r5, .d r6, .d r7, .d r8, .d r9]), (640, 1, .arr 1 a fun _ => [eI (-1)]), (704, 1, .arr 1 i fun _ => [eB false]), (768, 1, .arr 3 i fun _ => [eI 0, .v nilS, .v nilS])]⟩
theorem c_nobody (a b : Nat) (ha3 : a ≤ 3) (hb2 : b ≤ 2) (r2 r3 r4 r5 r6 r7 r8 r9 : DV) : Meets Try.prog 54 [xd [eI (a : Int), eI (b : Int), r2, r3, r4, r5, r6, r7, r8, r9]] ⟨.tup [.c (.d (.sl 1 a fun _ => [eI (-1)])), .c (.d (.sl 1 b fun _ => [eB false])), .c (.d (.sl 3 b fun _ => eSnap zSnp))], [none]⟩ := by
  refine meets_wk (r := .tup [.c (.d (.sl 1 a fun _ => [eI (-1)])), .c (.d (.sl 1 b fun _ => [eB false])), .c (.d (.sl 3 b fun _ => [eI 0, .v nilS, .v nilS]))]) ?_ (by repeat' first | exact True.intro | exact rfl | exact DLe.rfl | exact dle_nil _ _ | apply And.intro | (intro _ _; exact LsLe.rfl) | (refine dle_sl fun _ _ => ?_; exact ⟨DLe.rfl, dle_nil _ _, dle_nil _ _, trivial⟩))
  refine meets_frz (r := .tup [.c (.own 1 a fun _ => [eI (-1)]), .c (.own 1 b fun _ => [eB false]), .c (.own 3 b fun _ => [eI 0, .v nilS, .v nilS])]) ?_ rfl
  refine meets_of (H := []) (EX := EXA) ttok mixed Try.func54 rfl (by kernel_rfl) (by decide) ?_
  generalize hA : real = A
  generalize hM : MeetsB Try.prog = M
  cbv
  repeat' first
    | apply And.intro
    | exact True.intro
    | with_reducible rfl
    | exact same_of hA rfl
    | refine br_of hA (fun _ => ?_) (fun _ => ?_)
    | exact imp_of hA id
    | (refine imp_of hA ?_; subst hA; simp only [real, Bool.true_and]; exact id)
    | (refine ind_of hA ?_; decide +kernel)
    | fail
  refine loop_of hA (α := { i : Nat // i ≤ a }) (fun x => st_nb1 a b r2 r3 r4 r5 r6 r7 r8 r9 x.1) (fun x => a - x.1) ⟨0, Nat.zero_le _⟩ ?_ ?_
  · refine cov_of ?_ ?_ ?_
    · (subst hA; repeat' first | exact True.intro | exact rfl | apply And.intro | (intro q hq; exact absurd hq (Nat.not_lt_zero q)) | (intro _ _; rfl) | exact .inr (le_of_nble rfl) | exact .inl rfl)
    · (subst hA; repeat' first | exact True.intro | exact rfl | apply And.intro | (intro q hq; exact absurd hq (Nat.not_lt_zero q)) | (intro _ _; rfl) | exact .inr (le_of_nble rfl) | exact .inl rfl)
    · (subst hA; repeat' first | exact True.intro | exact rfl | apply And.intro | (intro q hq; exact absurd hq (Nat.not_lt_zero q)) | (intro _ _; rfl) | exact .inr (le_of_nble rfl) | exact .inl rfl)
  rintro ⟨i, hi⟩
  have hi : i ≤ a := hi
  have hn3 : a ≤ 3 := by omega
  cbv
  repeat' first
    | apply And.intro
    | exact True.intro
    | with_reducible rfl
    | exact same_of hA rfl
    | refine br_of hA (fun _ => ?_) (fun _ => ?_)
    | exact imp_of hA id
    | (refine imp_of hA ?_; subst hA; simp only [real, Bool.true_and]; exact id)
    | (refine ind_of hA ?_; decide +kernel)
    | exact room_add2 hA (by omega) (by decide)
    | exact room_of2 hA (by omega) (by decide)
    | (refine same_of hA ?_; subst hA; rfl)
    | fail
  · rename_i hlt
    have hlt' : i < a := by subst hA; have h : ((i : Int) < (a : Int)) := of_decide_eq_true hlt; omega
    have hn2 : a ≤ maxLen := Nat.le_trans hn3 (by decide)
    refine ⟨⟨i + 1, hlt'⟩, by simp only; omega, cov_of ?_ ?_ ?_⟩
    · (subst hA; repeat' first | exact True.intro | exact rfl | exact congrArg (fun x => DV.v (.int .i64 x)) (up64 hlt' hn2) | apply And.intro | (intro q hq; have hq : q < i + 1 := hq; exact (push_at rfl i (fun _ => [eI (-1)]) [eI (-1)] _ q hq).trans (ite_self _)) | (intro _ _; rfl) | exact .inr (le_of_nble rfl) | exact .inl rfl)
    · (subst hA; repeat' first | exact True.intro | exact rfl | exact congrArg (fun x => DV.v (.int .i64 x)) (up64 hlt' hn2) | apply And.intro | (intro q hq; have hq : q < i + 1 := hq; exact (push_at rfl i (fun _ => [eI (-1)]) [eI (-1)] _ q hq).trans (ite_self _)) | (intro _ _; rfl) | exact .inr (le_of_nble rfl) | exact .inl rfl)
    · (subst hA; repeat' first | exact True.intro | exact rfl | exact congrArg (fun x => DV.v (.int .i64 x)) (up64 hlt' hn2) | apply And.intro | (intro q hq; have hq : q < i + 1 := hq; exact (push_at rfl i (fun _ => [eI (-1)]) [eI (-1)] _ q hq).trans (ite_self _)) | (intro _ _; rfl) | exact .inr (le_of_nble rfl) | exact .inl rfl)
  · rename_i hge
    have hin : i = a := by
      subst hA
      have : ¬ ((i : Int) < (a : Int)) := of_decide_eq_false hge
      omega
    subst hin
    refine loop_of hA (α := { i2 : Nat // i2 ≤ b }) (fun x => st_nb2 i b r2 r3 r4 r5 r6 r7 r8 r9 x.1) (fun x => b - x.1) ⟨0, Nat.zero_le _⟩ ?_ ?_
    · refine cov_of ?_ ?_ ?_
      · (subst hA; repeat' first | exact True.intro | exact rfl | apply And.intro | (intro q hq; exact absurd hq (Nat.not_lt_zero q)) | (intro _ _; rfl) | exact .inr (le_of_nble rfl) | exact .inl rfl)
      · (subst hA; repeat' first | exact True.intro | exact rfl | apply And.intro | (intro q hq; exact absurd hq (Nat.not_lt_zero q)) | (intro _ _; rfl) | exact .inr (le_of_nble rfl) | exact .inl rfl)
      · (subst hA; repeat' first | exact True.intro | exact rfl | apply And.intro | (intro q hq; exact absurd hq (Nat.not_lt_zero q)) | (intro _ _; rfl) | exact .inr (le_of_nble rfl) | exact .inl rfl)
    rintro ⟨i2, hi⟩
    have hi : i2 ≤ b := hi
    have hn3 : b ≤ 3 := by omega
    cbv
    repeat' first
      | apply And.intro
      | exact True.intro
      | with_reducible rfl
      | exact same_of hA rfl
      | refine br_of hA (fun _ => ?_) (fun _ => ?_)
      | exact imp_of hA id
      | (refine imp_of hA ?_; subst hA; simp only [real, Bool.true_and]; exact id)
      | (refine ind_of hA ?_; decide +kernel)
      | exact room_add2 hA (by omega) (by decide)
      | exact room_of2 hA (by omega) (by decide)
      | (refine same_of hA ?_; subst hA; rfl)
      | fail
    · rename_i hlt
      have hlt' : i2 < b := by subst hA; have h : ((i2 : Int) < (b : Int)) := of_decide_eq_true hlt; omega
      have hn2 : b ≤ maxLen := Nat.le_trans hn3 (by decide)
      refine ⟨⟨i2 + 1, hlt'⟩, by simp only; omega, cov_of ?_ ?_ ?_⟩
      · (subst hA; repeat' first | exact True.intro | exact rfl | exact congrArg (fun x => DV.v (.int .i64 x)) (up64 hlt' hn2) | apply And.intro | (intro q hq; have hq : q < i2 + 1 := hq; exact (push_at rfl i2 (fun _ => [eB false]) [eB false] _ q hq).trans (ite_self _)) | (intro q hq; have hq : q < i2 + 1 := hq; exact (push_at rfl i2 (fun _ => [eI 0, .v nilS, .v nilS]) [eI 0, .v nilS, .v nilS] _ q hq).trans (ite_self _)) | (intro _ _; rfl) | exact .inr (le_of_nble rfl) | exact .inl rfl)
      · (subst hA; repeat' first | exact True.intro | exact rfl | exact congrArg (fun x => DV.v (.int .i64 x)) (up64 hlt' hn2) | apply And.intro | (intro q hq; have hq : q < i2 + 1 := hq; exact (push_at rfl i2 (fun _ => [eB false]) [eB false] _ q hq).trans (ite_self _)) | (intro q hq; have hq : q < i2 + 1 := hq; exact (push_at rfl i2 (fun _ => [eI 0, .v nilS, .v nilS]) [eI 0, .v nilS, .v nilS] _ q hq).trans (ite_self _)) | (intro _ _; rfl) | exact .inr (le_of_nble rfl) | exact .inl rfl)
      · (subst hA; repeat' first | exact True.intro | exact rfl | exact congrArg (fun x => DV.v (.int .i64 x)) (up64 hlt' hn2) | apply And.intro | (intro q hq; have hq : q < i2 + 1 := hq; exact (push_at rfl i2 (fun _ => [eB false]) [eB false] _ q hq).trans (ite_self _)) | (intro q hq; have hq : q < i2 + 1 := hq; exact (push_at rfl i2 (fun _ => [eI 0, .v nilS, .v nilS]) [eI 0, .v nilS, .v nilS] _ q hq).trans (ite_self _)) | (intro _ _; rfl) | exact .inr (le_of_nble rfl) | exact .inl rfl)
    · rename_i hge
      have hin : i2 = b := by
        subst hA
        have : ¬ ((i2 : Int) < (b : Int)) := of_decide_eq_false hge
        omega
      subst hin
      repeat' first
        | apply And.intro
        | exact True.intro
        | with_reducible rfl
        | exact same_of hA rfl
        | refine br_of hA (fun _ => ?_) (fun _ => ?_)
        | exact imp_of hA id
        | (refine imp_of hA ?_; subst hA; simp only [real, Bool.true_and]; exact id)
        | (refine ind_of hA ?_; decide +kernel)
        | (subst hA; rfl)
        | fail
end Go.Rk
/- Checkpoints, as said: new. -/
namespace Go.Rk
set_option linter.unusedSimpArgs false
set_option linter.unusedVariables false
open Go.Proofs
set_option maxRecDepth 100000
set_option maxHeartbeats 2000000
def st_sn1 (a b : Nat) (r2 r3 r4 r5 r6 r7 r8 r9 : DV) (i : Nat) : St := ⟨[(7, .c (.d (eI i))), (1, .c (.bp 64 1 0)), (2, .c (.bp 128 1 0)), (6, .c (.bp 384 1 0))], [(64, 1, .box [.d (eI (a : Int)), .d (eI (b : Int)), .d r2, .d r3, .d r4, .d r5, .d r6, .d r7, .d r8, .d r9]), (128, 1, .box [.d (eI 0), .d (eB false), .d (.v nilS), .d (.v nilS), .d (.v nilS), .d (eI 0), .d (.v nilS), .d (.v nilS)]), (384, 1, .box [.d (eI 0), .d (eB false), .d (.sl 1 a fun _ => [eI (-1)]), .d (.sl 1 b fun _ => [eB false]), .d (.sl 3 b fun _ => eSnap zSnp), .d (eI 0), .own 8001 0 i 1, .d (.v nilS)]), (8001, 1, .arr 1 i fun _ => [eI 0])]⟩
def st_sn2 (a b : Nat) (r2 r3 r4 r5 r6 r7 r8 r9 : DV) (ha : a ≤ 3) (i : Nat) : St := ⟨[(8, .c (.d (eI i))), (1, .c (.bp 64 1 0)), (2, .c (.bp 128 1 0)), (6, .c (.bp 384 1 0))], [(64, 1, .box [.d (eI (a : Int)), .d (eI (b : Int)), .d r2, .d r3, .d r4, .d r5, .d r6, .d r7, .d r8, .d r9]), (128, 1, .box [.d (eI 0), .d (eB false), .d (.v nilS), .d (.v nilS), .d (.v nilS), .d (eI 0), .d (.v nilS), .d (.v nilS)]), (384, 1, .box [.d (eI 0), .d (eB false), .d (.sl 1 a fun _ => [eI (-1)]), .d (.sl 1 b fun _ => [eB false]), .d (.sl 3 b fun _ => eSnap zSnp), .d (eI 0), .own 8001 0 a 1, .nown 8000 i 1]), (8001, 1, .arr 1 a fun _ => [eI 0]), (8000, 1, .nest 3 i (fun _ => eSnap (nSnp a ha)) none)]⟩
def EXSNew : FuncId → List Nat × Bool := fun f =>  ([], false)
theorem c_sCkpNew (j : JobT) (y : CkpT) (hy : y = newP j) : Meets Try.prog 22 [xd (eJob j)] ⟨.one (xd (eCkp y)), [none]⟩ := by
  obtain ⟨t, ht, hm⟩ := c_sJobOkP j
  cases t with
  | false =>
    have hno : ¬ JobOkP j := fun h => by have := ht.2 h; cases this
    obtain rfl : y = zCkp := by rw [hy]; unfold newP; rw [dif_neg hno]
    refine meets_wk (r := .one (.agg [.d (eI 0), .d (eB false), .d (.v nilS), .d (.v nilS), .d (.v nilS), .d (eI 0), .d (.v nilS), .d (.v nilS)])) ?_ (by repeat' first | exact True.intro | exact rfl | exact DLe.rfl | exact dle_nil _ _ | apply And.intro | (intro _ _; exact LsLe.rfl) | (refine dle_sl fun _ _ => ?_; exact ⟨DLe.rfl, dle_nil _ _, dle_nil _ _, trivial⟩))
    refine meets_of (H := []) (EX := EXSNew) ttok mixed Try.func22 rfl (by kernel_rfl) (by decide) ?_
    generalize hA : real = A
    generalize hM : MeetsB Try.prog = M
    cbv
    repeat' first
      | exact absurd (show false = true by subst hA; assumption) (by decide)
      | exact absurd (show true = false by subst hA; assumption) (by decide)
      | apply And.intro
      | exact True.intro
      | with_reducible rfl
      | exact same_of hA rfl
      | refine br_of hA (fun _ => ?_) (fun _ => ?_)
      | exact imp_of hA id
      | (refine imp_of hA ?_; subst hA; simp only [real, Bool.true_and]; exact id)
      | (refine ind_of hA ?_; decide +kernel)
      | (refine call_of hA hM _ hm ?_; cbv)
      | fail
  | true =>
    have hok : JobOkP j := ht.1 rfl
    have ea := jobS hok
    have eb := jobT hok
    obtain ⟨a, ha⟩ : ∃ a : Nat, a = j.srcs.toNat := ⟨_, rfl⟩
    obtain ⟨b, hbb⟩ : ∃ b : Nat, b = j.tsks.toNat := ⟨_, rfl⟩
    obtain ⟨ha1, ha3, ja⟩ : 1 ≤ a ∧ a ≤ 3 ∧ (a : Int) = j.srcs := by rw [ha]; exact ea
    obtain ⟨hb1, hb2, jb⟩ : 1 ≤ b ∧ b ≤ 2 ∧ (b : Int) = j.tsks := by rw [hbb]; exact eb
    obtain rfl : y = newC a b ha3 hb2 := by
      rw [hy]; unfold newP; rw [dif_pos hok]; subst ha hbb; rfl
    clear hy
    obtain ⟨j0, j1, j2, j3, j4, j5, j6, j7, j8, j9⟩ := j
    obtain rfl : (a : Int) = j0 := ja
    obtain rfl : (b : Int) = j1 := jb
    clear ht ha hbb hok ea eb
    refine meets_frz (r := .one (.agg [.d (eI 0), .d (eB false), .d (.sl 1 a fun _ => [eI (-1)]), .d (.sl 1 b fun _ => [eB false]), .d (.sl 3 b fun _ => eSnap zSnp), .d (eI 0), .own 1 a fun _ => [eI 0], .nown 3 b fun _ => eSnap (nSnp a ha3)])) ?_ rfl
    refine meets_of (H := []) (EX := EXSNew) ttok mixed Try.func22 rfl (by kernel_rfl) (by decide) ?_
    generalize hA : real = A
    generalize hM : MeetsB Try.prog = M
    cbv
    repeat' first
      | exact absurd (show false = true by subst hA; assumption) (by decide)
      | exact absurd (show true = false by subst hA; assumption) (by decide)
      | apply And.intro
      | exact True.intro
      | with_reducible rfl
      | exact same_of hA rfl
      | refine br_of hA (fun _ => ?_) (fun _ => ?_)
      | exact imp_of hA id
      | (refine imp_of hA ?_; subst hA; simp only [real, Bool.true_and]; exact id)
      | (refine ind_of hA ?_; decide +kernel)
      | (refine call_of hA hM _ hm ?_; cbv)
      | (refine call_of hA hM _ (c_nobody a b ha3 hb2 (eI j2) (eI j3) (eI j4) (eI j5) (eI j6) (eB j7) (eI j8) (eI j9)) ?_; cbv)
      | fail
    refine loop_of hA (α := { i : Nat // i ≤ a }) (fun x => st_sn1 a b (eI j2) (eI j3) (eI j4) (eI j5) (eI j6) (eB j7) (eI j8) (eI j9) x.1) (fun x => a - x.1) ⟨0, Nat.zero_le _⟩ ?_ ?_
    · refine cov_promC 384 8001 1 1 (fun _ => [eI 0]) [.d (eI 0), .d (eB false), .d (.sl 1 a fun _ => [eI (-1)]), .d (.sl 1 b fun _ => [eB false]), .d (.sl 3 b fun _ => eSnap zSnp), .d (eI 0)] [.d (.v nilS)] rfl rfl rfl (cov_of ?_ ?_ ?_)
      · (subst hA; repeat' first | exact True.intro | exact rfl | apply And.intro | (intro _ _; rfl) | (intro _ _ _; rfl) | (intro q hq; exact absurd hq (Nat.not_lt_zero q)))
      · (subst hA; repeat' first | exact True.intro | exact rfl | apply And.intro | (intro _ _; rfl) | (intro _ _ _; rfl) | (intro q hq; exact absurd hq (Nat.not_lt_zero q)))
      · (subst hA; repeat' first | exact True.intro | exact rfl | apply And.intro | (intro _ _; rfl) | (intro _ _ _; rfl) | (intro q hq; exact absurd hq (Nat.not_lt_zero q)) | exact .inr (le_of_nble rfl) | exact .inl rfl)
    rintro ⟨i, hi⟩
    have hi : i ≤ a := hi
    cbv
    repeat' first
      | apply And.intro
      | exact True.intro
      | with_reducible rfl
      | exact same_of hA rfl
      | refine br_of hA (fun _ => ?_) (fun _ => ?_)
      | exact imp_of hA id
      | (refine imp_of hA ?_; subst hA; simp only [real, Bool.true_and]; exact id)
      | (refine ind_of hA ?_; decide +kernel)
      | exact room_z hA (by omega) (by decide)
      | exact room_add2 hA (by omega) (by decide)
      | exact room_of2 hA (by omega) (by decide)
      | (refine same_of hA ?_; subst hA; rfl)
      | (subst hA; show 0 ≤ (a : Int) ∧ (a : Int) = (a : Int) ∧ (a : Int) * _ ≤ 140737488355328 ∧ (a : Int) ≤ 140737488355328; refine ⟨by omega, rfl, by omega, by omega⟩)
      | fail
    · rename_i hlt
      have hlt' : i < a := by subst hA; have h : ((i : Int) < (a : Int)) := of_decide_eq_true hlt; omega
      have hn2 : a ≤ maxLen := small_len ha3
      refine ⟨⟨i + 1, hlt'⟩, by simp only; omega, cov_of ?_ ?_ ?_⟩
      · (subst hA; repeat' first | exact True.intro | exact rfl | apply And.intro | exact congrArg (fun x => DV.v (.int .i64 x)) (up64 hlt' hn2) | (intro q hq; have hq : q < i + 1 := hq; exact (push_at rfl i (fun _ => [eI 0]) [eI 0] _ q hq).trans (ite_self _)) | (intro _ _; rfl) | (intro _ _ _; rfl) | (intro q hq; exact absurd hq (Nat.not_lt_zero q)))
      · (subst hA; repeat' first | exact True.intro | exact rfl | apply And.intro | exact congrArg (fun x => DV.v (.int .i64 x)) (up64 hlt' hn2) | (intro q hq; have hq : q < i + 1 := hq; exact (push_at rfl i (fun _ => [eI 0]) [eI 0] _ q hq).trans (ite_self _)) | (intro _ _; rfl) | (intro _ _ _; rfl) | (intro q hq; exact absurd hq (Nat.not_lt_zero q)))
      · (subst hA; repeat' first | exact True.intro | exact rfl | apply And.intro | exact congrArg (fun x => DV.v (.int .i64 x)) (up64 hlt' hn2) | (intro q hq; have hq : q < i + 1 := hq; exact (push_at rfl i (fun _ => [eI 0]) [eI 0] _ q hq).trans (ite_self _)) | (intro _ _; rfl) | (intro _ _ _; rfl) | (intro q hq; exact absurd hq (Nat.not_lt_zero q)) | exact .inr (le_of_nble rfl) | exact .inl rfl)
    have hin : i = a := by
      rename_i hge
      subst hA
      have : ¬ ((i : Int) < (a : Int)) := of_decide_eq_false hge
      omega
    subst hin
    refine loop_of hA (α := { k : Nat // k ≤ b }) (fun x => st_sn2 i b (eI j2) (eI j3) (eI j4) (eI j5) (eI j6) (eB j7) (eI j8) (eI j9) ha3 x.1) (fun x => b - x.1) ⟨0, Nat.zero_le _⟩ ?_ ?_
    · refine cov_promCN 384 8000 1 3 (fun _ => eSnap (nSnp i ha3)) [.d (eI 0), .d (eB false), .d (.sl 1 i fun _ => [eI (-1)]), .d (.sl 1 b fun _ => [eB false]), .d (.sl 3 b fun _ => eSnap zSnp), .d (eI 0), .own 8001 0 i 1] [] rfl rfl rfl (cov_of ?_ ?_ ?_)
      · (subst hA; repeat' first | exact True.intro | exact rfl | apply And.intro | (intro _ _; rfl) | (intro _ _ _; rfl) | (intro q hq; exact absurd hq (Nat.not_lt_zero q)))
      · (subst hA; repeat' first | exact True.intro | exact rfl | apply And.intro | (intro _ _; rfl) | (intro _ _ _; rfl) | (intro q hq; exact absurd hq (Nat.not_lt_zero q)))
      · (subst hA; repeat' first | exact True.intro | exact rfl | apply And.intro | (intro _ _; rfl) | (intro _ _ _; rfl) | (intro q hq; exact absurd hq (Nat.not_lt_zero q)) | exact .inr (le_of_nble rfl) | exact .inl rfl)
    rintro ⟨k, hk⟩
    have hk : k ≤ b := hk
    cbv
    repeat' first
      | apply And.intro
      | exact True.intro
      | with_reducible rfl
      | exact same_of hA rfl
      | refine br_of hA (fun _ => ?_) (fun _ => ?_)
      | exact imp_of hA id
      | (refine imp_of hA ?_; subst hA; simp only [real, Bool.true_and]; exact id)
      | (refine ind_of hA ?_; decide +kernel)
      | exact room_z hA (by omega) (by decide)
      | exact room_add2 hA (by omega) (by decide)
      | exact room_of2 hA (by omega) (by decide)
      | (refine same_of hA ?_; subst hA; rfl)
      | (subst hA; show 0 ≤ (i : Int) ∧ (i : Int) = (i : Int) ∧ (i : Int) * _ ≤ 140737488355328 ∧ (i : Int) ≤ 140737488355328; refine ⟨by omega, rfl, by omega, by omega⟩)
      | fail
    · rename_i hlt
      have hlt' : k < b := by subst hA; have h : ((k : Int) < (b : Int)) := of_decide_eq_true hlt; omega
      have hn2 : b ≤ maxLen := Nat.le_trans hb2 (by decide)
      refine ⟨⟨k + 1, hlt'⟩, by simp only; omega, cov_close 8000 (fun _ => eSnap (nSnp i ha3)) (eSnap (nSnp i ha3)) [(47 * 64, 1)] rfl ?_ rfl rfl (fun k _ _ => rfl) (cov_of ?_ ?_ ?_)⟩
      · subst hA; exact close_v (close_nil (close_own rfl (fun _ _ => rfl) (flatR fun _ => flat_int _) close_end))
      · (subst hA; repeat' first | exact True.intro | exact rfl | apply And.intro | exact congrArg (fun x => DV.v (.int .i64 x)) (up64 hlt' hn2) | (intro q hq; have hq : q < i + 1 := hq; exact (push_at rfl i (fun _ => [eI 0]) [eI 0] _ q hq).trans (ite_self _)) | (intro _ _; rfl) | (intro _ _ _; rfl) | (intro q hq; exact absurd hq (Nat.not_lt_zero q)))
      · (subst hA; repeat' first | exact True.intro | exact rfl | apply And.intro | exact congrArg (fun x => DV.v (.int .i64 x)) (up64 hlt' hn2) | (intro q hq; have hq : q < i + 1 := hq; exact (push_at rfl i (fun _ => [eI 0]) [eI 0] _ q hq).trans (ite_self _)) | (intro _ _; rfl) | (intro _ _ _; rfl) | (intro q hq; exact absurd hq (Nat.not_lt_zero q)))
      · (subst hA; repeat' first | exact True.intro | exact rfl | apply And.intro | exact congrArg (fun x => DV.v (.int .i64 x)) (up64 hlt' hn2) | (intro q hq; have hq : q < i + 1 := hq; exact (push_at rfl i (fun _ => [eI 0]) [eI 0] _ q hq).trans (ite_self _)) | (intro _ _; rfl) | (intro _ _ _; rfl) | (intro q hq; exact absurd hq (Nat.not_lt_zero q)) | exact .inr (le_of_nble rfl) | exact .inl rfl)
    · rename_i hge
      have hin : k = b := by
        subst hA
        have : ¬ ((k : Int) < (b : Int)) := of_decide_eq_false hge
        omega
      subst hin
      rfl
end Go.Rk
/- The law, walked. -/
namespace Go.Rk
set_option linter.unusedSimpArgs false
set_option linter.unusedVariables false
open Go.Proofs Go.ChangeShapes Go.WideShapes Go.ChangeAt Go.RowKit
set_option maxRecDepth 100000
set_option maxHeartbeats 4000000
def EXL : FuncId → List Nat × Bool := fun f => bif nbeq f 29 then ([99], false) else ([], false)
theorem m_law (j : JobT) : Meets Try.prog 5 [xd (eJob j)] ⟨.one (.c (.d (eB true))), [none]⟩ := by
  obtain ⟨y, hy⟩ : ∃ y, y = newP j := ⟨_, rfl⟩
  obtain ⟨hbdy, hty⟩ := new_bd hy
  have hI := c_CkpNew j y hy
  have hS := c_sCkpNew j y hy
  obtain ⟨Qy⟩ := ckpM_ex y hty
  have kg := k_markn Qy hbdy
  have hh := helds_Ckp Qy hbdy
  have hneg : ∀ {A : Ar} (v : Int), 0 ≤ v → real = A → A.cmp .lss v 0 = true → False := fun v hv hA h => by subst hA; exact absurd (of_decide_eq_true h) (Int.not_lt.2 hv)
  refine meets_of (H := [2, 5, 7, 13]) (EX := EXL) ttok mixed Try.func5 rfl (by kernel_rfl) (by decide) ?_
  generalize hA : real = A
  generalize hM : MeetsB Try.prog = M
  cbv
  repeat' first
    | apply And.intro
    | exact True.intro
    | with_reducible rfl
    | exact same_of hA rfl
    | refine br_of hA (fun _ => ?_) (fun _ => ?_)
    | exact imp_of hA id
    | (refine imp_of hA ?_; subst hA; simp only [real, Bool.true_and]; exact id)
    | (refine ind_of hA ?_; decide +kernel)
    | (refine call_of hA hM _ (to_Job j) ?_; cbv)
    | (refine call_of hA hM _ hS ?_; cbv)
    | fail
  refine stop_of hA ⟨[(1, .c (.bp 64 1 0)), (3, .c (.bp 192 1 0))], [(64, 1, .box [.d (eI j.srcs), .d (eI j.tsks), .d (eI j.kind), .d (eI j.size), .d (eI j.step), .d (eI j.late), .d (eI j.tell), .d (eB j.piece), .d (eI j.least), .d (eI j.room)]), (192, 1, .box ((eCkp y).map .d))]⟩ (cov_of ?_ ?_ ?_) ?_
  · (subst hA; (repeat' first | exact True.intro | exact rfl | apply And.intro | (intro _ _; first | rfl | trivial) | (intro _ _ _; rfl)))
  · (subst hA; (repeat' first | exact True.intro | exact rfl | apply And.intro | (intro _ _; first | rfl | trivial) | (intro _ _ _; rfl)))
  · (subst hA; (repeat' first | exact True.intro | exact rfl | apply And.intro | (intro _ _; first | rfl | trivial) | (intro _ _ _; rfl) | exact .inl rfl | exact .inr (le_of_nble rfl)))
  cbv
  repeat' first
    | exact (hneg Qy.k5 Qy.b5.1 hA (by assumption)).elim
    | apply And.intro
    | exact True.intro
    | with_reducible rfl
    | exact same_of hA rfl
    | refine br_of hA (fun _ => ?_) (fun _ => ?_)
    | exact imp_of hA id
    | (refine imp_of hA ?_; subst hA; simp only [real, Bool.true_and]; exact id)
    | (refine ind_of hA ?_; decide +kernel)
    | (refine call_of hA hM _ (to_Job j) ?_; cbv)
    | (refine call_of hA hM _ hI ?_; cbv)
    | (subst hA; exact flatR fun _ => flat_int _)
    | (subst hA; exact flatR fun _ => flat_bool _)
    | (refine call_of2 hA hM _ (eq_Ckp y) (by (subst hA; first | rfl | (simp only [sub0r]; done) | (simp only [sub0r]; rfl))) ?_; cbv)
    | (exfalso; rename_i h; subst hA; simp [real] at h; done)
    | fail
  refine stop_of hA ⟨[(1, .c (.bp 64 1 0)), (3, .c (.bp 192 1 0)), (4, .c (.bp 256 1 0))], [(64, 1, .box [.d (eI j.srcs), .d (eI j.tsks), .d (eI j.kind), .d (eI j.size), .d (eI j.step), .d (eI j.late), .d (eI j.tell), .d (eB j.piece), .d (eI j.least), .d (eI j.room)]), (192, 1, .box ((eCkp y).map .d)), (256, 1, .box [.d (eI y.n), .d (eB y.opn), .own 834 0 y.src.n 1, .own 835 0 y.tsk.n 1, .nown 836 y.snaps.n 1, .d (eI y.safe.n), .own 838 0 y.safe.at_.n 1, .nown 839 y.safe.snaps.n 1]), (834, 1, .arr 1 y.src.n fun i => [eI (y.src.g i)]), (835, 1, .arr 1 y.tsk.n fun i => [eB (y.tsk.g i)]), (836, 1, .nest 3 y.snaps.n (fun i => eSnap (y.snaps.g i)) none), (838, 1, .arr 1 y.safe.at_.n fun i => [eI (y.safe.at_.g i)]), (839, 1, .nest 3 y.safe.snaps.n (fun i => eSnap (y.safe.snaps.g i)) none)]⟩ (cov_of ?_ ?_ ?_) ?_
  · (subst hA; (repeat' first | exact True.intro | exact rfl | apply And.intro | (intro _ _; first | rfl | trivial) | (intro _ _ _; rfl)))
  · (subst hA; (repeat' first | exact True.intro | exact rfl | apply And.intro | (intro _ _; first | rfl | trivial) | (intro _ _ _; rfl)))
  · (subst hA; (repeat' first | exact True.intro | exact rfl | apply And.intro | (intro _ _; first | rfl | trivial) | (intro _ _ _; rfl) | exact .inl rfl | exact .inr (le_of_nble rfl)))
  cbv
  repeat' first
    | exact (hneg Qy.k5 Qy.b5.1 hA (by assumption)).elim
    | apply And.intro
    | exact True.intro
    | with_reducible rfl
    | exact same_of hA rfl
    | refine br_of hA (fun _ => ?_) (fun _ => ?_)
    | exact imp_of hA id
    | (refine imp_of hA ?_; subst hA; simp only [real, Bool.true_and]; exact id)
    | (refine ind_of hA ?_; decide +kernel)
    | (subst hA; exact flatR fun _ => flat_int _)
    | (subst hA; exact flatR fun _ => flat_bool _)
    | (refine inl_call hA _ _ _ ⟨fun _ => (by rw [← hM]; exact kg), (by cbv; repeat' first | apply And.intro | exact True.intro | rfl | exact .inr trivial | exact .inl trivial), ?_⟩; cbv)
    | (exfalso; rename_i h; subst hA; simp [real] at h; done)
    | fail
  refine stop_of hA ⟨[(1, .c (.bp 64 1 0)), (3, .c (.bp 192 1 0)), (4, .c (.bp 256 1 0)), (5, .c (.d (eI Qy.k5)))], [(64, 1, .box [.d (eI j.srcs), .d (eI j.tsks), .d (eI j.kind), .d (eI j.size), .d (eI j.step), .d (eI j.late), .d (eI j.tell), .d (eB j.piece), .d (eI j.least), .d (eI j.room)]), (192, 1, .box ((eCkp y).map .d)), (256, 1, .box [.d (eI y.n), .d (eB y.opn), .own 834 0 y.src.n 1, .own 835 0 y.tsk.n 1, .nown 836 y.snaps.n 1, .d (eI y.safe.n), .own 838 0 y.safe.at_.n 1, .nown 839 y.safe.snaps.n 1]), (834, 1, .arr 1 y.src.n fun i => [eI (Qy.f1 i)]), (835, 1, .arr 1 y.tsk.n fun i => [eB (Qy.f2 i)]), (836, 1, .nest 3 y.snaps.n (fun i => eSnap (Qy.f3 i)) none), (838, 1, .arr 1 y.safe.at_.n fun i => [eI (Qy.f4 i)]), (839, 1, .nest 3 y.safe.snaps.n (fun i => eSnap (Qy.f5 i)) none)]⟩ (cov_of ?_ ?_ ?_) ?_
  · (subst hA; (repeat' first | exact True.intro | exact rfl | apply And.intro | (intro _ _; first | rfl | trivial) | (intro _ _ _; rfl)))
  · (subst hA; (repeat' first | exact True.intro | exact rfl | apply And.intro | (intro _ _; first | rfl | trivial) | (intro _ _ _; rfl)))
  · (subst hA; (repeat' first | exact True.intro | exact rfl | apply And.intro | (intro _ _; first | rfl | trivial) | (intro _ _ _; rfl) | exact .inl rfl | exact .inr (le_of_nble rfl)))
  cbv
  repeat' first
    | exact (hneg Qy.k5 Qy.b5.1 hA (by assumption)).elim
    | apply And.intro
    | exact True.intro
    | with_reducible rfl
    | exact same_of hA rfl
    | refine br_of hA (fun _ => ?_) (fun _ => ?_)
    | exact imp_of hA id
    | (refine imp_of hA ?_; subst hA; simp only [real, Bool.true_and]; exact id)
    | (refine ind_of hA ?_; decide +kernel)
    | (subst hA; exact flatR fun _ => flat_int _)
    | (subst hA; exact flatR fun _ => flat_bool _)
    | (refine call_of2 hA hM _ hh (by (subst hA; first | rfl | (simp only [sub0r]; done) | (simp only [sub0r]; rfl))) ?_; cbv)
    | (exfalso; rename_i h; subst hA; simp [real] at h; done)
    | fail
  refine stop_of hA ⟨[(1, .c (.bp 64 1 0)), (3, .c (.bp 192 1 0)), (4, .c (.bp 256 1 0)), (5, .c (.d (eI Qy.k5)))], [(64, 1, .box [.d (eI j.srcs), .d (eI j.tsks), .d (eI j.kind), .d (eI j.size), .d (eI j.step), .d (eI j.late), .d (eI j.tell), .d (eB j.piece), .d (eI j.least), .d (eI j.room)]), (192, 1, .box ((eCkp y).map .d)), (256, 1, .box [.d (eI y.n), .d (eB y.opn), .own 834 0 y.src.n 1, .own 835 0 y.tsk.n 1, .nown 836 y.snaps.n 1, .d (eI y.safe.n), .own 838 0 y.safe.at_.n 1, .nown 839 y.safe.snaps.n 1]), (834, 1, .arr 1 y.src.n fun i => [eI (Qy.f1 i)]), (835, 1, .arr 1 y.tsk.n fun i => [eB (Qy.f2 i)]), (836, 1, .nest 3 y.snaps.n (fun i => eSnap (Qy.f3 i)) none), (838, 1, .arr 1 y.safe.at_.n fun i => [eI (Qy.f4 i)]), (839, 1, .nest 3 y.safe.snaps.n (fun i => eSnap (Qy.f5 i)) none)]⟩ (cov_of ?_ ?_ ?_) ?_
  · (subst hA; (repeat' first | exact True.intro | exact rfl | apply And.intro | (intro _ _; first | rfl | trivial) | (intro _ _ _; rfl)))
  · (subst hA; (repeat' first | exact True.intro | exact rfl | apply And.intro | (intro _ _; first | rfl | trivial) | (intro _ _ _; rfl)))
  · (subst hA; (repeat' first | exact True.intro | exact rfl | apply And.intro | (intro _ _; first | rfl | trivial) | (intro _ _ _; rfl) | exact .inl rfl | exact .inr (le_of_nble rfl)))
  cbv
  repeat' first
    | exact (hneg Qy.k5 Qy.b5.1 hA (by assumption)).elim
    | apply And.intro
    | exact True.intro
    | with_reducible rfl
    | exact same_of hA rfl
    | refine br_of hA (fun _ => ?_) (fun _ => ?_)
    | exact imp_of hA id
    | (refine imp_of hA ?_; subst hA; simp only [real, Bool.true_and]; exact id)
    | (refine ind_of hA ?_; decide +kernel)
    | (refine call_of hA hM _ (to_Job j) ?_; cbv)
    | (refine call_of hA hM _ hI ?_; cbv)
    | (subst hA; exact flatR fun _ => flat_int _)
    | (subst hA; exact flatR fun _ => flat_bool _)
    | (refine call_of2 hA hM _ (eq_Ckp y) (by (subst hA; first | rfl | (simp only [sub0r]; done) | (simp only [sub0r]; rfl))) ?_; cbv)
    | (refine call_of2 hA hM _ hh (by (subst hA; first | rfl | (simp only [sub0r]; done) | (simp only [sub0r]; rfl))) ?_; cbv)
    | (exfalso; rename_i h; subst hA; simp [real] at h; done)
    | fail
  all_goals trace_state
end Go.Rk
