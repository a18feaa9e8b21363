/- The walk over this seat's functions, part 8: what each of them answers, at all data. -/
import Derived.Test.YtmgeaomdilinnaaGreatM1
import Derived.Test.YtmgeaomdilinnaaGreatM2
import Derived.Test.YtmgeaomdilinnaaGreatM3
import Derived.Test.YtmgeaomdilinnaaGreatM4
import Derived.Test.YtmgeaomdilinnaaGreatM5
import Derived.Test.YtmgeaomdilinnaaGreatM6
import Derived.Test.YtmgeaomdilinnaaGreatM7
import Derived.Test.YtmgeaomdilinnaaGreatRows
import Derived.WalkKit
import Derived.ProofKit
import Derived.OpenShut
import Derived.ShutString
import Derived.ChangeOld
import Derived.SizedLaws
import Derived.DataShut
/- Checkpoints, as said: spec. -/
namespace Go.Rk
set_option linter.unusedSimpArgs false
set_option linter.unusedVariables false
open Go.Proofs
set_option maxRecDepth 100000
set_option maxHeartbeats 2000000
theorem c_l9Drop (a b : Nat) (ha3 : a ≤ 3) (hb2 : b ≤ 2) (r2 r3 r4 r5 r6 r7 r8 r9 : DV) (x : CkpT) : Meets Tryz.prog 77 [xd [eI (a : Int), eI (b : Int), r2, r3, r4, r5, r6, r7, r8, r9], xd (eCkp x)] ⟨.one (xd (eCkp ⟨x.n, false, ⟨a, fun _ => -1, small_len ha3⟩, ⟨b, fun _ => false, small_len (Nat.le_trans hb2 (by decide))⟩, ⟨b, fun _ => zSnp, small_len (Nat.le_trans hb2 (by decide))⟩, x.safe⟩)), [none, none]⟩ := by
  refine meets_of (H := []) (EX := EXA) ttok mixed Tryz.func77 rfl (by kernel_rfl) (by decide) ?_
  generalize hA : real = A
  generalize hM : MeetsB Tryz.prog = M
  cbv
  repeat' first
    | apply And.intro
    | exact True.intro
    | with_reducible rfl
    | exact same_of hA rfl
    | refine br_of hA (fun _ => ?_) (fun _ => ?_)
    | exact imp_of hA id
    | (refine imp_of hA ?_; subst hA; simp only [real, Bool.true_and]; exact id)
    | (refine ind_of hA ?_; decide +kernel)
    | (refine call_of hA hM _ (c_nobody a b ha3 hb2 r2 r3 r4 r5 r6 r7 r8 r9) ?_; cbv)
    | fail
def EXSCkpDrop : FuncId → List Nat × Bool := fun f =>  ([], false)
theorem c_sCkpDrop (j : JobT) (x : CkpT) (hb : bdCkp x) (y : CkpT) (hy : y = dropP j x) : Meets Tryz.prog 23 [xd (eJob j), xd (eCkp x)] ⟨.one (xd (eCkp y)), [none, none]⟩ := by
  obtain ⟨t, ht, hm⟩ := c_sCkpOk j x hb
  have hcp := c_sCkp x hb
  cases t with
  | false =>
    have hno : ¬ CkpOkP j x := fun h => by have := ht.2 h; cases this
    obtain rfl : y = zCkp := by rw [hy]; unfold dropP; rw [dif_neg hno]
    refine meets_wk (r := .one (.agg [.d (eI 0), .d (eB false), .d (.v nilS), .d (.v nilS), .d (.v nilS), .d (eI 0), .d (.v nilS), .d (.v nilS)])) ?_ (by repeat' first | exact True.intro | exact rfl | exact DLe.rfl | exact dle_nil _ _ | apply And.intro | (intro _ _; exact LsLe.rfl) | (refine dle_sl fun _ _ => ?_; exact ⟨DLe.rfl, dle_nil _ _, dle_nil _ _, trivial⟩))
    refine meets_of (H := []) (EX := EXSCkpDrop) ttok mixed Tryz.func23 rfl (by kernel_rfl) (by decide) ?_
    generalize hA : real = A
    generalize hM : MeetsB Tryz.prog = M
    cbv
    repeat' first
      | exact absurd (show false = true by subst hA; assumption) (by decide)
      | exact absurd (show true = false by subst hA; assumption) (by decide)
      | apply And.intro
      | exact True.intro
      | with_reducible rfl
      | exact same_of hA rfl
      | refine br_of hA (fun _ => ?_) (fun _ => ?_)
      | exact imp_of hA id
      | (refine imp_of hA ?_; subst hA; simp only [real, Bool.true_and]; exact id)
      | (refine ind_of hA ?_; decide +kernel)
      | (refine call_of hA hM _ hm ?_; cbv)
      | fail
  | true =>
    have hok : CkpOkP j x := ht.1 rfl
    have ea := jobS (ckpJob hok)
    have eb := jobT (ckpJob hok)
    obtain ⟨a, ha⟩ : ∃ a : Nat, a = j.srcs.toNat := ⟨_, rfl⟩
    obtain ⟨b, hbb⟩ : ∃ b : Nat, b = j.tsks.toNat := ⟨_, rfl⟩
    obtain ⟨ha1, ha3, ja⟩ : 1 ≤ a ∧ a ≤ 3 ∧ (a : Int) = j.srcs := by rw [ha]; exact ea
    obtain ⟨hb1, hb2, jb⟩ : 1 ≤ b ∧ b ≤ 2 ∧ (b : Int) = j.tsks := by rw [hbb]; exact eb
    obtain rfl : y = ⟨x.n, false, ⟨a, fun _ => -1, small_len ha3⟩, ⟨b, fun _ => false, small_len (Nat.le_trans hb2 (by decide))⟩, ⟨b, fun _ => zSnp, small_len (Nat.le_trans hb2 (by decide))⟩, x.safe⟩ := by
      rw [hy]; unfold dropP; rw [dif_pos hok]; unfold idleP; subst ha hbb; rfl
    obtain ⟨j0, j1, j2, j3, j4, j5, j6, j7, j8, j9⟩ := j
    obtain rfl : (a : Int) = j0 := ja
    obtain rfl : (b : Int) = j1 := jb
    refine meets_of (H := []) (EX := EXSCkpDrop) ttok mixed Tryz.func23 rfl (by kernel_rfl) (by decide) ?_
    generalize hA : real = A
    generalize hM : MeetsB Tryz.prog = M
    cbv
    repeat' first
      | exact absurd (show false = true by subst hA; assumption) (by decide)
      | exact absurd (show true = false by subst hA; assumption) (by decide)
      | apply And.intro
      | exact True.intro
      | with_reducible rfl
      | exact same_of hA rfl
      | refine br_of hA (fun _ => ?_) (fun _ => ?_)
      | exact imp_of hA id
      | (refine imp_of hA ?_; subst hA; simp only [real, Bool.true_and]; exact id)
      | (refine ind_of hA ?_; decide +kernel)
      | (refine call_of hA hM _ hm ?_; cbv)
      | (refine call_of hA hM _ hcp ?_; cbv)
      | (refine call_of hA hM _ (c_l9Drop a b ha3 hb2 (eI j2) (eI j3) (eI j4) (eI j5) (eI j6) (eB j7) (eI j8) (eI j9) x) ?_; cbv)
      | fail
end Go.Rk
/- How long the results are. -/
namespace Go.Rk
set_option linter.unusedSimpArgs false
set_option linter.unusedVariables false
theorem bd_zSnp : bdSnap zSnp := ⟨Nat.zero_le _, Nat.zero_le _⟩
theorem bd_zCkp : bdCkp zCkp := ⟨Nat.zero_le _, Nat.zero_le _, Nat.zero_le _, fun i h => absurd h (Nat.not_lt_zero i), Nat.zero_le _, Nat.zero_le _, fun i h => absurd h (Nat.not_lt_zero i)⟩
theorem tot_zCkp : totCkp zCkp = 0 := rfl
theorem lenS_le {n : Nat} (h : n ≤ 3) (hn : n ≤ maxLen) : lenS ⟨n, fun _ => zSnp, hn⟩ ≤ 3 := by
  have e : ∀ k : Nat, posS (fun _ => lenSnap zSnp) 0 k = (k : Int) := fun k => by
    induction k with
    | zero => rfl
    | succ k ih =>
      show posS (fun _ => lenSnap zSnp) 0 k + 1 = _
      rw [ih]; rfl
  show posS (fun _ => lenSnap zSnp) 0 n ≤ 3
  rw [e]; omega
theorem idle_bd {j : JobT} (h : JobOkP j) {x : CkpT} (hb : bdSafe x.safe) (ht : (x.safe.at_.n : Int) + lenS x.safe.snaps ≤ 27262976) : bdCkp (idleP j h x) ∧ totCkp (idleP j h x) ≤ 40000000 := by
  have e1 := jobS h
  have e2 := jobT h
  have d : (3 : Nat) ≤ 1048576 := by decide
  refine ⟨⟨by show j.srcs.toNat ≤ _; omega, by show j.tsks.toNat ≤ _; omega, by show j.tsks.toNat ≤ _; omega, fun _ _ => bd_zSnp, hb⟩, ?_⟩
  have e3 : lenS (idleP j h x).snaps ≤ 3 := lenS_le (by omega) _
  show (j.srcs.toNat : Int) + (j.tsks.toNat : Int) + lenS (idleP j h x).snaps + (x.safe.at_.n : Int) + lenS x.safe.snaps ≤ _
  omega
theorem drop_bd {j : JobT} {x y : CkpT} (hb : bdCkp x) (ht : totCkp x ≤ 13631488) (hy : y = dropP j x) : bdCkp y ∧ totCkp y ≤ 40000000 := by
  subst hy
  unfold dropP
  have h3 := lenS_pos x.snaps
  unfold totCkp at ht
  by_cases h : CkpOkP j x
  · rw [dif_pos h]; exact idle_bd _ hb.2.2.2.2 (by omega)
  · rw [dif_neg h]; exact ⟨bd_zCkp, by rw [tot_zCkp]; omega⟩
end Go.Rk
/- The law, walked. -/
namespace Go.Rk
set_option linter.unusedSimpArgs false
set_option linter.unusedVariables false
open Go.Proofs Go.ChangeShapes Go.WideShapes Go.ChangeAt Go.RowKit
set_option maxRecDepth 100000
set_option maxHeartbeats 4000000
def EXL : FuncId → List Nat × Bool := fun f => bif nbeq f 21 then ([99], false) else bif nbeq f 23 then ([], true) else ([], false)
theorem m_law (j : JobT) (x : CkpT) : Meets Tryz.prog 5 [xd (eJob j), xd (eCkp x)] ⟨.one (.c (.d (eB true))), [none, none]⟩ := by
  obtain ⟨z, hz⟩ : ∃ z : Int, z = szCkp x 1048576 := ⟨_, rfl⟩
  have hc := sz_Ckp x 1048576 (by omega) (by omega) z hz
  have hs := szCkp_spec x (l0 := 1048576) (by omega) (by omega)
  have ht : 0 ≤ szCkp x 1048576 → totCkp x ≤ 13631488 := totCkp_le
  rw [← hz] at hs ht
  obtain ⟨y, hy⟩ : ∃ y, y = dropP j x := ⟨_, rfl⟩
  refine meets_of (H := [2, 6, 12, 16, 24]) (EX := EXL) ttok mixed Tryz.func5 rfl (by kernel_rfl) (by decide) ?_
  generalize hA : real = A
  generalize hM : MeetsB Tryz.prog = M
  cbv
  repeat' first
    | apply And.intro
    | exact True.intro
    | with_reducible rfl
    | exact same_of hA rfl
    | refine br_of hA (fun _ => ?_) (fun _ => ?_)
    | exact imp_of hA id
    | (refine imp_of hA ?_; subst hA; simp only [real, Bool.true_and]; exact id)
    | (refine ind_of hA ?_; decide +kernel)
    | fail
  refine stop_of hA ⟨[(5, .c (.d (eI 1048576))), (2, .c (.bp 128 1 0)), (3, .c (.bp 192 1 0))], [(128, 1, .box [.d (eI j.srcs), .d (eI j.tsks), .d (eI j.kind), .d (eI j.size), .d (eI j.step), .d (eI j.late), .d (eI j.tell), .d (eB j.piece), .d (eI j.least), .d (eI j.room)]), (192, 1, .box ((eCkp x).map .d))]⟩ (cov_of ?_ ?_ ?_) ?_
  · (subst hA; (repeat' first | exact True.intro | exact rfl | apply And.intro | (intro _ _; first | rfl | trivial) | (intro _ _ _; rfl)))
  · (subst hA; (repeat' first | exact True.intro | exact rfl | apply And.intro | (intro _ _; first | rfl | trivial) | (intro _ _ _; rfl)))
  · (subst hA; (repeat' first | exact True.intro | exact rfl | apply And.intro | (intro _ _; first | rfl | trivial) | (intro _ _ _; rfl) | exact .inl rfl | exact .inr (le_of_nble rfl)))
  cbv
  repeat' first
    | apply And.intro
    | exact True.intro
    | with_reducible rfl
    | exact same_of hA rfl
    | refine br_of hA (fun _ => ?_) (fun _ => ?_)
    | exact imp_of hA id
    | (refine imp_of hA ?_; subst hA; simp only [real, Bool.true_and]; exact id)
    | (refine ind_of hA ?_; decide +kernel)
    | (refine call_of hA hM _ hc ?_; cbv)
    | fail
  rename_i hge
  have hz0 : 0 ≤ z := by subst hA; have h : ¬ z < 0 := of_decide_eq_false hge; omega
  have hbd : bdCkp x := hs.2.2 hz0
  have htx := ht hz0
  obtain ⟨hbdy, hty⟩ := drop_bd hbd htx hy
  have hI := c_CkpDrop j x hbd y hy
  have hS := c_sCkpDrop j x hbd y hy
  have hto := to_CkpO x hbd
  obtain ⟨Qx⟩ := ckpM_ex x (by omega)
  obtain ⟨Qy⟩ := ckpM_ex y hty
  have kx := k_markx Qx hbd
  have kg := k_markg Qy hbdy
  have hh := helds_Ckp Qy hbdy
  have hneg : ∀ {A : Ar} (v : Int), 0 ≤ v → real = A → A.cmp .lss v 0 = true → False := fun v hv hA h => by subst hA; exact absurd (of_decide_eq_true h) (Int.not_lt.2 hv)
  have nx : ∀ {A : Ar}, real = A → A.bite (A.cmp .lss Qx.k5 0) true (A.bnot true) = true → False := fun hA h => by
    subst hA
    have h : (bif decide (Qx.k5 < 0) then true else !true) = true := h
    rw [decide_eq_false (Int.not_lt.2 Qx.b5.1)] at h
    cases h
  repeat' first
    | apply And.intro
    | exact True.intro
    | with_reducible rfl
    | exact same_of hA rfl
    | refine br_of hA (fun _ => ?_) (fun _ => ?_)
    | exact imp_of hA id
    | (refine imp_of hA ?_; subst hA; simp only [real, Bool.true_and]; exact id)
    | (refine ind_of hA ?_; decide +kernel)
    | (refine call_of hA hM _ (to_Job j) ?_; cbv)
    | (refine call_of hA hM _ hto ?_; cbv)
    | (refine call_of2 hA hM _ hS (by (subst hA; first | rfl | (simp only [sub0r]; done) | (simp only [sub0r]; rfl))) ?_; cbv)
    | (subst hA; exact flatR fun _ => flat_int _)
    | (subst hA; exact flatR fun _ => flat_bool _)
    | fail
  refine stop_of hA ⟨[(2, .c (.bp 128 1 0)), (3, .c (.bp 192 1 0)), (6, .c (.bp 384 1 0))], [(128, 1, .box [.d (eI j.srcs), .d (eI j.tsks), .d (eI j.kind), .d (eI j.size), .d (eI j.step), .d (eI j.late), .d (eI j.tell), .d (eB j.piece), .d (eI j.least), .d (eI j.room)]), (192, 1, .box ((eCkp x).map .d)), (384, 1, .box ((eCkp y).map .d))]⟩ (cov_of ?_ ?_ ?_) ?_
  · (subst hA; (repeat' first | exact True.intro | exact rfl | apply And.intro | (intro _ _; first | rfl | trivial) | (intro _ _ _; rfl)))
  · (subst hA; (repeat' first | exact True.intro | exact rfl | apply And.intro | (intro _ _; first | rfl | trivial) | (intro _ _ _; rfl)))
  · (subst hA; (repeat' first | exact True.intro | exact rfl | apply And.intro | (intro _ _; first | rfl | trivial) | (intro _ _ _; rfl) | exact .inl rfl | exact .inr (le_of_nble rfl)))
  cbv
  repeat' first
    | exact (hneg Qy.k5 Qy.b5.1 hA (by assumption)).elim
    | exact (nx hA (by assumption)).elim
    | apply And.intro
    | exact True.intro
    | with_reducible rfl
    | exact same_of hA rfl
    | refine br_of hA (fun _ => ?_) (fun _ => ?_)
    | exact imp_of hA id
    | (refine imp_of hA ?_; subst hA; simp only [real, Bool.true_and]; exact id)
    | (refine ind_of hA ?_; decide +kernel)
    | (refine call_of hA hM _ (to_Job j) ?_; cbv)
    | (refine call_of hA hM _ hto ?_; cbv)
    | (subst hA; exact flatR fun _ => flat_int _)
    | (subst hA; exact flatR fun _ => flat_bool _)
    | (refine call_of2 hA hM _ hI (by (subst hA; first | rfl | (simp only [sub0r]; done) | (simp only [sub0r]; rfl))) ?_; cbv)
    | (refine call_of2 hA hM _ (eq_Ckp y) (by (subst hA; first | rfl | (simp only [sub0r]; done) | (simp only [sub0r]; rfl))) ?_; cbv)
    | (refine call_of2 hA hM _ (eq_Ckp x) (by (subst hA; first | rfl | (simp only [sub0r]; done) | (simp only [sub0r]; rfl))) ?_; cbv)
    | (exfalso; rename_i h; subst hA; simp [real] at h; done)
    | fail
  refine stop_of hA ⟨[(2, .c (.bp 128 1 0)), (3, .c (.bp 192 1 0)), (6, .c (.bp 384 1 0)), (7, .c (.bp 448 1 0)), (8, .c (.bp 512 1 0))], [(128, 1, .box [.d (eI j.srcs), .d (eI j.tsks), .d (eI j.kind), .d (eI j.size), .d (eI j.step), .d (eI j.late), .d (eI j.tell), .d (eB j.piece), .d (eI j.least), .d (eI j.room)]), (192, 1, .box ((eCkp x).map .d)), (384, 1, .box ((eCkp y).map .d)), (448, 1, .box [.d (eI x.n), .d (eB x.opn), .own 1538 0 x.src.n 1, .own 1539 0 x.tsk.n 1, .nown 1540 x.snaps.n 1, .d (eI x.safe.n), .own 1542 0 x.safe.at_.n 1, .nown 1543 x.safe.snaps.n 1]), (1538, 1, .arr 1 x.src.n fun i => [eI (x.src.g i)]), (1539, 1, .arr 1 x.tsk.n fun i => [eB (x.tsk.g i)]), (1540, 1, .nest 3 x.snaps.n (fun i => eSnap (x.snaps.g i)) none), (1542, 1, .arr 1 x.safe.at_.n fun i => [eI (x.safe.at_.g i)]), (1543, 1, .nest 3 x.safe.snaps.n (fun i => eSnap (x.safe.snaps.g i)) none), (512, 1, .box [.d (eI y.n), .d (eB y.opn), .own 1794 0 y.src.n 1, .own 1795 0 y.tsk.n 1, .nown 1796 y.snaps.n 1, .d (eI y.safe.n), .own 1798 0 y.safe.at_.n 1, .nown 1799 y.safe.snaps.n 1]), (1794, 1, .arr 1 y.src.n fun i => [eI (y.src.g i)]), (1795, 1, .arr 1 y.tsk.n fun i => [eB (y.tsk.g i)]), (1796, 1, .nest 3 y.snaps.n (fun i => eSnap (y.snaps.g i)) none), (1798, 1, .arr 1 y.safe.at_.n fun i => [eI (y.safe.at_.g i)]), (1799, 1, .nest 3 y.safe.snaps.n (fun i => eSnap (y.safe.snaps.g i)) none)]⟩ (cov_of ?_ ?_ ?_) ?_
  · (subst hA; (repeat' first | exact True.intro | exact rfl | apply And.intro | (intro _ _; first | rfl | trivial) | (intro _ _ _; rfl)))
  · (subst hA; (repeat' first | exact True.intro | exact rfl | apply And.intro | (intro _ _; first | rfl | trivial) | (intro _ _ _; rfl)))
  · (subst hA; (repeat' first | exact True.intro | exact rfl | apply And.intro | (intro _ _; first | rfl | trivial) | (intro _ _ _; rfl) | exact .inl rfl | exact .inr (le_of_nble rfl)))
  cbv
  repeat' first
    | exact (hneg Qy.k5 Qy.b5.1 hA (by assumption)).elim
    | exact (nx hA (by assumption)).elim
    | apply And.intro
    | exact True.intro
    | with_reducible rfl
    | exact same_of hA rfl
    | refine br_of hA (fun _ => ?_) (fun _ => ?_)
    | exact imp_of hA id
    | (refine imp_of hA ?_; subst hA; simp only [real, Bool.true_and]; exact id)
    | (refine ind_of hA ?_; decide +kernel)
    | (refine call_of hA hM _ (to_Job j) ?_; cbv)
    | (refine call_of hA hM _ hto ?_; cbv)
    | (subst hA; exact flatR fun _ => flat_int _)
    | (subst hA; exact flatR fun _ => flat_bool _)
    | (refine inl_call hA _ _ _ ⟨fun _ => (by rw [← hM]; exact kx), (by cbv; repeat' first | apply And.intro | exact True.intro | rfl | exact .inr trivial | exact .inl trivial), ?_⟩; cbv)
    | (refine call_of2 hA hM _ (eq_Ckp y) (by (subst hA; first | rfl | (simp only [sub0r]; done) | (simp only [sub0r]; rfl))) ?_; cbv)
    | (refine call_of2 hA hM _ (eq_Ckp x) (by (subst hA; first | rfl | (simp only [sub0r]; done) | (simp only [sub0r]; rfl))) ?_; cbv)
    | (exfalso; rename_i h; subst hA; simp [real] at h; done)
    | fail
  refine stop_of hA ⟨[(2, .c (.bp 128 1 0)), (3, .c (.bp 192 1 0)), (6, .c (.bp 384 1 0)), (8, .c (.bp 512 1 0))], [(128, 1, .box [.d (eI j.srcs), .d (eI j.tsks), .d (eI j.kind), .d (eI j.size), .d (eI j.step), .d (eI j.late), .d (eI j.tell), .d (eB j.piece), .d (eI j.least), .d (eI j.room)]), (192, 1, .box ((eCkp x).map .d)), (384, 1, .box ((eCkp y).map .d)), (512, 1, .box [.d (eI y.n), .d (eB y.opn), .own 1794 0 y.src.n 1, .own 1795 0 y.tsk.n 1, .nown 1796 y.snaps.n 1, .d (eI y.safe.n), .own 1798 0 y.safe.at_.n 1, .nown 1799 y.safe.snaps.n 1]), (1794, 1, .arr 1 y.src.n fun i => [eI (y.src.g i)]), (1795, 1, .arr 1 y.tsk.n fun i => [eB (y.tsk.g i)]), (1796, 1, .nest 3 y.snaps.n (fun i => eSnap (y.snaps.g i)) none), (1798, 1, .arr 1 y.safe.at_.n fun i => [eI (y.safe.at_.g i)]), (1799, 1, .nest 3 y.safe.snaps.n (fun i => eSnap (y.safe.snaps.g i)) none)]⟩ (cov_of ?_ ?_ ?_) ?_
  · (subst hA; (repeat' first | exact True.intro | exact rfl | apply And.intro | (intro _ _; first | rfl | trivial) | (intro _ _ _; rfl)))
  · (subst hA; (repeat' first | exact True.intro | exact rfl | apply And.intro | (intro _ _; first | rfl | trivial) | (intro _ _ _; rfl)))
  · (subst hA; (repeat' first | exact True.intro | exact rfl | apply And.intro | (intro _ _; first | rfl | trivial) | (intro _ _ _; rfl) | exact .inl rfl | exact .inr (le_of_nble rfl)))
  cbv
  repeat' first
    | exact (hneg Qy.k5 Qy.b5.1 hA (by assumption)).elim
    | exact (nx hA (by assumption)).elim
    | apply And.intro
    | exact True.intro
    | with_reducible rfl
    | exact same_of hA rfl
    | refine br_of hA (fun _ => ?_) (fun _ => ?_)
    | exact imp_of hA id
    | (refine imp_of hA ?_; subst hA; simp only [real, Bool.true_and]; exact id)
    | (refine ind_of hA ?_; decide +kernel)
    | (refine call_of hA hM _ (to_Job j) ?_; cbv)
    | (refine call_of hA hM _ hto ?_; cbv)
    | (subst hA; exact flatR fun _ => flat_int _)
    | (subst hA; exact flatR fun _ => flat_bool _)
    | (refine inl_call hA _ _ _ ⟨fun _ => (by rw [← hM]; exact kg), (by cbv; repeat' first | apply And.intro | exact True.intro | rfl | exact .inr trivial | exact .inl trivial), ?_⟩; cbv)
    | (refine call_of2 hA hM _ hh (by (subst hA; first | rfl | (simp only [sub0r]; done) | (simp only [sub0r]; rfl))) ?_; cbv)
    | (exfalso; rename_i h; subst hA; simp [real] at h; done)
    | fail
  refine stop_of hA ⟨[(2, .c (.bp 128 1 0)), (3, .c (.bp 192 1 0)), (6, .c (.bp 384 1 0)), (8, .c (.bp 512 1 0)), (10, .c (.d (eI Qy.k5)))], [(128, 1, .box [.d (eI j.srcs), .d (eI j.tsks), .d (eI j.kind), .d (eI j.size), .d (eI j.step), .d (eI j.late), .d (eI j.tell), .d (eB j.piece), .d (eI j.least), .d (eI j.room)]), (192, 1, .box ((eCkp x).map .d)), (384, 1, .box ((eCkp y).map .d)), (512, 1, .box [.d (eI y.n), .d (eB y.opn), .own 1794 0 y.src.n 1, .own 1795 0 y.tsk.n 1, .nown 1796 y.snaps.n 1, .d (eI y.safe.n), .own 1798 0 y.safe.at_.n 1, .nown 1799 y.safe.snaps.n 1]), (1794, 1, .arr 1 y.src.n fun i => [eI (Qy.f1 i)]), (1795, 1, .arr 1 y.tsk.n fun i => [eB (Qy.f2 i)]), (1796, 1, .nest 3 y.snaps.n (fun i => eSnap (Qy.f3 i)) none), (1798, 1, .arr 1 y.safe.at_.n fun i => [eI (Qy.f4 i)]), (1799, 1, .nest 3 y.safe.snaps.n (fun i => eSnap (Qy.f5 i)) none)]⟩ (cov_of ?_ ?_ ?_) ?_
  · (subst hA; (repeat' first | exact True.intro | exact rfl | apply And.intro | (intro _ _; first | rfl | trivial) | (intro _ _ _; rfl)))
  · (subst hA; (repeat' first | exact True.intro | exact rfl | apply And.intro | (intro _ _; first | rfl | trivial) | (intro _ _ _; rfl)))
  · (subst hA; (repeat' first | exact True.intro | exact rfl | apply And.intro | (intro _ _; first | rfl | trivial) | (intro _ _ _; rfl) | exact .inl rfl | exact .inr (le_of_nble rfl)))
  cbv
  repeat' first
    | exact (hneg Qy.k5 Qy.b5.1 hA (by assumption)).elim
    | exact (nx hA (by assumption)).elim
    | apply And.intro
    | exact True.intro
    | with_reducible rfl
    | exact same_of hA rfl
    | refine br_of hA (fun _ => ?_) (fun _ => ?_)
    | exact imp_of hA id
    | (refine imp_of hA ?_; subst hA; simp only [real, Bool.true_and]; exact id)
    | (refine ind_of hA ?_; decide +kernel)
    | (refine call_of hA hM _ (to_Job j) ?_; cbv)
    | (refine call_of hA hM _ hto ?_; cbv)
    | (subst hA; exact flatR fun _ => flat_int _)
    | (subst hA; exact flatR fun _ => flat_bool _)
    | (refine call_of2 hA hM _ hI (by (subst hA; first | rfl | (simp only [sub0r]; done) | (simp only [sub0r]; rfl))) ?_; cbv)
    | (refine call_of2 hA hM _ (eq_Ckp y) (by (subst hA; first | rfl | (simp only [sub0r]; done) | (simp only [sub0r]; rfl))) ?_; cbv)
    | (refine call_of2 hA hM _ (eq_Ckp x) (by (subst hA; first | rfl | (simp only [sub0r]; done) | (simp only [sub0r]; rfl))) ?_; cbv)
    | (refine call_of2 hA hM _ hh (by (subst hA; first | rfl | (simp only [sub0r]; done) | (simp only [sub0r]; rfl))) ?_; cbv)
    | (exfalso; rename_i h; subst hA; simp [real] at h; done)
    | fail
  all_goals trace_state
end Go.Rk
