/- The walk over this seat's functions, part 7: what each of them answers, at all data. -/
import Derived.Test.YtgiomkpcpieplaaM1
import Derived.Test.YtgiomkpcpieplaaM2
import Derived.Test.YtgiomkpcpieplaaM3
import Derived.Test.YtgiomkpcpieplaaM4
import Derived.Test.YtgiomkpcpieplaaM5
import Derived.Test.YtgiomkpcpieplaaM6
/- Rows that are deleted. -/
namespace Go.Rk
set_option linter.unusedSimpArgs false
set_option linter.unusedVariables false
open Go.Proofs
set_option maxRecDepth 100000
set_option maxHeartbeats 1000000
def stIxRow2 (n : Nat) (g : Nat → RowT) (F : FuncId) (c0 c1 : DV) (i : Nat) : St := ⟨[(8, .c (.d (eI i))), (7, .c (.d (eI n))), (0, .c (.d (.sl 13 n fun i => eRow (g i)))), (1, .c (.d (.fn F [c0, c1])))], []⟩
set_option maxRecDepth 100000 in
theorem c_IndexRow2 (n : Nat) (hn : n ≤ maxLen) (g : Nat → RowT) (F : FuncId) (c0 c1 : DV) (Q : RowT → Prop) (hc : ∀ r, ∃ b, (b = true ↔ Q r) ∧ Meets Try.prog F [xd (eRow r), .c (.d c0), .c (.d c1)] ⟨.one (.c (.d (eB b))), [none, none, none]⟩) : ∃ x, FirstIx n (fun i => Q (g i)) x ∧ Meets Try.prog 99 [.c (.d (.sl 13 n fun i => eRow (g i))), .c (.d (.fn F [c0, c1]))] ⟨.one (.c (.d (eI x))), [none, none]⟩ := by
  obtain ⟨x, hx⟩ := firstIx_ex n fun i => Q (g i)
  refine ⟨x, hx, ?_⟩
  refine meets_of (H := []) (EX := EXA) ttok mixed Try.func99 rfl (by kernel_rfl) (by decide) ?_
  generalize hA : real = A
  generalize hM : MeetsB Try.prog = M
  cbv
  repeat' first
    | apply And.intro
    | exact True.intro
    | with_reducible rfl
    | exact same_of hA rfl
    | refine br_of hA (fun _ => ?_) (fun _ => ?_)
    | exact imp_of hA id
    | (refine imp_of hA ?_; subst hA; simp only [real, Bool.true_and]; exact id)
    | (refine ind_of hA ?_; decide +kernel)
  refine loop_of hA (α := { i : Nat // i ≤ n ∧ ∀ j, j < i → ¬ Q (g j) }) (fun x => stIxRow2 n g F c0 c1 x.1) (fun x => n - x.1) ⟨0, Nat.zero_le _, fun j h => absurd h (Nat.not_lt_zero _)⟩ ?_ ?_
  · refine cov_of ?_ ?_ ?_
    · cbv; subst hA; exact ⟨rfl, rfl, trivial⟩
    · cbv
    · cbv
  rintro ⟨i, hi, hb⟩
  cbv
  repeat' first
    | apply And.intro
    | exact True.intro
    | with_reducible rfl
    | exact same_of hA rfl
    | refine br_of hA (fun _ => ?_) (fun _ => ?_)
    | exact imp_of hA id
    | (refine imp_of hA ?_; subst hA; simp only [real, Bool.true_and]; exact id)
    | (refine ind_of hA ?_; decide +kernel)
    | (refine inb_of hA fun _ => ?_; subst hA; simp only [real, decide_eq_true_eq, Int.ofNat_eq_natCast] at *; omega)
  · refine call_ex hA hM (hc (g (A.nat (Int.ofNat i)))) (fun b hbb => ?_)
    cbv
    repeat' first
      | apply And.intro
      | exact True.intro
      | with_reducible rfl
      | exact same_of hA rfl
      | refine br_of hA (fun _ => ?_) (fun _ => ?_)
      | exact imp_of hA id
      | (refine imp_of hA ?_; subst hA; simp only [real, Bool.true_and]; exact id)
      | (refine ind_of hA ?_; decide +kernel)
    · rename_i hlt ht
      subst hA
      simp only [real, decide_eq_true_eq, Int.ofNat_eq_natCast, Int.toNat_natCast] at *
      obtain rfl := firstIx_one hx (.at i (by omega) (hbb.1 ht) hb)
      rfl
    · rename_i hlt ht
      have hlt' : i < n := by subst hA; simp only [real, decide_eq_true_eq, Int.ofNat_eq_natCast] at hlt; omega
      refine ⟨⟨i + 1, by omega, fun j hj => ?_⟩, by simp only; omega, cov_of ?_ ?_ ?_⟩
      · by_cases e : j = i
        · subst e
          subst hA
          intro hq
          have := hbb.2 hq
          rw [ht] at this
          cases this
        · exact hb j (by omega)
      · cbv
        subst hA
        exact ⟨congrArg (fun x => DV.v (.int .i64 x)) (up64 hlt' hn), trivial⟩
      · cbv
      · cbv
  · subst hA
    simp only [real, decide_eq_false_iff_not, Int.ofNat_eq_natCast] at *
    obtain rfl := firstIx_one hx (.none fun j hj => hb j (by omega))
    rfl
def st_del (n : Nat) (F : FuncId) (c0 c1 : DV) (i j : Nat) (R : Nat → RowT) : St := ⟨[(6, .c (.d (eI j))), (5, .c (.d (eI i))), (1, .c (.d (.fn F [c0, c1]))), (0, .c (.own 0 0 n 1))], [(0, 1, .arr 13 n fun i => eRow (R i))]⟩
theorem c_DeleteRow2 (n : Nat) (hn : n ≤ 1080000) (g : Nat → RowT) (F : FuncId) (c0 c1 : DV) (d : RowT → Bool) (hc : ∀ r, Meets Try.prog F [xd (eRow r), .c (.d c0), .c (.d c1)] ⟨.one (.c (.d (eB (d r)))), [none, none, none]⟩)
    (k : Nat) (G : Nat → RowT) (hG : Lst zRow (keepN g d n) k G) : Meets Try.prog 61 [.c (.own 13 n fun i => eRow (g i)), .c (.d (.fn F [c0, c1]))] ⟨.one (.c (.own 13 k fun i => eRow (G i))), [none, none]⟩ := by
  have hnL : n ≤ maxLen := Nat.le_trans hn (by decide)
  obtain ⟨x, hx, cI⟩ := c_IndexRow2 n hnL g F c0 c1 (fun r => d r = true) (fun r => ⟨d r, Iff.rfl, hc r⟩)
  refine meets_up (res := .one (.c (.own 13 k fun q => if q < k then eRow (G q) else eRow zRow))) (UpV.row fun i hi => if_pos hi) ?_
  refine meets_of (H := [3, 12]) (EX := EXA) ttok mixed Try.func61 rfl (by kernel_rfl) (by decide) ?_
  generalize hA : real = A
  generalize hM : MeetsB Try.prog = M
  cbv
  repeat' first
    | apply And.intro
    | exact True.intro
    | with_reducible rfl
    | exact same_of hA rfl
    | refine br_of hA (fun _ => ?_) (fun _ => ?_)
    | exact imp_of hA id
    | (refine imp_of hA ?_; subst hA; simp only [real, Bool.true_and]; exact id)
    | (refine ind_of hA ?_; decide +kernel)
    | (refine call_of2 hA hM _ cI (by (subst hA; first | rfl | (simp only [sub0r]; try rfl))) ?_; cbv)
  · rename_i hm1
    have hx1 : x = -1 := by subst hA; exact of_decide_eq_true hm1
    have hall : Lst zRow (keepN g d n) n g := keepN_none fun q hq hd => by
      have := (firstIx_neg hx).1.2 ⟨q, hq, hd⟩
      omega
    have hkn : k = n := hG.1.trans hall.1.symm
    subst hkn
    refine stop_of hA ⟨[(0, .c (.own 0 0 k 1))], [(0, 1, .arr 13 k fun q => if q < k then eRow (G q) else eRow zRow)]⟩ (cov_of ?_ ?_ ?_) ?_
    · cbv; try (subst hA; repeat' first | apply And.intro | exact True.intro | rfl)
    · cbv
      refine ⟨fun q hq => ?_, trivial⟩
      refine Eq.trans (congrArg eRow ((hall.2 q hq).trans (hG.2 q hq).symm)) (if_pos hq).symm
    · cbv; try (subst hA; repeat' first | apply And.intro | exact True.intro | rfl | exact .inr trivial | exact .inl trivial)
    · cbv
      repeat' first
        | apply And.intro
        | exact True.intro
        | with_reducible rfl
        | exact same_of hA rfl
        | refine br_of hA (fun _ => ?_) (fun _ => ?_)
        | exact imp_of hA id
        | (refine imp_of hA ?_; subst hA; simp only [real, Bool.true_and]; exact id)
        | (refine ind_of hA ?_; decide +kernel)
  · rename_i hm1
    have hx1 : ¬ x = -1 := by subst hA; exact of_decide_eq_false hm1
    obtain ⟨i0, hi0, hxi, hd0, hb0⟩ := (firstIx_neg hx).2.1 (Classical.byContradiction fun h => hx1 ((firstIx_neg hx).2.2 h))
    have hl0 : Lst zRow (keepN g d (i0 + 1)) i0 g := by
      rw [keepN_succ, if_pos hd0, List.append_nil]
      exact keepN_none hb0
    refine loop_of hA (α := { y : Nat × Nat × (Nat → RowT) // y.1 ≤ y.2.1 ∧ y.2.1 ≤ n ∧ (∀ q, y.2.1 ≤ q → q < n → y.2.2 q = g q) ∧ Lst zRow (keepN g d y.2.1) y.1 y.2.2 }) (fun y => st_del n F c0 c1 y.1.1 y.1.2.1 y.1.2.2) (fun y => n - y.1.2.1) ⟨(i0, i0 + 1, g), by simp only; omega, by simp only; omega, fun q _ _ => rfl, hl0⟩ ?_ ?_
    · refine cov_of ?_ ?_ ?_
      · cbv; subst hA; subst hxi
        repeat' first | apply And.intro | exact True.intro | exact congrArg (fun x => DV.v (.int .i64 x)) (up64 hi0 hnL) | rfl
      · cbv; try (subst hA; repeat' first | apply And.intro | exact True.intro | rfl | (intro _ _; rfl))
      · cbv; try (subst hA; repeat' first | apply And.intro | exact True.intro | rfl | exact .inr trivial | exact .inl trivial)
    rintro ⟨⟨i, j, R⟩, hij, hj, hR, hL⟩
    have hij : i ≤ j := hij
    have hj : j ≤ n := hj
    have hR : ∀ q, j ≤ q → q < n → R q = g q := hR
    have hL : Lst zRow (keepN g d j) i R := hL
    cbv
    repeat' first
      | apply And.intro
      | exact True.intro
      | with_reducible rfl
      | exact same_of hA rfl
      | refine br_of hA (fun _ => ?_) (fun _ => ?_)
      | exact imp_of hA id
      | (refine imp_of hA ?_; subst hA; simp only [real, Bool.true_and]; exact id)
      | (refine ind_of hA ?_; decide +kernel)
      | (refine inb_lt hA ?_; first | exact lt2_of hA (by assumption) | exact lt_of hA (by assumption))
    · rename_i hlt
      have hlt' : j < n := lt_of hA hlt
      have hin : i < n := by omega
      have ej : A.add 0 (A.nat (Int.ofNat j)) = j := by subst hA; exact Nat.zero_add j
      refine call_of hA hM _ (hc (R (A.add 0 (A.nat (Int.ofNat j))))) ?_
      cbv
      repeat' first
        | apply And.intro
        | exact True.intro
        | with_reducible rfl
        | exact same_of hA rfl
        | refine br_of hA (fun _ => ?_) (fun _ => ?_)
        | exact imp_of hA id
        | (refine imp_of hA ?_; subst hA; simp only [real, Bool.true_and]; exact id)
        | (refine ind_of hA ?_; decide +kernel)
        | exact inb_lt hA hin
      · rename_i hd
        have hd' : ¬ d (g j) = true := by
          rw [← hR j (Nat.le_refl _) hlt']
          intro h
          have := (congrArg (fun q => d (R q)) ej).symm.trans (bnot_t hA hd)
          rw [this] at h; cases h
        refine ⟨⟨(i + 1, j + 1, fun q => if q = i then R j else R q), show i + 1 ≤ j + 1 by omega, show j + 1 ≤ n by omega, fun q hq hqn => ?_, ?_⟩, by simp only; omega, cov_of ?_ ?_ ?_⟩
        · have hq : j + 1 ≤ q := hq
          show (if q = i then R j else R q) = g q
          rw [if_neg (by omega)]; exact hR q (by omega) hqn
        · show Lst zRow (keepN g d (j + 1)) (i + 1) (fun q => if q = i then R j else R q)
          rw [keepN_succ, if_neg hd', ← hR j (Nat.le_refl _) hlt']
          exact lst_push hL fun q _ => rfl
        · cbv; subst hA; repeat' first | apply And.intro | exact True.intro | exact congrArg (fun x => DV.v (.int .i64 x)) (up64 hlt' hnL) | exact congrArg (fun x => DV.v (.int .i64 x)) (up64 hin hnL) | rfl
        · cbv; 
          refine ⟨fun q hq => ?_, trivial⟩
          subst hA
          by_cases e : q = i
          · have e2 : q = 0 + i := by omega
            refine Eq.trans ((if_pos e2).trans (congrArg (fun q => eRow (R q)) (Nat.zero_add j))) (congrArg eRow (if_pos e).symm)
          · have e2 : ¬ q = 0 + i := by omega
            exact (if_neg e2).trans (congrArg eRow (if_neg e).symm)
        · cbv; try (subst hA; repeat' first | apply And.intro | exact True.intro | rfl | exact .inr trivial | exact .inl trivial)
      · rename_i hd
        have hd' : d (g j) = true := by
          rw [← hR j (Nat.le_refl _) hlt']
          exact (congrArg (fun q => d (R q)) ej).symm.trans (bnot_f hA hd)
        refine ⟨⟨(i, j + 1, R), show i ≤ j + 1 by omega, show j + 1 ≤ n by omega, fun q hq hqn => hR q (Nat.le_of_succ_le hq) hqn, ?_⟩, by simp only; omega, cov_of ?_ ?_ ?_⟩
        · show Lst zRow (keepN g d (j + 1)) i R
          rw [keepN_succ, if_pos hd', List.append_nil]; exact hL
        · cbv; subst hA; repeat' first | apply And.intro | exact True.intro | exact congrArg (fun x => DV.v (.int .i64 x)) (up64 hlt' hnL) | exact congrArg (fun x => DV.v (.int .i64 x)) (up64 hin hnL) | rfl
        · cbv; try (subst hA; repeat' first | apply And.intro | exact True.intro | rfl | (intro _ _; rfl))
        · cbv; try (subst hA; repeat' first | apply And.intro | exact True.intro | rfl | exact .inr trivial | exact .inl trivial)
    · subst hA
      show 0 ≤ (i : Int) ∧ (i : Int) ≤ (n : Int) ∧ (n : Int) ≤ (n : Int)
      omega
    · rename_i hge
      have hjn : j = n := by have := ge_of hA hge; omega
      subst hjn
      have hik : i = k := hL.1.trans hG.1.symm
      subst hik
      refine stop_of hA ⟨[(5, .c (.d (eI i))), (0, .c (.own 0 0 j 1))], [(0, 1, .arr 13 j fun q => if q < i then eRow (G q) else eRow zRow)]⟩ (cov_of ?_ ?_ ?_) ?_
      · cbv; try (subst hA; repeat' first | apply And.intro | exact True.intro | rfl)
      · cbv
        refine ⟨fun q hq => ?_, trivial⟩
        subst hA
        by_cases e : q < i
        · have e2 : q < 0 + i := by omega
          exact (if_pos e2).trans ((congrArg eRow ((hL.2 q e).trans (hG.2 q e).symm)).trans (if_pos e).symm)
        · have e2 : ¬ q < 0 + i := by omega
          have e3 : q - (0 + i) < ((j : Int) - (i : Int)).toNat := by omega
          exact (if_neg e2).trans ((if_pos e3).trans (if_neg e).symm)
      · cbv; try (subst hA; repeat' first | apply And.intro | exact True.intro | rfl | exact .inr trivial | exact .inl trivial)
      · cbv
        repeat' first
          | apply And.intro
          | exact True.intro
          | with_reducible rfl
          | exact same_of hA rfl
          | refine br_of hA (fun _ => ?_) (fun _ => ?_)
          | exact imp_of hA id
          | (refine imp_of hA ?_; subst hA; simp only [real, Bool.true_and]; exact id)
          | (refine ind_of hA ?_; decide +kernel)
        · subst hA; show 0 ≤ (0 : Int) ∧ (0 : Int) ≤ (i : Int) ∧ (i : Int) ≤ (j : Int); omega
        · exact same_of hA (by subst hA; rfl)
        · subst hA
          have e : ((i : Int) - 0).toNat = i := by omega
          exact congrArg (fun n => XA.one (XT.c (XV.own 13 n fun q => if q < i then eRow (G q) else eRow zRow))) e
end Go.Rk
/- A mark is taken. -/
namespace Go.Rk
set_option linter.unusedSimpArgs false
set_option linter.unusedVariables false
open Go.Proofs
set_option maxRecDepth 100000
set_option maxHeartbeats 1000000
def EXO : FuncId → List Nat × Bool := fun f => bif nbeq f 60 then ([99], false) else bif nbeq f 61 then ([0], false) else ([], false)
def st_om (j : JobT) (m : Int) (n : Nat) (i : Nat) (R : Nat → RowT) (c : Nat) (P : Nat → PaneT) : St := ⟨[(45, .c (.d (eI i))), (44, .c (.d (eI n))), (8, .c (.bp 1600 1 0)), (6, .c (.bp 384 1 0)), (5, .c (.bp 320 1 0)), (3, .c (.bp 192 1 0))],
  [(1600, 1, .box [.d (eI j.srcs), .d (eI j.tsks), .d (eI j.kind), .d (eI j.size), .d (eI j.step), .d (eI j.late), .d (eI j.tell), .d (eB j.piece), .d (eI j.least), .d (eI j.room), .d (eI m), .own 1473 0 n 1, .own 5000 0 c 1, .d (.v nilS)]), (1473, 1, .arr 13 n fun i => eRow (R i)), (5000, 1, .arr 9 c fun i => ePane (P i)), (384, 1, .box [.d (eI 0), .d (.v nilS)]), (320, 1, .box [.d (eI m)]), (192, 1, .box [.d (eI j.srcs), .d (eI j.tsks), .d (eI j.kind), .d (eI j.size), .d (eI j.step), .d (eI j.late), .d (eI j.tell), .d (eB j.piece), .d (eI j.least), .d (eI j.room)])]⟩
theorem m_OpMark (j : JobT) (mk m : Int) (n : Nat) (hnL : n ≤ maxLen) (hn : n ≤ 1080000) (g : Nat → RowT) (hok : OpOkP j ⟨mk, ⟨n, g, hnL⟩⟩) (hm : 0 ≤ m ∧ m ≤ 1000) (hlt : mk < m) (k : Nat) (G : Nat → RowT) (hG : Lst zRow (keepN (fun i => markR m (g i)) (overB j.late m) n) k G)
    (c : Nat) (P : Nat → PaneT) (hP : Lst zPan (tellN j.piece m g n) c P) : Meets Try.prog 16 [xd (eJob j), .agg [.d (eI mk), .d (.sl 13 n fun i => eRow (g i))], .c (.d (eI m))] ⟨.tup [.agg [.d (eI m), .own 13 k fun i => eRow (G i)], .c (.own 9 c fun i => ePane (P i))], [none, none, none]⟩ := by
  obtain ⟨b1, hb1, cO⟩ := c_OpOk j ⟨mk, ⟨n, g, hnL⟩⟩
  obtain ⟨b2, hb2, cT⟩ := c_isTime m
  have hb1' : b1 = true := hb1.2 hok
  have hb2' : b2 = true := by rw [hb2, decide_eq_true_eq]; exact hm
  subst hb1'
  rw [hb2'] at cT
  have hT : ∀ r, Meets Try.prog 62 [xd (eRow r), .c (.d (.p [eI m])), .c (.d (.p (eJob j)))] ⟨.one (.c (.d (eB (overB j.late m r)))), [none, none, none]⟩ := fun r => c_over j m r _ rfl
  have cD := c_DeleteRow2 n hn (fun i => markR m (g i)) 62 _ _ _ hT k G hG
  have no1 : ∀ {A : Ar}, real = A → A.bite (A.bnot true) true (A.bnot true) = true → False := fun hA h => by subst hA; exact absurd h (by decide)
  have no2 : ∀ {A : Ar}, real = A → A.cmp .leq m mk = true → False := fun hA h => by subst hA; exact absurd (of_decide_eq_true h) (by omega)
  refine meets_of (H := [14]) (EX := EXO) ttok mixed Try.func16 rfl (by kernel_rfl) (by decide) ?_
  generalize hA : real = A
  generalize hM : MeetsB Try.prog = M
  cbv
  repeat' first
    | exact (no1 hA (by assumption)).elim
    | exact (no2 hA (by assumption)).elim
    | apply And.intro
    | exact True.intro
    | with_reducible rfl
    | exact same_of hA rfl
    | refine br_of hA (fun _ => ?_) (fun _ => ?_)
    | exact imp_of hA id
    | (refine imp_of hA ?_; subst hA; simp only [real, Bool.true_and]; exact id)
    | (refine ind_of hA ?_; decide +kernel)
    | (refine call_of hA hM _ cO ?_; cbv)
    | (refine call_of hA hM _ cT ?_; cbv)
    | (refine call_of2 hA hM _ (c_copied mk n hn g) (by subst hA; rfl) ?_; cbv)
  refine loop_of hA (α := { y : Nat × (Nat → RowT) × Nat × (Nat → PaneT) // y.1 ≤ n ∧ (∀ q, q < n → y.2.1 q = if q < y.1 then markR m (g q) else g q) ∧ Lst zPan (tellN j.piece m g y.1) y.2.2.1 y.2.2.2 }) (fun y => st_om j m n y.1.1 y.1.2.1 y.1.2.2.1 y.1.2.2.2) (fun y => n - y.1.1) ⟨(0, g, 0, fun _ => zPan), Nat.zero_le _, fun q _ => (if_neg (Nat.not_lt_zero q)).symm, rfl, fun k h => absurd h (Nat.not_lt_zero k)⟩ ?_ ?_
  · refine cov_promC 1600 5000 1 9 (fun i => ePane zPan) [.d (eI j.srcs), .d (eI j.tsks), .d (eI j.kind), .d (eI j.size), .d (eI j.step), .d (eI j.late), .d (eI j.tell), .d (eB j.piece), .d (eI j.least), .d (eI j.room), .d (eI m), .own 1473 0 n 1] [.d (.v nilS)] rfl rfl rfl (cov_of ?_ ?_ ?_)
    · cbv; try (subst hA; repeat' first | apply And.intro | exact True.intro | rfl | fail)
    · cbv; try (subst hA; repeat' first | apply And.intro | exact True.intro | rfl | (intro _ _; rfl) | (intro k hk; exact absurd hk (Nat.not_lt_zero k)) | fail)
    · cbv; try (subst hA; repeat' first | apply And.intro | exact True.intro | rfl | exact .inr trivial | exact .inl trivial)
  rintro ⟨⟨i, R, c1, P1⟩, hi, hR, hL⟩
  have hi : i ≤ n := hi
  have hR : ∀ q, q < n → R q = if q < i then markR m (g q) else g q := hR
  have hL : Lst zPan (tellN j.piece m g i) c1 P1 := hL
  have hc1 : c1 ≤ i := by rw [hL.1]; exact tellN_len _ _ _ _
  cbv
  repeat' first
    | apply And.intro
    | exact True.intro
    | with_reducible rfl
    | exact same_of hA rfl
    | refine br_of hA (fun _ => ?_) (fun _ => ?_)
    | exact imp_of hA id
    | (refine imp_of hA ?_; subst hA; simp only [real, Bool.true_and]; exact id)
    | (refine ind_of hA ?_; decide +kernel)
    | (refine inb_lt hA ?_; first | exact lt2_of hA (by assumption) | exact lt_of hA (by assumption))
  · rename_i hlt hdue
    have hlt' : i < n := lt2_of hA hlt
    have eq0 : A.add 0 (A.nat (Int.ofNat i)) = i := by subst hA; exact Nat.zero_add i
    have hRi : R i = g i := by rw [hR i hlt', if_neg (Nat.lt_irrefl i)]
    have hh : ∀ q, q = i → A.bite (A.bnot (R q).timely) (A.cmp .leq (R q).win.e m) false = dueB m (g i) := by
      rintro q rfl
      rw [hRi]
      subst hA
      unfold dueB
      show (bif !(g q).timely then decide ((g q).win.e ≤ m) else false) = _
      cases (g q).timely <;> rfl
    have hd : dueB m (g i) = true := (hh _ eq0).symm.trans hdue
    have hq0 : A.add 0 (A.nat (Int.ofNat i)) < n := by rw [eq0]; exact hlt'
    have hT1 := c_tell j m n R (A.add 0 (A.nat (Int.ofNat i))) (.d (.v nilS)) hq0 c1 (by omega) P1 1 (fun q => if q = i then toldR (R i) else R q) (fun z => by rw [eq0]) (fun z => if z < c1 then P1 z else paneP j.piece (R i) 1) (fun z => by rw [eq0])
    refine inl_call hA _ _ _ ⟨fun _ => (by rw [← hM]; exact hT1), ?_, ?_⟩
    · cbv
      exact ⟨⟨.inr trivial, .inr trivial, trivial⟩, trivial⟩
    · cbv
      repeat' first
        | apply And.intro
        | exact True.intro
        | with_reducible rfl
        | exact same_of hA rfl
        | refine br_of hA (fun _ => ?_) (fun _ => ?_)
        | exact imp_of hA id
        | (refine imp_of hA ?_; subst hA; simp only [real, Bool.true_and]; exact id)
        | (refine ind_of hA ?_; decide +kernel)
      refine ⟨⟨(i + 1, fun q => if q = i then toldR (R i) else R q, c1 + 1, fun z => if z < c1 then P1 z else paneP j.piece (R i) 1), hlt', ?_, ?_⟩, by simp only; omega, cov_of ?_ ?_ ?_⟩
      · intro q hq
        show (if q = i then toldR (R i) else R q) = if q < i + 1 then markR m (g q) else g q
        by_cases e : q = i
        · rw [if_pos e, e, if_pos (by omega), hRi]; unfold markR; rw [if_pos hd]
        · rw [if_neg e, hR q hq]
          by_cases h : q < i
          · rw [if_pos h, if_pos (by omega)]
          · rw [if_neg h, if_neg (by omega)]
      · show Lst zPan (tellN j.piece m g (i + 1)) (c1 + 1) _
        rw [tellN_succ, if_pos hd, hRi]
        refine lst_push hL fun q hq => ?_
        show (if q < c1 then P1 q else _) = if q = c1 then _ else P1 q
        by_cases e : q = c1
        · rw [if_pos e, if_neg (by omega)]
        · rw [if_neg e, if_pos (by omega)]
      · cbv; subst hA; repeat' first | apply And.intro | exact True.intro | exact congrArg (fun x => DV.v (.int .i64 x)) (up64 hlt' hnL) | rfl
      · cbv; try (subst hA; repeat' first | apply And.intro | exact True.intro | rfl | (intro _ _; rfl))
      · cbv; try (subst hA; repeat' first | apply And.intro | exact True.intro | rfl | exact .inr trivial | exact .inl trivial)
  · rename_i hlt hdue
    have hlt' : i < n := lt2_of hA hlt
    have eq0 : A.add 0 (A.nat (Int.ofNat i)) = i := by subst hA; exact Nat.zero_add i
    have hRi : R i = g i := by rw [hR i hlt', if_neg (Nat.lt_irrefl i)]
    have hh : ∀ q, q = i → A.bite (A.bnot (R q).timely) (A.cmp .leq (R q).win.e m) false = dueB m (g i) := by
      rintro q rfl
      rw [hRi]
      subst hA
      unfold dueB
      show (bif !(g q).timely then decide ((g q).win.e ≤ m) else false) = _
      cases (g q).timely <;> rfl
    have hd : ¬ dueB m (g i) = true := by
      intro h
      have := (hh _ eq0).symm.trans hdue
      rw [h] at this; cases this
    refine ⟨⟨(i + 1, R, c1, P1), hlt', ?_, ?_⟩, by simp only; omega, cov_of ?_ ?_ ?_⟩
    · intro q hq
      show R q = if q < i + 1 then markR m (g q) else g q
      rw [hR q hq]
      by_cases e : q = i
      · rw [if_neg (by omega), if_pos (by omega), e]; unfold markR; rw [if_neg hd]
      · by_cases h : q < i
        · rw [if_pos h, if_pos (by omega)]
        · rw [if_neg h, if_neg (by omega)]
    · show Lst zPan (tellN j.piece m g (i + 1)) c1 P1
      rw [tellN_succ, if_neg hd, List.append_nil]; exact hL
    · cbv; subst hA; repeat' first | apply And.intro | exact True.intro | exact congrArg (fun x => DV.v (.int .i64 x)) (up64 hlt' hnL) | rfl
    · cbv; try (subst hA; repeat' first | apply And.intro | exact True.intro | rfl | (intro _ _; rfl))
    · cbv; try (subst hA; repeat' first | apply And.intro | exact True.intro | rfl | exact .inr trivial | exact .inl trivial)
  · rename_i hge
    have hin : i = n := by have := ge2_of hA hge; omega
    subst hin
    have hcc : c1 = c := hL.1.trans hP.1.symm
    subst hcc
    refine stop_of hA ⟨[(8, .c (.bp 1600 1 0)), (6, .c (.bp 384 1 0)), (5, .c (.bp 320 1 0)), (3, .c (.bp 192 1 0))], [(1600, 1, .box [.d (eI j.srcs), .d (eI j.tsks), .d (eI j.kind), .d (eI j.size), .d (eI j.step), .d (eI j.late), .d (eI j.tell), .d (eB j.piece), .d (eI j.least), .d (eI j.room), .d (eI m), .own 1473 0 i 1, .own 5000 0 c1 1, .d (.v nilS)]), (1473, 1, .arr 13 i fun q => eRow (markR m (g q))), (5000, 1, .arr 9 c1 fun q => ePane (P q)), (384, 1, .box [.d (eI 0), .d (.v nilS)]), (320, 1, .box [.d (eI m)]), (192, 1, .box [.d (eI j.srcs), .d (eI j.tsks), .d (eI j.kind), .d (eI j.size), .d (eI j.step), .d (eI j.late), .d (eI j.tell), .d (eB j.piece), .d (eI j.least), .d (eI j.room)])]⟩ (cov_of ?_ ?_ ?_) ?_
    · cbv; try (subst hA; repeat' first | apply And.intro | exact True.intro | rfl)
    · cbv
      refine ⟨fun q hq => congrArg eRow ((hR q hq).trans (if_pos hq)), fun q hq => congrArg ePane ((hL.2 q hq).trans (hP.2 q hq).symm), trivial⟩
    · cbv; try (subst hA; repeat' first | apply And.intro | exact True.intro | rfl | exact .inr trivial | exact .inl trivial)
    · cbv
      repeat' first
        | apply And.intro
        | exact True.intro
        | with_reducible rfl
        | exact same_of hA rfl
        | refine br_of hA (fun _ => ?_) (fun _ => ?_)
        | exact imp_of hA id
        | (refine imp_of hA ?_; subst hA; simp only [real, Bool.true_and]; exact id)
        | (refine ind_of hA ?_; decide +kernel)
        | (refine call_of2 hA hM _ cD (by (subst hA; first | rfl | (simp only [sub0r]; try rfl))) ?_; cbv)
        | exact flat_row hA _ _
      all_goals trace_state
end Go.Rk
/- A mark is taken, whole. -/
namespace Go.Rk
set_option linter.unusedSimpArgs false
set_option linter.unusedVariables false
open Go.Proofs
set_option maxRecDepth 100000
set_option maxHeartbeats 1000000
theorem m_l7Mark0 (j : JobT) (mk m : Int) (n : Nat) (hn : n ≤ 1080000) (g : Nat → RowT) (hmk : m ≤ mk) (P : Nat → PaneT) : Meets Try.prog 57 [xd (eJob j), .agg [.d (eI mk), .own 13 n fun i => eRow (g i)], .c (.d (eI m))] ⟨.tup [.agg [.d (eI mk), .own 13 n fun i => eRow (g i)], .c (.own 9 0 fun i => ePane (P i))], [none, none, none]⟩ := by
  refine meets_up (res := .tup [.agg [.d (eI mk), .own 13 n fun i => eRow (g i)], .c (.own 9 0 fun i => real.rep [eI 0, eI 0, eI 0, eI 0, eI 0, eI 0, eI 0, eI 0, eI 0] i)]) ⟨⟨UpV.refl _, UpV.refl _, trivial⟩, UpV.row fun i hi => absurd hi (Nat.not_lt_zero i), trivial⟩ ?_
  have no2 : ∀ {A : Ar}, real = A → A.cmp .leq m mk = false → False := fun hA h => by subst hA; exact absurd hmk (of_decide_eq_false h)
  refine meets_of (H := []) (EX := EXA) ttok mixed Try.func57 rfl (by kernel_rfl) (by decide) ?_
  generalize hA : real = A
  generalize hM : MeetsB Try.prog = M
  cbv
  repeat' first
    | exact (no2 hA (by assumption)).elim
    | apply And.intro
    | exact True.intro
    | with_reducible rfl
    | exact same_of hA rfl
    | refine br_of hA (fun _ => ?_) (fun _ => ?_)
    | exact imp_of hA id
    | (refine imp_of hA ?_; subst hA; simp only [real, Bool.true_and]; exact id)
    | (refine ind_of hA ?_; decide +kernel)
  all_goals (subst hA; rfl)
def st_sm (j : JobT) (m : Int) (n : Nat) (g : Nat → RowT) (i k : Nat) (R : Nat → RowT) (c : Nat) (P : Nat → PaneT) : St := ⟨[(10, .c (.d (eI i))), (9, .c (.own 1344 0 k 1)), (8, .c (.own 768 0 c 1)), (6, .c (.bp 384 1 0)), (4, .c (.bp 256 1 0)), (3, .c (.bp 192 1 0)), (2, .c (.d (eI m)))],
  [(768, 1, .arr 9 c fun i => ePane (P i)), (1344, 1, .arr 13 k fun i => eRow (R i)), (11, 1, .arr 13 n fun i => eRow (g i)), (384, 1, .box [.d (eI 0), .d (.v nilS)]), (256, 1, .box [.d (eI m), .own 11 0 n 1]), (192, 1, .box [.d (eI j.srcs), .d (eI j.tsks), .d (eI j.kind), .d (eI j.size), .d (eI j.step), .d (eI j.late), .d (eI j.tell), .d (eB j.piece), .d (eI j.least), .d (eI j.room)])]⟩
theorem m_l7Mark1 (j : JobT) (mk m : Int) (n : Nat) (hn : n ≤ 1080000) (g : Nat → RowT) (hmk : mk < m) (k : Nat) (G : Nat → RowT) (hG : Lst zRow (keepN (fun i => markR m (g i)) (overB j.late m) n) k G)
    (c : Nat) (P : Nat → PaneT) (hP : Lst zPan (tellN j.piece m g n) c P) : Meets Try.prog 57 [xd (eJob j), .agg [.d (eI mk), .own 13 n fun i => eRow (g i)], .c (.d (eI m))] ⟨.tup [.agg [.d (eI m), .own 13 k fun i => eRow (G i)], .c (.own 9 c fun i => ePane (P i))], [none, none, none]⟩ := by
  have hnL : n ≤ maxLen := Nat.le_trans hn (by decide)
  have no2 : ∀ {A : Ar}, real = A → A.cmp .leq m mk = true → False := fun hA h => by subst hA; exact absurd (of_decide_eq_true h) (by omega)
  refine meets_of (H := [15, 17]) (EX := EXA) ttok mixed Try.func57 rfl (by kernel_rfl) (by decide) ?_
  generalize hA : real = A
  generalize hM : MeetsB Try.prog = M
  cbv
  repeat' first
    | exact (no2 hA (by assumption)).elim
    | apply And.intro
    | exact True.intro
    | with_reducible rfl
    | exact same_of hA rfl
    | refine br_of hA (fun _ => ?_) (fun _ => ?_)
    | exact imp_of hA id
    | (refine imp_of hA ?_; subst hA; simp only [real, Bool.true_and]; exact id)
    | (refine ind_of hA ?_; decide +kernel)
  refine loop_of hA (α := { y : Nat × Nat × (Nat → RowT) × Nat × (Nat → PaneT) // y.1 ≤ n ∧ Lst zRow (keepN (fun i => markR m (g i)) (overB j.late m) y.1) y.2.1 y.2.2.1 ∧ Lst zPan (tellN j.piece m g y.1) y.2.2.2.1 y.2.2.2.2 }) (fun y => st_sm j m n g y.1.1 y.1.2.1 y.1.2.2.1 y.1.2.2.2.1 y.1.2.2.2.2) (fun y => n - y.1.1) ⟨(0, 0, fun _ => zRow, 0, fun _ => zPan), Nat.zero_le _, ⟨rfl, fun k h => absurd h (Nat.not_lt_zero k)⟩, ⟨rfl, fun k h => absurd h (Nat.not_lt_zero k)⟩⟩ ?_ ?_
  · refine cov_of ?_ ?_ ?_
    · cbv; try (subst hA; repeat' first | apply And.intro | exact True.intro | rfl | fail)
    · cbv; try (subst hA; repeat' first | apply And.intro | exact True.intro | rfl | (intro _ _; rfl) | (intro k hk; exact absurd hk (Nat.not_lt_zero k)) | fail)
    · cbv; try (subst hA; repeat' first | apply And.intro | exact True.intro | rfl | exact .inr trivial | exact .inl trivial)
  rintro ⟨⟨i, k1, R, c1, P1⟩, hi, hK, hL⟩
  have hi : i ≤ n := hi
  have hK : Lst zRow (keepN (fun i => markR m (g i)) (overB j.late m) i) k1 R := hK
  have hL : Lst zPan (tellN j.piece m g i) c1 P1 := hL
  have hk1 : k1 ≤ i := by rw [hK.1]; exact keepN_len _ _ _
  have hc1 : c1 ≤ i := by rw [hL.1]; exact tellN_len _ _ _ _
  cbv
  repeat' first
    | apply And.intro
    | exact True.intro
    | with_reducible rfl
    | exact same_of hA rfl
    | refine br_of hA (fun _ => ?_) (fun _ => ?_)
    | exact imp_of hA id
    | (refine imp_of hA ?_; subst hA; simp only [real, Bool.true_and]; exact id)
    | (refine ind_of hA ?_; decide +kernel)
    | (refine inb_lt hA ?_; first | exact lt2_of hA (by assumption) | exact lt_of hA (by assumption))
  · rename_i hlt hdue
    have hlt' : i < n := lt_of hA hlt
    have eq0 : A.add 0 (A.nat (Int.ofNat i)) = i := by subst hA; exact Nat.zero_add i
    have hh : ∀ q, q = i → A.bite (A.bnot (g q).timely) (A.cmp .geq m (g q).win.e) false = dueB m (g i) := by
      rintro q rfl
      subst hA
      unfold dueB
      show (bif !(g q).timely then decide (m ≥ (g q).win.e) else false) = _
      cases (g q).timely <;> rfl
    obtain ⟨r, hr⟩ : ∃ r, r = markR m (g i) := ⟨_, rfl⟩
    have hd : dueB m (g i) = true := (hh _ eq0).symm.trans hdue
    have hrd : r = toldR (g i) := by rw [hr]; unfold markR; rw [if_pos hd]
    have E : toldR (g (A.add 0 (A.nat (Int.ofNat i)))) = r := by rw [eq0, hrd]
    obtain ⟨pp, hpp⟩ : ∃ p, p = paneP j.piece (g i) 1 := ⟨_, rfl⟩
    have cP := c_l7Pane j (g (A.add 0 (A.nat (Int.ofNat i)))) 1 pp (by rw [eq0]; exact hpp)
    have hL2 : Lst zPan (tellN j.piece m g (i + 1)) (c1 + 1) (fun z => if z < c1 then P1 z else pp) := by
      rw [tellN_succ, if_pos hd, ← hpp]
      refine lst_push hL fun q hq => ?_
      by_cases e : q = c1
      · rw [if_pos e, if_neg (by omega)]
      · rw [if_neg e, if_pos (by omega)]
    refine call_of hA hM _ cP ?_
    cbv
    repeat' first
      | apply And.intro
      | exact True.intro
      | with_reducible rfl
      | exact same_of hA rfl
      | refine br_of hA (fun _ => ?_) (fun _ => ?_)
      | exact imp_of hA id
      | (refine imp_of hA ?_; subst hA; simp only [real, Bool.true_and]; exact id)
      | (refine ind_of hA ?_; decide +kernel)
      | exact room_add2 hA (by omega) (by decide)
    refine stop_of hA ⟨[(11, .c (.bp 704 1 0)), (10, .c (.d (eI i))), (9, .c (.own 1344 0 k1 1)), (8, .c (.own 768 0 (c1 + 1) 1)), (6, .c (.bp 384 1 0)), (4, .c (.bp 256 1 0)), (3, .c (.bp 192 1 0)), (2, .c (.d (eI m)))],
      [(704, 1, .box ((eRow r).map .d)), (768, 1, .arr 9 (c1 + 1) fun z => ePane (if z < c1 then P1 z else pp)), (1344, 1, .arr 13 k1 fun i => eRow (R i)), (11, 1, .arr 13 n fun i => eRow (g i)), (384, 1, .box [.d (eI 0), .d (.v nilS)]), (256, 1, .box [.d (eI m), .own 11 0 n 1]), (192, 1, .box [.d (eI j.srcs), .d (eI j.tsks), .d (eI j.kind), .d (eI j.size), .d (eI j.step), .d (eI j.late), .d (eI j.tell), .d (eB j.piece), .d (eI j.least), .d (eI j.room)])]⟩ (cov_of ?_ ?_ ?_) ?_
    · cbv; try (subst hA; repeat' first | apply And.intro | exact True.intro | rfl)
    · cbv; try (subst hA; repeat' first | apply And.intro | exact True.intro | rfl | (intro _ _; rfl) | (intro z hz; exact push_if (A := real) ePane rfl c1 P1 _ _ z hz) | exact (congrArg (fun x : RowT => DV.v (.int .i64 x.key)) E :) | exact (congrArg (fun x : RowT => DV.v (.int .i64 x.win.s)) E :) | exact (congrArg (fun x : RowT => DV.v (.int .i64 x.win.e)) E :) | exact (congrArg (fun x : RowT => DV.v (.int .i64 x.all.n)) E :) | exact (congrArg (fun x : RowT => DV.v (.int .i64 x.all.sum)) E :) | exact (congrArg (fun x : RowT => DV.v (.int .i64 x.all.least)) E :) | exact (congrArg (fun x : RowT => DV.v (.int .i64 x.all.most)) E :) | exact (congrArg (fun x : RowT => DV.v (.int .i64 x.fresh.n)) E :) | exact (congrArg (fun x : RowT => DV.v (.int .i64 x.fresh.sum)) E :) | exact (congrArg (fun x : RowT => DV.v (.int .i64 x.fresh.least)) E :) | exact (congrArg (fun x : RowT => DV.v (.int .i64 x.fresh.most)) E :) | exact (congrArg (fun x : RowT => DV.v (.int .i64 x.told)) E :) | exact (congrArg (fun x : RowT => DV.v (.bool x.timely)) E :) | exact (congrArg (fun x : RowT => CV.d (DV.v (.int .i64 x.key))) E :) | exact (congrArg (fun x : RowT => CV.d (DV.v (.int .i64 x.win.s))) E :) | exact (congrArg (fun x : RowT => CV.d (DV.v (.int .i64 x.win.e))) E :) | exact (congrArg (fun x : RowT => CV.d (DV.v (.int .i64 x.all.n))) E :) | exact (congrArg (fun x : RowT => CV.d (DV.v (.int .i64 x.all.sum))) E :) | exact (congrArg (fun x : RowT => CV.d (DV.v (.int .i64 x.all.least))) E :) | exact (congrArg (fun x : RowT => CV.d (DV.v (.int .i64 x.all.most))) E :) | exact (congrArg (fun x : RowT => CV.d (DV.v (.int .i64 x.fresh.n))) E :) | exact (congrArg (fun x : RowT => CV.d (DV.v (.int .i64 x.fresh.sum))) E :) | exact (congrArg (fun x : RowT => CV.d (DV.v (.int .i64 x.fresh.least))) E :) | exact (congrArg (fun x : RowT => CV.d (DV.v (.int .i64 x.fresh.most))) E :) | exact (congrArg (fun x : RowT => CV.d (DV.v (.int .i64 x.told))) E :) | exact (congrArg (fun x : RowT => CV.d (DV.v (.bool x.timely))) E :))
    · cbv; try (subst hA; repeat' first | apply And.intro | exact True.intro | rfl | exact .inr trivial | exact .inl trivial)
    · cbv
      repeat' first
        | apply And.intro
        | exact True.intro
        | with_reducible rfl
        | exact same_of hA rfl
        | refine br_of hA (fun _ => ?_) (fun _ => ?_)
        | exact imp_of hA id
        | (refine imp_of hA ?_; subst hA; simp only [real, Bool.true_and]; exact id)
        | (refine ind_of hA ?_; decide +kernel)
        | exact room_add2 hA (by omega) (by decide)
      · rename_i hov
        have hov2 : ¬ overB j.late m r = true := by
          subst hA
          unfold overB w64
          have := of_decide_eq_true hov
          have :  m < IntKind.i64.wrap (r.win.e + j.late) := this
          rw [decide_eq_true_eq]; omega
        rw [hr] at hov2
        refine ⟨⟨(i + 1, k1 + 1, fun z => if z < k1 then R z else r, (c1 + 1), fun z => (if z < c1 then P1 z else pp)), hlt', ?_, hL2⟩, by simp only; omega, cov_of ?_ ?_ ?_⟩
        · show Lst zRow (keepN (fun i => markR m (g i)) (overB j.late m) (i + 1)) _ _
          rw [keepN_succ, if_neg hov2, ← hr]; exact lst_push hK fun q hq => push_ite R r hq
        · cbv; subst hA; repeat' first | apply And.intro | exact True.intro | exact congrArg (fun x => DV.v (.int .i64 x)) (up64 hlt' hnL) | rfl
        · cbv; try (subst hA; repeat' first | apply And.intro | exact True.intro | rfl | (intro _ _; rfl) | (intro z hz; exact push_if (A := real) eRow rfl k1 R _ _ z hz))
        · cbv; try (subst hA; repeat' first | apply And.intro | exact True.intro | rfl | exact .inr trivial | exact .inl trivial)
      · rename_i hov
        have hov2 : overB j.late m r = true := by
          subst hA
          unfold overB w64
          have := of_decide_eq_false hov
          have : ¬ m < IntKind.i64.wrap (r.win.e + j.late) := this
          rw [decide_eq_true_eq]; omega
        rw [hr] at hov2
        refine ⟨⟨(i + 1, k1, R, (c1 + 1), fun z => (if z < c1 then P1 z else pp)), hlt', ?_, hL2⟩, by simp only; omega, cov_of ?_ ?_ ?_⟩
        · show Lst zRow (keepN (fun i => markR m (g i)) (overB j.late m) (i + 1)) _ _
          rw [keepN_succ, if_pos hov2, List.append_nil]; exact hK
        · cbv; subst hA; repeat' first | apply And.intro | exact True.intro | exact congrArg (fun x => DV.v (.int .i64 x)) (up64 hlt' hnL) | rfl
        · cbv; try (subst hA; repeat' first | apply And.intro | exact True.intro | rfl | (intro _ _; rfl) | (intro z hz; exact push_if (A := real) eRow rfl k1 R _ _ z hz))
        · cbv; try (subst hA; repeat' first | apply And.intro | exact True.intro | rfl | exact .inr trivial | exact .inl trivial)
  · rename_i hlt hdue
    have hlt' : i < n := lt_of hA hlt
    have eq0 : A.add 0 (A.nat (Int.ofNat i)) = i := by subst hA; exact Nat.zero_add i
    have hh : ∀ q, q = i → A.bite (A.bnot (g q).timely) (A.cmp .geq m (g q).win.e) false = dueB m (g i) := by
      rintro q rfl
      subst hA
      unfold dueB
      show (bif !(g q).timely then decide (m ≥ (g q).win.e) else false) = _
      cases (g q).timely <;> rfl
    obtain ⟨r, hr⟩ : ∃ r, r = markR m (g i) := ⟨_, rfl⟩
    have hd : ¬ dueB m (g i) = true := by
      intro h
      have := (hh _ eq0).symm.trans hdue
      rw [h] at this; cases this
    have hrd : r = g i := by rw [hr]; unfold markR; rw [if_neg hd]
    have E : g (A.add 0 (A.nat (Int.ofNat i))) = r := by rw [eq0, hrd]
    have hL2 : Lst zPan (tellN j.piece m g (i + 1)) c1 P1 := by
      rw [tellN_succ, if_neg hd, List.append_nil]; exact hL
    refine stop_of hA ⟨[(11, .c (.bp 704 1 0)), (10, .c (.d (eI i))), (9, .c (.own 1344 0 k1 1)), (8, .c (.own 768 0 c1 1)), (6, .c (.bp 384 1 0)), (4, .c (.bp 256 1 0)), (3, .c (.bp 192 1 0)), (2, .c (.d (eI m)))],
      [(704, 1, .box ((eRow r).map .d)), (768, 1, .arr 9 c1 fun z => ePane (P1 z)), (1344, 1, .arr 13 k1 fun i => eRow (R i)), (11, 1, .arr 13 n fun i => eRow (g i)), (384, 1, .box [.d (eI 0), .d (.v nilS)]), (256, 1, .box [.d (eI m), .own 11 0 n 1]), (192, 1, .box [.d (eI j.srcs), .d (eI j.tsks), .d (eI j.kind), .d (eI j.size), .d (eI j.step), .d (eI j.late), .d (eI j.tell), .d (eB j.piece), .d (eI j.least), .d (eI j.room)])]⟩ (cov_of ?_ ?_ ?_) ?_
    · cbv; try (subst hA; repeat' first | apply And.intro | exact True.intro | rfl)
    · cbv; try (subst hA; repeat' first | apply And.intro | exact True.intro | rfl | (intro _ _; rfl) | (intro z hz; exact push_if (A := real) ePane rfl c1 P1 _ _ z hz) | exact (congrArg (fun x : RowT => DV.v (.int .i64 x.key)) E :) | exact (congrArg (fun x : RowT => DV.v (.int .i64 x.win.s)) E :) | exact (congrArg (fun x : RowT => DV.v (.int .i64 x.win.e)) E :) | exact (congrArg (fun x : RowT => DV.v (.int .i64 x.all.n)) E :) | exact (congrArg (fun x : RowT => DV.v (.int .i64 x.all.sum)) E :) | exact (congrArg (fun x : RowT => DV.v (.int .i64 x.all.least)) E :) | exact (congrArg (fun x : RowT => DV.v (.int .i64 x.all.most)) E :) | exact (congrArg (fun x : RowT => DV.v (.int .i64 x.fresh.n)) E :) | exact (congrArg (fun x : RowT => DV.v (.int .i64 x.fresh.sum)) E :) | exact (congrArg (fun x : RowT => DV.v (.int .i64 x.fresh.least)) E :) | exact (congrArg (fun x : RowT => DV.v (.int .i64 x.fresh.most)) E :) | exact (congrArg (fun x : RowT => DV.v (.int .i64 x.told)) E :) | exact (congrArg (fun x : RowT => DV.v (.bool x.timely)) E :) | exact (congrArg (fun x : RowT => CV.d (DV.v (.int .i64 x.key))) E :) | exact (congrArg (fun x : RowT => CV.d (DV.v (.int .i64 x.win.s))) E :) | exact (congrArg (fun x : RowT => CV.d (DV.v (.int .i64 x.win.e))) E :) | exact (congrArg (fun x : RowT => CV.d (DV.v (.int .i64 x.all.n))) E :) | exact (congrArg (fun x : RowT => CV.d (DV.v (.int .i64 x.all.sum))) E :) | exact (congrArg (fun x : RowT => CV.d (DV.v (.int .i64 x.all.least))) E :) | exact (congrArg (fun x : RowT => CV.d (DV.v (.int .i64 x.all.most))) E :) | exact (congrArg (fun x : RowT => CV.d (DV.v (.int .i64 x.fresh.n))) E :) | exact (congrArg (fun x : RowT => CV.d (DV.v (.int .i64 x.fresh.sum))) E :) | exact (congrArg (fun x : RowT => CV.d (DV.v (.int .i64 x.fresh.least))) E :) | exact (congrArg (fun x : RowT => CV.d (DV.v (.int .i64 x.fresh.most))) E :) | exact (congrArg (fun x : RowT => CV.d (DV.v (.int .i64 x.told))) E :) | exact (congrArg (fun x : RowT => CV.d (DV.v (.bool x.timely))) E :))
    · cbv; try (subst hA; repeat' first | apply And.intro | exact True.intro | rfl | exact .inr trivial | exact .inl trivial)
    · cbv
      repeat' first
        | apply And.intro
        | exact True.intro
        | with_reducible rfl
        | exact same_of hA rfl
        | refine br_of hA (fun _ => ?_) (fun _ => ?_)
        | exact imp_of hA id
        | (refine imp_of hA ?_; subst hA; simp only [real, Bool.true_and]; exact id)
        | (refine ind_of hA ?_; decide +kernel)
        | exact room_add2 hA (by omega) (by decide)
      · rename_i hov
        have hov2 : ¬ overB j.late m r = true := by
          subst hA
          unfold overB w64
          have := of_decide_eq_true hov
          have :  m < IntKind.i64.wrap (r.win.e + j.late) := this
          rw [decide_eq_true_eq]; omega
        rw [hr] at hov2
        refine ⟨⟨(i + 1, k1 + 1, fun z => if z < k1 then R z else r, c1, fun z => (P1 z)), hlt', ?_, hL2⟩, by simp only; omega, cov_of ?_ ?_ ?_⟩
        · show Lst zRow (keepN (fun i => markR m (g i)) (overB j.late m) (i + 1)) _ _
          rw [keepN_succ, if_neg hov2, ← hr]; exact lst_push hK fun q hq => push_ite R r hq
        · cbv; subst hA; repeat' first | apply And.intro | exact True.intro | exact congrArg (fun x => DV.v (.int .i64 x)) (up64 hlt' hnL) | rfl
        · cbv; try (subst hA; repeat' first | apply And.intro | exact True.intro | rfl | (intro _ _; rfl) | (intro z hz; exact push_if (A := real) eRow rfl k1 R _ _ z hz))
        · cbv; try (subst hA; repeat' first | apply And.intro | exact True.intro | rfl | exact .inr trivial | exact .inl trivial)
      · rename_i hov
        have hov2 : overB j.late m r = true := by
          subst hA
          unfold overB w64
          have := of_decide_eq_false hov
          have : ¬ m < IntKind.i64.wrap (r.win.e + j.late) := this
          rw [decide_eq_true_eq]; omega
        rw [hr] at hov2
        refine ⟨⟨(i + 1, k1, R, c1, fun z => (P1 z)), hlt', ?_, hL2⟩, by simp only; omega, cov_of ?_ ?_ ?_⟩
        · show Lst zRow (keepN (fun i => markR m (g i)) (overB j.late m) (i + 1)) _ _
          rw [keepN_succ, if_pos hov2, List.append_nil]; exact hK
        · cbv; subst hA; repeat' first | apply And.intro | exact True.intro | exact congrArg (fun x => DV.v (.int .i64 x)) (up64 hlt' hnL) | rfl
        · cbv; try (subst hA; repeat' first | apply And.intro | exact True.intro | rfl | (intro _ _; rfl) | (intro z hz; exact push_if (A := real) eRow rfl k1 R _ _ z hz))
        · cbv; try (subst hA; repeat' first | apply And.intro | exact True.intro | rfl | exact .inr trivial | exact .inl trivial)
  · rename_i hge
    have hin : i = n := by have := ge_of hA hge; omega
    subst hin
    have hcc : c1 = c := hL.1.trans hP.1.symm
    have hkk : k1 = k := hK.1.trans hG.1.symm
    subst hcc hkk
    refine stop_of hA ⟨[(9, .c (.own 1344 0 k1 1)), (8, .c (.own 768 0 c1 1)), (6, .c (.bp 384 1 0)), (4, .c (.bp 256 1 0))], [(768, 1, .arr 9 c1 fun q => ePane (P q)), (1344, 1, .arr 13 k1 fun i => eRow (G i)), (384, 1, .box [.d (eI 0), .d (.v nilS)]), (11, 1, .arr 13 i fun i => eRow (g i)), (256, 1, .box [.d (eI m), .own 11 0 i 1])]⟩ (cov_of ?_ ?_ ?_) ?_
    · cbv; try (subst hA; repeat' first | apply And.intro | exact True.intro | rfl)
    · cbv
      refine ⟨fun q hq => congrArg ePane ((hL.2 q hq).trans (hP.2 q hq).symm), fun q hq => congrArg eRow ((hK.2 q hq).trans (hG.2 q hq).symm), ?_⟩
      try (subst hA; repeat' first | apply And.intro | exact True.intro | rfl | (intro _ _; rfl))
    · cbv; try (subst hA; repeat' first | apply And.intro | exact True.intro | rfl | exact .inr trivial | exact .inl trivial)
    · cbv
      repeat' first
        | apply And.intro
        | exact True.intro
        | with_reducible rfl
        | exact same_of hA rfl
        | refine br_of hA (fun _ => ?_) (fun _ => ?_)
        | exact imp_of hA id
        | (refine imp_of hA ?_; subst hA; simp only [real, Bool.true_and]; exact id)
        | (refine ind_of hA ?_; decide +kernel)
end Go.Rk
/- A mark is taken, whole. -/
namespace Go.Rk
set_option linter.unusedSimpArgs false
set_option linter.unusedVariables false
open Go.Proofs
set_option maxRecDepth 100000
set_option maxHeartbeats 1000000
def EXM : FuncId → List Nat × Bool := fun f => bif nbeq f 57 then ([1], false) else ([], false)
theorem c_sOpMark (j : JobT) (s : OpStT) (hn : s.rows.n ≤ 1080000) (m : Int) (x : Int × List RowT × List PaneT) (hx : x = opMarkL j s m) (k : Nat) (G : Nat → RowT) (hG : Lst zRow x.2.1 k G) (c : Nat) (P : Nat → PaneT) (hP : Lst zPan x.2.2 c P) :
    Meets Try.prog 15 [xd (eJob j), .agg [.d (eI s.mark), .d (.sl 13 s.rows.n fun i => eRow (s.rows.g i))], .c (.d (eI m))] ⟨.tup [.agg [.d (eI x.1), .own 13 k fun i => eRow (G i)], .c (.own 9 c fun i => ePane (P i))], [none, none, none]⟩ := by
  obtain ⟨mk, n, g, hnL⟩ := s
  have hn : n ≤ 1080000 := hn
  unfold opMarkL at hx
  by_cases hok : OpOkP j ⟨mk, ⟨n, g, hnL⟩⟩ ∧ (0 ≤ m ∧ m ≤ 1000)
  · rw [if_neg (fun h => h hok)] at hx
    by_cases hmk : m ≤ mk
    · rw [if_pos hmk] at hx
      subst hx
      have hall : Lst zRow ((List.range n).map g) n g := lst_of _ _ _
      have hkn : k = n := hG.1.trans hall.1.symm
      subst hkn
      have hc0 : c = 0 := hP.1
      subst hc0
      refine meets_up (res := .tup [.agg [.d (eI mk), .own 13 k fun i => eRow (g i)], .c (.own 9 0 fun i => ePane (P i))]) ⟨⟨UpV.refl _, UpV.row fun i hi => congrArg eRow ((hall.2 i hi).trans (hG.2 i hi).symm), trivial⟩, UpV.refl _, trivial⟩ ?_
      have cM := m_l7Mark0 j mk m k hn g hmk P
      obtain ⟨b1, hb1, cO⟩ := c_sOpOk j ⟨mk, ⟨k, g, hnL⟩⟩
      obtain ⟨b2, hb2, cT⟩ := c_l1In m 0 1000
      have hb1' : b1 = true := hb1.2 hok.1
      have hb2' : b2 = true := by rw [hb2, decide_eq_true_eq]; exact hok.2
      subst hb1'
      rw [hb2'] at cT
      have no1 : ∀ {A : Ar}, real = A → A.bite (A.bnot true) true (A.bnot true) = true → False := fun hA h => by subst hA; exact absurd h (by decide)
      have no2 : ∀ {A : Ar}, real = A → A.cmp .leq m mk = false → False := fun hA h => by subst hA; exact absurd hmk (of_decide_eq_false h)
      refine meets_of (H := []) (EX := EXM) ttok mixed Try.func15 rfl (by kernel_rfl) (by decide) ?_
      generalize hA : real = A
      generalize hM : MeetsB Try.prog = M
      cbv
      repeat' first
        | exact (no1 hA (by assumption)).elim
        | exact (no2 hA (by assumption)).elim
        | apply And.intro
        | exact True.intro
        | with_reducible rfl
        | exact same_of hA rfl
        | refine br_of hA (fun _ => ?_) (fun _ => ?_)
        | exact imp_of hA id
        | (refine imp_of hA ?_; subst hA; simp only [real, Bool.true_and]; exact id)
        | (refine ind_of hA ?_; decide +kernel)
        | (refine call_of hA hM _ cO ?_; cbv)
        | (refine call_of hA hM _ cT ?_; cbv)
        | (refine call_of2 hA hM _ (c_sCopy mk k hn g) (by subst hA; rfl) ?_; cbv)
        | (refine call_of2 hA hM _ cM (by (subst hA; first | rfl | (simp only [sub0r]; try rfl))) ?_; cbv)
        | exact flat_row hA _ _
      all_goals trace_state
    · rw [if_neg hmk] at hx
      subst hx
      have cM := m_l7Mark1 j mk m n hn g (by omega) k G hG c P hP
      obtain ⟨b1, hb1, cO⟩ := c_sOpOk j ⟨mk, ⟨n, g, hnL⟩⟩
      obtain ⟨b2, hb2, cT⟩ := c_l1In m 0 1000
      have hb1' : b1 = true := hb1.2 hok.1
      have hb2' : b2 = true := by rw [hb2, decide_eq_true_eq]; exact hok.2
      subst hb1'
      rw [hb2'] at cT
      have no1 : ∀ {A : Ar}, real = A → A.bite (A.bnot true) true (A.bnot true) = true → False := fun hA h => by subst hA; exact absurd h (by decide)
      refine meets_of (H := []) (EX := EXM) ttok mixed Try.func15 rfl (by kernel_rfl) (by decide) ?_
      generalize hA : real = A
      generalize hM : MeetsB Try.prog = M
      cbv
      repeat' first
        | exact (no1 hA (by assumption)).elim
        | apply And.intro
        | exact True.intro
        | with_reducible rfl
        | exact same_of hA rfl
        | refine br_of hA (fun _ => ?_) (fun _ => ?_)
        | exact imp_of hA id
        | (refine imp_of hA ?_; subst hA; simp only [real, Bool.true_and]; exact id)
        | (refine ind_of hA ?_; decide +kernel)
        | (refine call_of hA hM _ cO ?_; cbv)
        | (refine call_of hA hM _ cT ?_; cbv)
        | (refine call_of2 hA hM _ (c_sCopy mk n hn g) (by subst hA; rfl) ?_; cbv)
        | (refine call_of2 hA hM _ cM (by (subst hA; first | rfl | (simp only [sub0r]; try rfl))) ?_; cbv)
        | exact flat_row hA _ _
      all_goals trace_state
  · rw [if_pos hok] at hx
    subst hx
    have hk0 : k = 0 := hG.1
    have hc0 : c = 0 := hP.1
    subst hk0 hc0
    refine meets_up (res := .tup [.agg [.d (eI 0), .d (.v nilS)], .c (.own 9 0 fun i => real.rep [eI 0, eI 0, eI 0, eI 0, eI 0, eI 0, eI 0, eI 0, eI 0] i)]) ⟨⟨UpV.refl _, UpV.nil 13 fun i => eRow (G i), trivial⟩, UpV.row fun i hi => absurd hi (Nat.not_lt_zero i), trivial⟩ ?_
    obtain ⟨b1, hb1, cO⟩ := c_sOpOk j ⟨mk, ⟨n, g, hnL⟩⟩
    obtain ⟨b2, hb2, cT⟩ := c_l1In m 0 1000
    have hbb : ¬ (b1 = true ∧ b2 = true) := fun h => hok ⟨hb1.1 h.1, by have := h.2; rw [hb2, decide_eq_true_eq] at this; exact this⟩
    have no3 : ∀ {A : Ar}, real = A → A.bite (A.bnot b1) true (A.bnot b2) = false → False := fun hA h => by
      subst hA
      have h : (bif !b1 then true else !b2) = false := h
      cases b1 <;> cases b2 <;> simp at h hbb
    refine meets_of (H := []) (EX := EXM) ttok mixed Try.func15 rfl (by kernel_rfl) (by decide) ?_
    generalize hA : real = A
    generalize hM : MeetsB Try.prog = M
    cbv
    repeat' first
      | exact (no3 hA (by assumption)).elim
      | apply And.intro
      | exact True.intro
      | with_reducible rfl
      | exact same_of hA rfl
      | refine br_of hA (fun _ => ?_) (fun _ => ?_)
      | exact imp_of hA id
      | (refine imp_of hA ?_; subst hA; simp only [real, Bool.true_and]; exact id)
      | (refine ind_of hA ?_; decide +kernel)
      | (refine call_of hA hM _ cO ?_; cbv)
      | (refine call_of hA hM _ cT ?_; cbv)
    all_goals (subst hA; rfl)
end Go.Rk
/- Marks. -/
namespace Go.Rk
set_option linter.unusedSimpArgs false
set_option linter.unusedVariables false
open Go.Proofs
def st_msRow (n i : Nat) (k : Int) (rm : Nat → RowT) : St := ⟨[(5, .c (.d (eI i))), (1, .c (.d (eI k))), (0, .c (.own 0 0 n 1))], [(0, 1, .arr 13 n fun i => eRow (rm i))]⟩
set_option maxRecDepth 100000 in
set_option maxHeartbeats 1000000 in
theorem marks_Row (s : Int) (hs : 0 ≤ s ∧ s ≤ 100000000) (n : Nat) (hn : n ≤ 1100000) (rd : Nat → RowT) (x : Int) (hx : x = s + 13 * (n : Int)) (GM : Nat → RowT) (hGM : ∀ i, GM i = mkRow (s + 13 * (i : Int))) : Meets Try.prog 64 [.c (.own 13 n fun i => eRow (rd i)), .c (.d (eI s))] ⟨.one (.c (.d (eI x))), [some (.own 13 n fun i => eRow (GM i)), none]⟩ := by
  have hn2 : n ≤ maxLen := Nat.le_trans hn (by decide)
  refine meets_of (H := [6, 8, 10, 12, 14, 16, 18, 20, 22, 24, 26, 28, 30]) (EX := EXA) ttok mixed Try.func64 rfl (by kernel_rfl) (by decide) ?_
  generalize hA : real = A
  generalize hM : MeetsB Try.prog = M
  cbv
  repeat' first
    | apply And.intro
    | exact True.intro
    | with_reducible rfl
    | exact same_of hA rfl
    | refine br_of hA (fun _ => ?_) (fun _ => ?_)
    | exact imp_of hA id
    | (refine imp_of hA ?_; subst hA; simp only [real, Bool.true_and]; exact id)
    | (refine ind_of hA ?_; decide +kernel)
  refine loop_of hA (α := { q : Nat × Int × (Nat → RowT) // q.1 ≤ n ∧ q.2.1 = s + 13 * (q.1 : Int) ∧ ∀ j, j < q.1 → q.2.2 j = GM j }) (fun y => st_msRow n y.1.1 y.1.2.1 y.1.2.2) (fun y => n - y.1.1) ⟨(0, s, rd), Nat.zero_le _, by simp, fun j h => absurd h (Nat.not_lt_zero j)⟩ ?_ ?_
  · refine cov_of ?_ ?_ ?_
    · cbv; try (subst hA; repeat' first | apply And.intro | exact True.intro | rfl)
    · cbv; try (subst hA; repeat' first | apply And.intro | exact True.intro | rfl | (intro _ _; rfl))
    · cbv; try (subst hA; repeat' first | apply And.intro | exact True.intro | rfl | exact .inr trivial | exact .inr (Nat.le_refl _))
  rintro ⟨⟨i, k, rm⟩, hi, hkk, hr⟩
  have hi : i ≤ n := hi
  have hkk : k = s + 13 * (i : Int) := hkk
  have hr : ∀ j, j < i → rm j = GM j := hr
  obtain ⟨k1, hk1⟩ : ∃ z : Int, z = k + 1 := ⟨_, rfl⟩
  have w1 : IntKind.i64.wrap (k + 1) = k1 := by rw [IntWalk.i64_in _ (by omega)]; omega
  obtain ⟨r1, hr1⟩ : ∃ r : Nat → RowT, r = fun q => if q = i then (⟨k, ⟨(rm i).win.s, (rm i).win.e⟩, ⟨(rm i).all.n, (rm i).all.sum, (rm i).all.least, (rm i).all.most⟩, ⟨(rm i).fresh.n, (rm i).fresh.sum, (rm i).fresh.least, (rm i).fresh.most⟩, (rm i).told, (rm i).timely⟩ : RowT) else rm q := ⟨_, rfl⟩
  obtain ⟨k2, hk2⟩ : ∃ z : Int, z = k + 2 := ⟨_, rfl⟩
  have w2 : IntKind.i64.wrap (k1 + 1) = k2 := by rw [IntWalk.i64_in _ (by omega)]; omega
  obtain ⟨r2, hr2⟩ : ∃ r : Nat → RowT, r = fun q => if q = i then (⟨k, ⟨k1, (rm i).win.e⟩, ⟨(rm i).all.n, (rm i).all.sum, (rm i).all.least, (rm i).all.most⟩, ⟨(rm i).fresh.n, (rm i).fresh.sum, (rm i).fresh.least, (rm i).fresh.most⟩, (rm i).told, (rm i).timely⟩ : RowT) else rm q := ⟨_, rfl⟩
  obtain ⟨k3, hk3⟩ : ∃ z : Int, z = k + 3 := ⟨_, rfl⟩
  have w3 : IntKind.i64.wrap (k2 + 1) = k3 := by rw [IntWalk.i64_in _ (by omega)]; omega
  obtain ⟨r3, hr3⟩ : ∃ r : Nat → RowT, r = fun q => if q = i then (⟨k, ⟨k1, k2⟩, ⟨(rm i).all.n, (rm i).all.sum, (rm i).all.least, (rm i).all.most⟩, ⟨(rm i).fresh.n, (rm i).fresh.sum, (rm i).fresh.least, (rm i).fresh.most⟩, (rm i).told, (rm i).timely⟩ : RowT) else rm q := ⟨_, rfl⟩
  obtain ⟨k4, hk4⟩ : ∃ z : Int, z = k + 4 := ⟨_, rfl⟩
  have w4 : IntKind.i64.wrap (k3 + 1) = k4 := by rw [IntWalk.i64_in _ (by omega)]; omega
  obtain ⟨r4, hr4⟩ : ∃ r : Nat → RowT, r = fun q => if q = i then (⟨k, ⟨k1, k2⟩, ⟨k3, (rm i).all.sum, (rm i).all.least, (rm i).all.most⟩, ⟨(rm i).fresh.n, (rm i).fresh.sum, (rm i).fresh.least, (rm i).fresh.most⟩, (rm i).told, (rm i).timely⟩ : RowT) else rm q := ⟨_, rfl⟩
  obtain ⟨k5, hk5⟩ : ∃ z : Int, z = k + 5 := ⟨_, rfl⟩
  have w5 : IntKind.i64.wrap (k4 + 1) = k5 := by rw [IntWalk.i64_in _ (by omega)]; omega
  obtain ⟨r5, hr5⟩ : ∃ r : Nat → RowT, r = fun q => if q = i then (⟨k, ⟨k1, k2⟩, ⟨k3, k4, (rm i).all.least, (rm i).all.most⟩, ⟨(rm i).fresh.n, (rm i).fresh.sum, (rm i).fresh.least, (rm i).fresh.most⟩, (rm i).told, (rm i).timely⟩ : RowT) else rm q := ⟨_, rfl⟩
  obtain ⟨k6, hk6⟩ : ∃ z : Int, z = k + 6 := ⟨_, rfl⟩
  have w6 : IntKind.i64.wrap (k5 + 1) = k6 := by rw [IntWalk.i64_in _ (by omega)]; omega
  obtain ⟨r6, hr6⟩ : ∃ r : Nat → RowT, r = fun q => if q = i then (⟨k, ⟨k1, k2⟩, ⟨k3, k4, k5, (rm i).all.most⟩, ⟨(rm i).fresh.n, (rm i).fresh.sum, (rm i).fresh.least, (rm i).fresh.most⟩, (rm i).told, (rm i).timely⟩ : RowT) else rm q := ⟨_, rfl⟩
  obtain ⟨k7, hk7⟩ : ∃ z : Int, z = k + 7 := ⟨_, rfl⟩
  have w7 : IntKind.i64.wrap (k6 + 1) = k7 := by rw [IntWalk.i64_in _ (by omega)]; omega
  obtain ⟨r7, hr7⟩ : ∃ r : Nat → RowT, r = fun q => if q = i then (⟨k, ⟨k1, k2⟩, ⟨k3, k4, k5, k6⟩, ⟨(rm i).fresh.n, (rm i).fresh.sum, (rm i).fresh.least, (rm i).fresh.most⟩, (rm i).told, (rm i).timely⟩ : RowT) else rm q := ⟨_, rfl⟩
  obtain ⟨k8, hk8⟩ : ∃ z : Int, z = k + 8 := ⟨_, rfl⟩
  have w8 : IntKind.i64.wrap (k7 + 1) = k8 := by rw [IntWalk.i64_in _ (by omega)]; omega
  obtain ⟨r8, hr8⟩ : ∃ r : Nat → RowT, r = fun q => if q = i then (⟨k, ⟨k1, k2⟩, ⟨k3, k4, k5, k6⟩, ⟨k7, (rm i).fresh.sum, (rm i).fresh.least, (rm i).fresh.most⟩, (rm i).told, (rm i).timely⟩ : RowT) else rm q := ⟨_, rfl⟩
  obtain ⟨k9, hk9⟩ : ∃ z : Int, z = k + 9 := ⟨_, rfl⟩
  have w9 : IntKind.i64.wrap (k8 + 1) = k9 := by rw [IntWalk.i64_in _ (by omega)]; omega
  obtain ⟨r9, hr9⟩ : ∃ r : Nat → RowT, r = fun q => if q = i then (⟨k, ⟨k1, k2⟩, ⟨k3, k4, k5, k6⟩, ⟨k7, k8, (rm i).fresh.least, (rm i).fresh.most⟩, (rm i).told, (rm i).timely⟩ : RowT) else rm q := ⟨_, rfl⟩
  obtain ⟨k10, hk10⟩ : ∃ z : Int, z = k + 10 := ⟨_, rfl⟩
  have w10 : IntKind.i64.wrap (k9 + 1) = k10 := by rw [IntWalk.i64_in _ (by omega)]; omega
  obtain ⟨r10, hr10⟩ : ∃ r : Nat → RowT, r = fun q => if q = i then (⟨k, ⟨k1, k2⟩, ⟨k3, k4, k5, k6⟩, ⟨k7, k8, k9, (rm i).fresh.most⟩, (rm i).told, (rm i).timely⟩ : RowT) else rm q := ⟨_, rfl⟩
  obtain ⟨k11, hk11⟩ : ∃ z : Int, z = k + 11 := ⟨_, rfl⟩
  have w11 : IntKind.i64.wrap (k10 + 1) = k11 := by rw [IntWalk.i64_in _ (by omega)]; omega
  obtain ⟨r11, hr11⟩ : ∃ r : Nat → RowT, r = fun q => if q = i then (⟨k, ⟨k1, k2⟩, ⟨k3, k4, k5, k6⟩, ⟨k7, k8, k9, k10⟩, (rm i).told, (rm i).timely⟩ : RowT) else rm q := ⟨_, rfl⟩
  obtain ⟨k12, hk12⟩ : ∃ z : Int, z = k + 12 := ⟨_, rfl⟩
  have w12 : IntKind.i64.wrap (k11 + 1) = k12 := by rw [IntWalk.i64_in _ (by omega)]; omega
  obtain ⟨r12, hr12⟩ : ∃ r : Nat → RowT, r = fun q => if q = i then (⟨k, ⟨k1, k2⟩, ⟨k3, k4, k5, k6⟩, ⟨k7, k8, k9, k10⟩, k11, (rm i).timely⟩ : RowT) else rm q := ⟨_, rfl⟩
  obtain ⟨k13, hk13⟩ : ∃ z : Int, z = k + 13 := ⟨_, rfl⟩
  have w13 : IntKind.i64.wrap (k12 + 1) = k13 := by rw [IntWalk.i64_in _ (by omega)]; omega
  obtain ⟨r13, hr13⟩ : ∃ r : Nat → RowT, r = fun q => if q = i then (⟨k, ⟨k1, k2⟩, ⟨k3, k4, k5, k6⟩, ⟨k7, k8, k9, k10⟩, k11, (k12.tmod 3 == 0)⟩ : RowT) else rm q := ⟨_, rfl⟩
  cbv
  repeat' first
    | apply And.intro
    | exact True.intro
    | with_reducible rfl
    | exact same_of hA rfl
    | refine br_of hA (fun _ => ?_) (fun _ => ?_)
    | exact imp_of hA id
    | (refine imp_of hA ?_; subst hA; simp only [real, Bool.true_and]; exact id)
    | (refine ind_of hA ?_; decide +kernel)
    | (refine inb_of hA fun _ => ?_; subst hA; simp only [real, Bool.and_eq_true, Bool.not_eq_true', Bool.not_eq_false', decide_eq_true_eq, Int.ofNat_eq_natCast, IntKind.wrap_i64] at *; omega)
    | (subst hA; exact fun _ => (by decide : (3 : Int) ≠ 0))
  · rename_i hlt
    have hlt' : i < n := by subst hA; simp only [real, decide_eq_true_eq, Int.ofNat_eq_natCast] at hlt; omega
    refine stop_of hA (st_msRow n i k1 r1) (cov_of ?_ ?_ ?_) ?_
    · cbv
      subst hA
      repeat' first | apply And.intro | exact True.intro | exact congrArg (fun x => DV.v (.int .i64 x)) w1 | rfl
    · cbv
      subst hA
      refine ⟨fun q _ => ?_, trivial⟩
      have e0 : real.add 0 (real.nat (Int.ofNat i)) = i := Nat.zero_add i
      simp only [e0]
      first
        | (show (if q = i then _ else eRow (rm q)) = eRow (r1 q))
        | (show (if q = 0 + i then _ else eRow (rm q)) = eRow (r1 q); rw [Nat.zero_add])
      simp only [hr1]
      by_cases e : q = i
      · subst e; first | (simp; done) | (simp; rfl)
      · simp [e]
    · cbv; try (subst hA; repeat' first | apply And.intro | exact True.intro | rfl | exact .inr trivial | exact .inr (Nat.le_refl _))
    cbv
    repeat' first
      | apply And.intro
      | exact True.intro
      | with_reducible rfl
      | exact same_of hA rfl
      | refine br_of hA (fun _ => ?_) (fun _ => ?_)
      | exact imp_of hA id
      | (refine imp_of hA ?_; subst hA; simp only [real, Bool.true_and]; exact id)
      | (refine ind_of hA ?_; decide +kernel)
      | (refine inb_of hA fun _ => ?_; subst hA; simp only [real, Bool.and_eq_true, Bool.not_eq_true', Bool.not_eq_false', decide_eq_true_eq, Int.ofNat_eq_natCast, IntKind.wrap_i64] at *; omega)
      | (subst hA; exact fun _ => (by decide : (3 : Int) ≠ 0))
    refine stop_of hA (st_msRow n i k2 r2) (cov_of ?_ ?_ ?_) ?_
    · cbv
      subst hA
      repeat' first | apply And.intro | exact True.intro | exact congrArg (fun x => DV.v (.int .i64 x)) w2 | rfl
    · cbv
      subst hA
      refine ⟨fun q _ => ?_, trivial⟩
      have e0 : real.add 0 (real.nat (Int.ofNat i)) = i := Nat.zero_add i
      simp only [e0]
      first
        | (show (if q = i then _ else eRow (r1 q)) = eRow (r2 q))
        | (show (if q = 0 + i then _ else eRow (r1 q)) = eRow (r2 q); rw [Nat.zero_add])
      simp only [hr2, hr1]
      by_cases e : q = i
      · subst e; first | (simp; done) | (simp; rfl)
      · simp [e]
    · cbv; try (subst hA; repeat' first | apply And.intro | exact True.intro | rfl | exact .inr trivial | exact .inr (Nat.le_refl _))
    cbv
    repeat' first
      | apply And.intro
      | exact True.intro
      | with_reducible rfl
      | exact same_of hA rfl
      | refine br_of hA (fun _ => ?_) (fun _ => ?_)
      | exact imp_of hA id
      | (refine imp_of hA ?_; subst hA; simp only [real, Bool.true_and]; exact id)
      | (refine ind_of hA ?_; decide +kernel)
      | (refine inb_of hA fun _ => ?_; subst hA; simp only [real, Bool.and_eq_true, Bool.not_eq_true', Bool.not_eq_false', decide_eq_true_eq, Int.ofNat_eq_natCast, IntKind.wrap_i64] at *; omega)
      | (subst hA; exact fun _ => (by decide : (3 : Int) ≠ 0))
    refine stop_of hA (st_msRow n i k3 r3) (cov_of ?_ ?_ ?_) ?_
    · cbv
      subst hA
      repeat' first | apply And.intro | exact True.intro | exact congrArg (fun x => DV.v (.int .i64 x)) w3 | rfl
    · cbv
      subst hA
      refine ⟨fun q _ => ?_, trivial⟩
      have e0 : real.add 0 (real.nat (Int.ofNat i)) = i := Nat.zero_add i
      simp only [e0]
      first
        | (show (if q = i then _ else eRow (r2 q)) = eRow (r3 q))
        | (show (if q = 0 + i then _ else eRow (r2 q)) = eRow (r3 q); rw [Nat.zero_add])
      simp only [hr3, hr2]
      by_cases e : q = i
      · subst e; first | (simp; done) | (simp; rfl)
      · simp [e]
    · cbv; try (subst hA; repeat' first | apply And.intro | exact True.intro | rfl | exact .inr trivial | exact .inr (Nat.le_refl _))
    cbv
    repeat' first
      | apply And.intro
      | exact True.intro
      | with_reducible rfl
      | exact same_of hA rfl
      | refine br_of hA (fun _ => ?_) (fun _ => ?_)
      | exact imp_of hA id
      | (refine imp_of hA ?_; subst hA; simp only [real, Bool.true_and]; exact id)
      | (refine ind_of hA ?_; decide +kernel)
      | (refine inb_of hA fun _ => ?_; subst hA; simp only [real, Bool.and_eq_true, Bool.not_eq_true', Bool.not_eq_false', decide_eq_true_eq, Int.ofNat_eq_natCast, IntKind.wrap_i64] at *; omega)
      | (subst hA; exact fun _ => (by decide : (3 : Int) ≠ 0))
    refine stop_of hA (st_msRow n i k4 r4) (cov_of ?_ ?_ ?_) ?_
    · cbv
      subst hA
      repeat' first | apply And.intro | exact True.intro | exact congrArg (fun x => DV.v (.int .i64 x)) w4 | rfl
    · cbv
      subst hA
      refine ⟨fun q _ => ?_, trivial⟩
      have e0 : real.add 0 (real.nat (Int.ofNat i)) = i := Nat.zero_add i
      simp only [e0]
      first
        | (show (if q = i then _ else eRow (r3 q)) = eRow (r4 q))
        | (show (if q = 0 + i then _ else eRow (r3 q)) = eRow (r4 q); rw [Nat.zero_add])
      simp only [hr4, hr3]
      by_cases e : q = i
      · subst e; first | (simp; done) | (simp; rfl)
      · simp [e]
    · cbv; try (subst hA; repeat' first | apply And.intro | exact True.intro | rfl | exact .inr trivial | exact .inr (Nat.le_refl _))
    cbv
    repeat' first
      | apply And.intro
      | exact True.intro
      | with_reducible rfl
      | exact same_of hA rfl
      | refine br_of hA (fun _ => ?_) (fun _ => ?_)
      | exact imp_of hA id
      | (refine imp_of hA ?_; subst hA; simp only [real, Bool.true_and]; exact id)
      | (refine ind_of hA ?_; decide +kernel)
      | (refine inb_of hA fun _ => ?_; subst hA; simp only [real, Bool.and_eq_true, Bool.not_eq_true', Bool.not_eq_false', decide_eq_true_eq, Int.ofNat_eq_natCast, IntKind.wrap_i64] at *; omega)
      | (subst hA; exact fun _ => (by decide : (3 : Int) ≠ 0))
    refine stop_of hA (st_msRow n i k5 r5) (cov_of ?_ ?_ ?_) ?_
    · cbv
      subst hA
      repeat' first | apply And.intro | exact True.intro | exact congrArg (fun x => DV.v (.int .i64 x)) w5 | rfl
    · cbv
      subst hA
      refine ⟨fun q _ => ?_, trivial⟩
      have e0 : real.add 0 (real.nat (Int.ofNat i)) = i := Nat.zero_add i
      simp only [e0]
      first
        | (show (if q = i then _ else eRow (r4 q)) = eRow (r5 q))
        | (show (if q = 0 + i then _ else eRow (r4 q)) = eRow (r5 q); rw [Nat.zero_add])
      simp only [hr5, hr4]
      by_cases e : q = i
      · subst e; first | (simp; done) | (simp; rfl)
      · simp [e]
    · cbv; try (subst hA; repeat' first | apply And.intro | exact True.intro | rfl | exact .inr trivial | exact .inr (Nat.le_refl _))
    cbv
    repeat' first
      | apply And.intro
      | exact True.intro
      | with_reducible rfl
      | exact same_of hA rfl
      | refine br_of hA (fun _ => ?_) (fun _ => ?_)
      | exact imp_of hA id
      | (refine imp_of hA ?_; subst hA; simp only [real, Bool.true_and]; exact id)
      | (refine ind_of hA ?_; decide +kernel)
      | (refine inb_of hA fun _ => ?_; subst hA; simp only [real, Bool.and_eq_true, Bool.not_eq_true', Bool.not_eq_false', decide_eq_true_eq, Int.ofNat_eq_natCast, IntKind.wrap_i64] at *; omega)
      | (subst hA; exact fun _ => (by decide : (3 : Int) ≠ 0))
    refine stop_of hA (st_msRow n i k6 r6) (cov_of ?_ ?_ ?_) ?_
    · cbv
      subst hA
      repeat' first | apply And.intro | exact True.intro | exact congrArg (fun x => DV.v (.int .i64 x)) w6 | rfl
    · cbv
      subst hA
      refine ⟨fun q _ => ?_, trivial⟩
      have e0 : real.add 0 (real.nat (Int.ofNat i)) = i := Nat.zero_add i
      simp only [e0]
      first
        | (show (if q = i then _ else eRow (r5 q)) = eRow (r6 q))
        | (show (if q = 0 + i then _ else eRow (r5 q)) = eRow (r6 q); rw [Nat.zero_add])
      simp only [hr6, hr5]
      by_cases e : q = i
      · subst e; first | (simp; done) | (simp; rfl)
      · simp [e]
    · cbv; try (subst hA; repeat' first | apply And.intro | exact True.intro | rfl | exact .inr trivial | exact .inr (Nat.le_refl _))
    cbv
    repeat' first
      | apply And.intro
      | exact True.intro
      | with_reducible rfl
      | exact same_of hA rfl
      | refine br_of hA (fun _ => ?_) (fun _ => ?_)
      | exact imp_of hA id
      | (refine imp_of hA ?_; subst hA; simp only [real, Bool.true_and]; exact id)
      | (refine ind_of hA ?_; decide +kernel)
      | (refine inb_of hA fun _ => ?_; subst hA; simp only [real, Bool.and_eq_true, Bool.not_eq_true', Bool.not_eq_false', decide_eq_true_eq, Int.ofNat_eq_natCast, IntKind.wrap_i64] at *; omega)
      | (subst hA; exact fun _ => (by decide : (3 : Int) ≠ 0))
    refine stop_of hA (st_msRow n i k7 r7) (cov_of ?_ ?_ ?_) ?_
    · cbv
      subst hA
      repeat' first | apply And.intro | exact True.intro | exact congrArg (fun x => DV.v (.int .i64 x)) w7 | rfl
    · cbv
      subst hA
      refine ⟨fun q _ => ?_, trivial⟩
      have e0 : real.add 0 (real.nat (Int.ofNat i)) = i := Nat.zero_add i
      simp only [e0]
      first
        | (show (if q = i then _ else eRow (r6 q)) = eRow (r7 q))
        | (show (if q = 0 + i then _ else eRow (r6 q)) = eRow (r7 q); rw [Nat.zero_add])
      simp only [hr7, hr6]
      by_cases e : q = i
      · subst e; first | (simp; done) | (simp; rfl)
      · simp [e]
    · cbv; try (subst hA; repeat' first | apply And.intro | exact True.intro | rfl | exact .inr trivial | exact .inr (Nat.le_refl _))
    cbv
    repeat' first
      | apply And.intro
      | exact True.intro
      | with_reducible rfl
      | exact same_of hA rfl
      | refine br_of hA (fun _ => ?_) (fun _ => ?_)
      | exact imp_of hA id
      | (refine imp_of hA ?_; subst hA; simp only [real, Bool.true_and]; exact id)
      | (refine ind_of hA ?_; decide +kernel)
      | (refine inb_of hA fun _ => ?_; subst hA; simp only [real, Bool.and_eq_true, Bool.not_eq_true', Bool.not_eq_false', decide_eq_true_eq, Int.ofNat_eq_natCast, IntKind.wrap_i64] at *; omega)
      | (subst hA; exact fun _ => (by decide : (3 : Int) ≠ 0))
    refine stop_of hA (st_msRow n i k8 r8) (cov_of ?_ ?_ ?_) ?_
    · cbv
      subst hA
      repeat' first | apply And.intro | exact True.intro | exact congrArg (fun x => DV.v (.int .i64 x)) w8 | rfl
    · cbv
      subst hA
      refine ⟨fun q _ => ?_, trivial⟩
      have e0 : real.add 0 (real.nat (Int.ofNat i)) = i := Nat.zero_add i
      simp only [e0]
      first
        | (show (if q = i then _ else eRow (r7 q)) = eRow (r8 q))
        | (show (if q = 0 + i then _ else eRow (r7 q)) = eRow (r8 q); rw [Nat.zero_add])
      simp only [hr8, hr7]
      by_cases e : q = i
      · subst e; first | (simp; done) | (simp; rfl)
      · simp [e]
    · cbv; try (subst hA; repeat' first | apply And.intro | exact True.intro | rfl | exact .inr trivial | exact .inr (Nat.le_refl _))
    cbv
    repeat' first
      | apply And.intro
      | exact True.intro
      | with_reducible rfl
      | exact same_of hA rfl
      | refine br_of hA (fun _ => ?_) (fun _ => ?_)
      | exact imp_of hA id
      | (refine imp_of hA ?_; subst hA; simp only [real, Bool.true_and]; exact id)
      | (refine ind_of hA ?_; decide +kernel)
      | (refine inb_of hA fun _ => ?_; subst hA; simp only [real, Bool.and_eq_true, Bool.not_eq_true', Bool.not_eq_false', decide_eq_true_eq, Int.ofNat_eq_natCast, IntKind.wrap_i64] at *; omega)
      | (subst hA; exact fun _ => (by decide : (3 : Int) ≠ 0))
    refine stop_of hA (st_msRow n i k9 r9) (cov_of ?_ ?_ ?_) ?_
    · cbv
      subst hA
      repeat' first | apply And.intro | exact True.intro | exact congrArg (fun x => DV.v (.int .i64 x)) w9 | rfl
    · cbv
      subst hA
      refine ⟨fun q _ => ?_, trivial⟩
      have e0 : real.add 0 (real.nat (Int.ofNat i)) = i := Nat.zero_add i
      simp only [e0]
      first
        | (show (if q = i then _ else eRow (r8 q)) = eRow (r9 q))
        | (show (if q = 0 + i then _ else eRow (r8 q)) = eRow (r9 q); rw [Nat.zero_add])
      simp only [hr9, hr8]
      by_cases e : q = i
      · subst e; first | (simp; done) | (simp; rfl)
      · simp [e]
    · cbv; try (subst hA; repeat' first | apply And.intro | exact True.intro | rfl | exact .inr trivial | exact .inr (Nat.le_refl _))
    cbv
    repeat' first
      | apply And.intro
      | exact True.intro
      | with_reducible rfl
      | exact same_of hA rfl
      | refine br_of hA (fun _ => ?_) (fun _ => ?_)
      | exact imp_of hA id
      | (refine imp_of hA ?_; subst hA; simp only [real, Bool.true_and]; exact id)
      | (refine ind_of hA ?_; decide +kernel)
      | (refine inb_of hA fun _ => ?_; subst hA; simp only [real, Bool.and_eq_true, Bool.not_eq_true', Bool.not_eq_false', decide_eq_true_eq, Int.ofNat_eq_natCast, IntKind.wrap_i64] at *; omega)
      | (subst hA; exact fun _ => (by decide : (3 : Int) ≠ 0))
    refine stop_of hA (st_msRow n i k10 r10) (cov_of ?_ ?_ ?_) ?_
    · cbv
      subst hA
      repeat' first | apply And.intro | exact True.intro | exact congrArg (fun x => DV.v (.int .i64 x)) w10 | rfl
    · cbv
      subst hA
      refine ⟨fun q _ => ?_, trivial⟩
      have e0 : real.add 0 (real.nat (Int.ofNat i)) = i := Nat.zero_add i
      simp only [e0]
      first
        | (show (if q = i then _ else eRow (r9 q)) = eRow (r10 q))
        | (show (if q = 0 + i then _ else eRow (r9 q)) = eRow (r10 q); rw [Nat.zero_add])
      simp only [hr10, hr9]
      by_cases e : q = i
      · subst e; first | (simp; done) | (simp; rfl)
      · simp [e]
    · cbv; try (subst hA; repeat' first | apply And.intro | exact True.intro | rfl | exact .inr trivial | exact .inr (Nat.le_refl _))
    cbv
    repeat' first
      | apply And.intro
      | exact True.intro
      | with_reducible rfl
      | exact same_of hA rfl
      | refine br_of hA (fun _ => ?_) (fun _ => ?_)
      | exact imp_of hA id
      | (refine imp_of hA ?_; subst hA; simp only [real, Bool.true_and]; exact id)
      | (refine ind_of hA ?_; decide +kernel)
      | (refine inb_of hA fun _ => ?_; subst hA; simp only [real, Bool.and_eq_true, Bool.not_eq_true', Bool.not_eq_false', decide_eq_true_eq, Int.ofNat_eq_natCast, IntKind.wrap_i64] at *; omega)
      | (subst hA; exact fun _ => (by decide : (3 : Int) ≠ 0))
    refine stop_of hA (st_msRow n i k11 r11) (cov_of ?_ ?_ ?_) ?_
    · cbv
      subst hA
      repeat' first | apply And.intro | exact True.intro | exact congrArg (fun x => DV.v (.int .i64 x)) w11 | rfl
    · cbv
      subst hA
      refine ⟨fun q _ => ?_, trivial⟩
      have e0 : real.add 0 (real.nat (Int.ofNat i)) = i := Nat.zero_add i
      simp only [e0]
      first
        | (show (if q = i then _ else eRow (r10 q)) = eRow (r11 q))
        | (show (if q = 0 + i then _ else eRow (r10 q)) = eRow (r11 q); rw [Nat.zero_add])
      simp only [hr11, hr10]
      by_cases e : q = i
      · subst e; first | (simp; done) | (simp; rfl)
      · simp [e]
    · cbv; try (subst hA; repeat' first | apply And.intro | exact True.intro | rfl | exact .inr trivial | exact .inr (Nat.le_refl _))
    cbv
    repeat' first
      | apply And.intro
      | exact True.intro
      | with_reducible rfl
      | exact same_of hA rfl
      | refine br_of hA (fun _ => ?_) (fun _ => ?_)
      | exact imp_of hA id
      | (refine imp_of hA ?_; subst hA; simp only [real, Bool.true_and]; exact id)
      | (refine ind_of hA ?_; decide +kernel)
      | (refine inb_of hA fun _ => ?_; subst hA; simp only [real, Bool.and_eq_true, Bool.not_eq_true', Bool.not_eq_false', decide_eq_true_eq, Int.ofNat_eq_natCast, IntKind.wrap_i64] at *; omega)
      | (subst hA; exact fun _ => (by decide : (3 : Int) ≠ 0))
    refine stop_of hA (st_msRow n i k12 r12) (cov_of ?_ ?_ ?_) ?_
    · cbv
      subst hA
      repeat' first | apply And.intro | exact True.intro | exact congrArg (fun x => DV.v (.int .i64 x)) w12 | rfl
    · cbv
      subst hA
      refine ⟨fun q _ => ?_, trivial⟩
      have e0 : real.add 0 (real.nat (Int.ofNat i)) = i := Nat.zero_add i
      simp only [e0]
      first
        | (show (if q = i then _ else eRow (r11 q)) = eRow (r12 q))
        | (show (if q = 0 + i then _ else eRow (r11 q)) = eRow (r12 q); rw [Nat.zero_add])
      simp only [hr12, hr11]
      by_cases e : q = i
      · subst e; first | (simp; done) | (simp; rfl)
      · simp [e]
    · cbv; try (subst hA; repeat' first | apply And.intro | exact True.intro | rfl | exact .inr trivial | exact .inr (Nat.le_refl _))
    cbv
    repeat' first
      | apply And.intro
      | exact True.intro
      | with_reducible rfl
      | exact same_of hA rfl
      | refine br_of hA (fun _ => ?_) (fun _ => ?_)
      | exact imp_of hA id
      | (refine imp_of hA ?_; subst hA; simp only [real, Bool.true_and]; exact id)
      | (refine ind_of hA ?_; decide +kernel)
      | (refine inb_of hA fun _ => ?_; subst hA; simp only [real, Bool.and_eq_true, Bool.not_eq_true', Bool.not_eq_false', decide_eq_true_eq, Int.ofNat_eq_natCast, IntKind.wrap_i64] at *; omega)
      | (subst hA; exact fun _ => (by decide : (3 : Int) ≠ 0))
    have h9 : ((i + 1 : Nat) : Int) = (i : Int) + 1 := rfl
    refine ⟨⟨(i + 1, k13, r13), by simp only; omega, by (show k13 = s + 13 * ((i + 1 : Nat) : Int)); rw [h9, hk13, hkk, Int.mul_add]; exact Int.add_assoc _ _ _, fun j hj => ?_⟩, by simp only; omega, cov_of ?_ ?_ ?_⟩
    · simp only at hj ⊢
      by_cases e : j = i
      · rw [hr13]; simp only [e, if_true]
        rw [hGM, ← hkk]
        simp only [mkRow, hk1, hk2, hk3, hk4, hk5, hk6, hk7, hk8, hk9, hk10, hk11, hk12]
      · rw [hr13]; simp only [e, if_false]; exact hr j (by omega)
    · cbv
      subst hA
      repeat' first | apply And.intro | exact True.intro | exact congrArg (fun x => DV.v (.int .i64 x)) w13 | exact congrArg (fun x => DV.v (.int .i64 x)) (up64 hlt' hn2) | rfl
    · cbv
      subst hA
      refine ⟨fun q _ => ?_, trivial⟩
      have e0 : real.add 0 (real.nat (Int.ofNat i)) = i := Nat.zero_add i
      simp only [e0]
      first
        | (show (if q = i then _ else eRow (r12 q)) = eRow (r13 q))
        | (show (if q = 0 + i then _ else eRow (r12 q)) = eRow (r13 q); rw [Nat.zero_add])
      simp only [hr13, hr12]
      by_cases e : q = i
      · subst e; first | (simp; done) | (simp; rfl)
      · simp [e]
    · cbv; try (subst hA; repeat' first | apply And.intro | exact True.intro | rfl | exact .inr trivial | exact .inr (Nat.le_refl _))
  · rename_i hge
    have hin : i = n := by
      subst hA
      simp only [real, decide_eq_false_iff_not, Int.ofNat_eq_natCast] at hge
      omega
    subst hin
    have hkx : k = x := by rw [hkk, hx]
    subst hkx
    refine stop_of hA ⟨[(1, .c (.d (eI k)))], [(0, 1, .arr 13 i fun q => eRow (GM q))]⟩ (cov_of ?_ ?_ ?_) ?_
    · cbv
    · cbv
      exact ⟨fun q hq => congrArg (fun y => eRow y) (hr q hq), trivial⟩
    · cbv; try (subst hA; repeat' first | apply And.intro | exact True.intro | rfl | exact .inr trivial | exact .inr (Nat.le_refl _))
    · cbv
      repeat' first
        | apply And.intro
        | exact True.intro
        | with_reducible rfl
        | exact same_of hA rfl
        | refine br_of hA (fun _ => ?_) (fun _ => ?_)
        | exact imp_of hA id
        | (refine imp_of hA ?_; subst hA; simp only [real, Bool.true_and]; exact id)
        | (refine ind_of hA ?_; decide +kernel)
def st_hsRow (n : Nat) (rd : Nat → RowT) (i : Nat) (k : Int) : St := ⟨[(5, .c (.d (eI i))), (1, .c (.d (eI k))), (0, .c (.d (.sl 13 n fun i => eRow (rd i))))], []⟩
set_option maxRecDepth 100000 in
set_option maxHeartbeats 2000000 in
theorem helds_Row (s : Int) (hs : 0 ≤ s ∧ s ≤ 100000000) (n : Nat) (hn : n ≤ 1100000) (x : Int) (hx : x = s + 13 * (n : Int)) (GM : Nat → RowT) (hGM : ∀ i, GM i = mkRow (s + 13 * (i : Int))) : Meets Try.prog 65 [.c (.d (.sl 13 n fun i => eRow (GM i))), .c (.d (eI s))] ⟨.one (.c (.d (eI x))), [none, none]⟩ := by
  have hn2 : n ≤ maxLen := Nat.le_trans hn (by decide)
  refine meets_of (H := []) (EX := EXA) ttok mixed Try.func65 rfl (by kernel_rfl) (by decide) ?_
  generalize hA : real = A
  generalize hM : MeetsB Try.prog = M
  cbv
  repeat' first
    | apply And.intro
    | exact True.intro
    | with_reducible rfl
    | exact same_of hA rfl
    | refine br_of hA (fun _ => ?_) (fun _ => ?_)
    | exact imp_of hA id
    | (refine imp_of hA ?_; subst hA; simp only [real, Bool.true_and]; exact id)
    | (refine ind_of hA ?_; decide +kernel)
  refine loop_of hA (α := { q : Nat × Int // q.1 ≤ n ∧ q.2 = s + 13 * (q.1 : Int) }) (fun y => st_hsRow n GM y.1.1 y.1.2) (fun y => n - y.1.1) ⟨(0, s), Nat.zero_le _, by simp⟩ ?_ ?_
  · refine cov_of ?_ ?_ ?_
    · cbv; try (subst hA; repeat' first | apply And.intro | exact True.intro | rfl)
    · cbv; try (subst hA; repeat' first | apply And.intro | exact True.intro | rfl)
    · cbv
  rintro ⟨⟨i, k⟩, hi, hkk⟩
  have hi : i ≤ n := hi
  have hkk : k = s + 13 * (i : Int) := hkk
  have hkb : 0 ≤ k ∧ k ≤ 150000000 := by omega
  have e := hGM i
  rw [← hkk] at e
  have w1 : IntKind.i64.wrap (k + 1) = k + 1 := wr1 k hkb
  have w2 : IntKind.i64.wrap (IntKind.i64.wrap (k + 1) + 1) = k + 2 := by rw [w1]; exact wrn k 1 2 hkb (by decide) (by decide)
  have w3 : IntKind.i64.wrap (IntKind.i64.wrap (IntKind.i64.wrap (k + 1) + 1) + 1) = k + 3 := by rw [w2]; exact wrn k 2 3 hkb (by decide) (by decide)
  have w4 : IntKind.i64.wrap (IntKind.i64.wrap (IntKind.i64.wrap (IntKind.i64.wrap (k + 1) + 1) + 1) + 1) = k + 4 := by rw [w3]; exact wrn k 3 4 hkb (by decide) (by decide)
  have w5 : IntKind.i64.wrap (IntKind.i64.wrap (IntKind.i64.wrap (IntKind.i64.wrap (IntKind.i64.wrap (k + 1) + 1) + 1) + 1) + 1) = k + 5 := by rw [w4]; exact wrn k 4 5 hkb (by decide) (by decide)
  have w6 : IntKind.i64.wrap (IntKind.i64.wrap (IntKind.i64.wrap (IntKind.i64.wrap (IntKind.i64.wrap (IntKind.i64.wrap (k + 1) + 1) + 1) + 1) + 1) + 1) = k + 6 := by rw [w5]; exact wrn k 5 6 hkb (by decide) (by decide)
  have w7 : IntKind.i64.wrap (IntKind.i64.wrap (IntKind.i64.wrap (IntKind.i64.wrap (IntKind.i64.wrap (IntKind.i64.wrap (IntKind.i64.wrap (k + 1) + 1) + 1) + 1) + 1) + 1) + 1) = k + 7 := by rw [w6]; exact wrn k 6 7 hkb (by decide) (by decide)
  have w8 : IntKind.i64.wrap (IntKind.i64.wrap (IntKind.i64.wrap (IntKind.i64.wrap (IntKind.i64.wrap (IntKind.i64.wrap (IntKind.i64.wrap (IntKind.i64.wrap (k + 1) + 1) + 1) + 1) + 1) + 1) + 1) + 1) = k + 8 := by rw [w7]; exact wrn k 7 8 hkb (by decide) (by decide)
  have w9 : IntKind.i64.wrap (IntKind.i64.wrap (IntKind.i64.wrap (IntKind.i64.wrap (IntKind.i64.wrap (IntKind.i64.wrap (IntKind.i64.wrap (IntKind.i64.wrap (IntKind.i64.wrap (k + 1) + 1) + 1) + 1) + 1) + 1) + 1) + 1) + 1) = k + 9 := by rw [w8]; exact wrn k 8 9 hkb (by decide) (by decide)
  have w10 : IntKind.i64.wrap (IntKind.i64.wrap (IntKind.i64.wrap (IntKind.i64.wrap (IntKind.i64.wrap (IntKind.i64.wrap (IntKind.i64.wrap (IntKind.i64.wrap (IntKind.i64.wrap (IntKind.i64.wrap (k + 1) + 1) + 1) + 1) + 1) + 1) + 1) + 1) + 1) + 1) = k + 10 := by rw [w9]; exact wrn k 9 10 hkb (by decide) (by decide)
  have w11 : IntKind.i64.wrap (IntKind.i64.wrap (IntKind.i64.wrap (IntKind.i64.wrap (IntKind.i64.wrap (IntKind.i64.wrap (IntKind.i64.wrap (IntKind.i64.wrap (IntKind.i64.wrap (IntKind.i64.wrap (IntKind.i64.wrap (k + 1) + 1) + 1) + 1) + 1) + 1) + 1) + 1) + 1) + 1) + 1) = k + 11 := by rw [w10]; exact wrn k 10 11 hkb (by decide) (by decide)
  have w12 : IntKind.i64.wrap (IntKind.i64.wrap (IntKind.i64.wrap (IntKind.i64.wrap (IntKind.i64.wrap (IntKind.i64.wrap (IntKind.i64.wrap (IntKind.i64.wrap (IntKind.i64.wrap (IntKind.i64.wrap (IntKind.i64.wrap (IntKind.i64.wrap (k + 1) + 1) + 1) + 1) + 1) + 1) + 1) + 1) + 1) + 1) + 1) + 1) = k + 12 := by rw [w11]; exact wrn k 11 12 hkb (by decide) (by decide)
  have w13 : IntKind.i64.wrap (IntKind.i64.wrap (IntKind.i64.wrap (IntKind.i64.wrap (IntKind.i64.wrap (IntKind.i64.wrap (IntKind.i64.wrap (IntKind.i64.wrap (IntKind.i64.wrap (IntKind.i64.wrap (IntKind.i64.wrap (IntKind.i64.wrap (IntKind.i64.wrap (k + 1) + 1) + 1) + 1) + 1) + 1) + 1) + 1) + 1) + 1) + 1) + 1) + 1) = k + 13 := by rw [w12]; exact wrn k 12 13 hkb (by decide) (by decide)
  cbv
  repeat' first
    | apply And.intro
    | exact True.intro
    | with_reducible rfl
    | exact same_of hA rfl
    | refine br_of hA (fun _ => ?_) (fun _ => ?_)
    | exact imp_of hA id
    | (refine imp_of hA ?_; subst hA; simp only [real, Bool.true_and]; exact id)
    | (refine ind_of hA ?_; decide +kernel)
    | (refine inb_of hA fun _ => ?_; subst hA; simp only [real, Bool.and_eq_true, Bool.not_eq_true', Bool.not_eq_false', decide_eq_true_eq, Int.ofNat_eq_natCast, IntKind.wrap_i64] at *; omega)
    | (subst hA; exact fun _ => (by decide : (3 : Int) ≠ 0))
  · exfalso
    rename_i hlt h0
    have h : ((GM i).key != k) = true := by subst hA; exact h0
    rw [e] at h
    simp [mkRow] at h
  · exfalso
    rename_i hlt h0 h1
    have h : ((GM i).win.s != IntKind.i64.wrap (k + 1)) = true := by subst hA; exact h1
    rw [e, w1] at h
    simp [mkRow] at h
  · exfalso
    rename_i hlt h0 h1 h2
    have h : ((GM i).win.e != IntKind.i64.wrap (IntKind.i64.wrap (k + 1) + 1)) = true := by subst hA; exact h2
    rw [e, w2] at h
    simp [mkRow] at h
  · exfalso
    rename_i hlt h0 h1 h2 h3
    have h : ((GM i).all.n != IntKind.i64.wrap (IntKind.i64.wrap (IntKind.i64.wrap (k + 1) + 1) + 1)) = true := by subst hA; exact h3
    rw [e, w3] at h
    simp [mkRow] at h
  · exfalso
    rename_i hlt h0 h1 h2 h3 h4
    have h : ((GM i).all.sum != IntKind.i64.wrap (IntKind.i64.wrap (IntKind.i64.wrap (IntKind.i64.wrap (k + 1) + 1) + 1) + 1)) = true := by subst hA; exact h4
    rw [e, w4] at h
    simp [mkRow] at h
  · exfalso
    rename_i hlt h0 h1 h2 h3 h4 h5
    have h : ((GM i).all.least != IntKind.i64.wrap (IntKind.i64.wrap (IntKind.i64.wrap (IntKind.i64.wrap (IntKind.i64.wrap (k + 1) + 1) + 1) + 1) + 1)) = true := by subst hA; exact h5
    rw [e, w5] at h
    simp [mkRow] at h
  · exfalso
    rename_i hlt h0 h1 h2 h3 h4 h5 h6
    have h : ((GM i).all.most != IntKind.i64.wrap (IntKind.i64.wrap (IntKind.i64.wrap (IntKind.i64.wrap (IntKind.i64.wrap (IntKind.i64.wrap (k + 1) + 1) + 1) + 1) + 1) + 1)) = true := by subst hA; exact h6
    rw [e, w6] at h
    simp [mkRow] at h
  · exfalso
    rename_i hlt h0 h1 h2 h3 h4 h5 h6 h7
    have h : ((GM i).fresh.n != IntKind.i64.wrap (IntKind.i64.wrap (IntKind.i64.wrap (IntKind.i64.wrap (IntKind.i64.wrap (IntKind.i64.wrap (IntKind.i64.wrap (k + 1) + 1) + 1) + 1) + 1) + 1) + 1)) = true := by subst hA; exact h7
    rw [e, w7] at h
    simp [mkRow] at h
  · exfalso
    rename_i hlt h0 h1 h2 h3 h4 h5 h6 h7 h8
    have h : ((GM i).fresh.sum != IntKind.i64.wrap (IntKind.i64.wrap (IntKind.i64.wrap (IntKind.i64.wrap (IntKind.i64.wrap (IntKind.i64.wrap (IntKind.i64.wrap (IntKind.i64.wrap (k + 1) + 1) + 1) + 1) + 1) + 1) + 1) + 1)) = true := by subst hA; exact h8
    rw [e, w8] at h
    simp [mkRow] at h
  · exfalso
    rename_i hlt h0 h1 h2 h3 h4 h5 h6 h7 h8 h9
    have h : ((GM i).fresh.least != IntKind.i64.wrap (IntKind.i64.wrap (IntKind.i64.wrap (IntKind.i64.wrap (IntKind.i64.wrap (IntKind.i64.wrap (IntKind.i64.wrap (IntKind.i64.wrap (IntKind.i64.wrap (k + 1) + 1) + 1) + 1) + 1) + 1) + 1) + 1) + 1)) = true := by subst hA; exact h9
    rw [e, w9] at h
    simp [mkRow] at h
  · exfalso
    rename_i hlt h0 h1 h2 h3 h4 h5 h6 h7 h8 h9 h10
    have h : ((GM i).fresh.most != IntKind.i64.wrap (IntKind.i64.wrap (IntKind.i64.wrap (IntKind.i64.wrap (IntKind.i64.wrap (IntKind.i64.wrap (IntKind.i64.wrap (IntKind.i64.wrap (IntKind.i64.wrap (IntKind.i64.wrap (k + 1) + 1) + 1) + 1) + 1) + 1) + 1) + 1) + 1) + 1)) = true := by subst hA; exact h10
    rw [e, w10] at h
    simp [mkRow] at h
  · exfalso
    rename_i hlt h0 h1 h2 h3 h4 h5 h6 h7 h8 h9 h10 h11
    have h : ((GM i).told != IntKind.i64.wrap (IntKind.i64.wrap (IntKind.i64.wrap (IntKind.i64.wrap (IntKind.i64.wrap (IntKind.i64.wrap (IntKind.i64.wrap (IntKind.i64.wrap (IntKind.i64.wrap (IntKind.i64.wrap (IntKind.i64.wrap (k + 1) + 1) + 1) + 1) + 1) + 1) + 1) + 1) + 1) + 1) + 1)) = true := by subst hA; exact h11
    rw [e, w11] at h
    simp [mkRow] at h
  · exfalso
    rename_i hlt h0 h1 h2 h3 h4 h5 h6 h7 h8 h9 h10 h11 h12
    have h : (!((GM i).timely == ((IntKind.i64.wrap (IntKind.i64.wrap (IntKind.i64.wrap (IntKind.i64.wrap (IntKind.i64.wrap (IntKind.i64.wrap (IntKind.i64.wrap (IntKind.i64.wrap (IntKind.i64.wrap (IntKind.i64.wrap (IntKind.i64.wrap (IntKind.i64.wrap (k + 1) + 1) + 1) + 1) + 1) + 1) + 1) + 1) + 1) + 1) + 1) + 1)).tmod 3 == 0))) = true := by subst hA; exact h12
    rw [e, w12] at h
    simp [mkRow] at h
  · rename_i hlt h0 h1 h2 h3 h4 h5 h6 h7 h8 h9 h10 h11 h12
    have hlt' : i < n := by subst hA; simp only [real, decide_eq_true_eq, Int.ofNat_eq_natCast] at hlt; omega
    have h9 : ((i + 1 : Nat) : Int) = (i : Int) + 1 := rfl
    obtain ⟨kk, hkk2⟩ : ∃ z : Int, z = k + 13 := ⟨_, rfl⟩
    rw [← hkk2] at w13
    refine ⟨⟨(i + 1, kk), by simp only; omega, by (show kk = s + 13 * ((i + 1 : Nat) : Int)); rw [h9, hkk2, hkk, Int.mul_add]; exact Int.add_assoc _ _ _⟩, by simp only; omega, cov_of ?_ ?_ ?_⟩
    · cbv
      subst hA
      repeat' first | apply And.intro | exact True.intro | exact congrArg (fun x => DV.v (.int .i64 x)) (up64 hlt' hn2) | exact congrArg (fun x => DV.v (.int .i64 x)) w13 | rfl
    · cbv
    · cbv
  · rename_i hge
    have hin : i = n := by
      subst hA
      simp only [real, decide_eq_false_iff_not, Int.ofNat_eq_natCast] at hge
      omega
    subst hin
    exact congrArg (fun x => XA.one (.c (.d (eI x)))) (by rw [hkk, hx])
def st_msPane (n i : Nat) (k : Int) (rm : Nat → PaneT) : St := ⟨[(5, .c (.d (eI i))), (1, .c (.d (eI k))), (0, .c (.own 0 0 n 1))], [(0, 1, .arr 9 n fun i => ePane (rm i))]⟩
set_option maxRecDepth 100000 in
set_option maxHeartbeats 1000000 in
theorem marks_Pane (s : Int) (hs : 0 ≤ s ∧ s ≤ 100000000) (n : Nat) (hn : n ≤ 1100000) (rd : Nat → PaneT) (x : Int) (hx : x = s + 9 * (n : Int)) (GM : Nat → PaneT) (hGM : ∀ i, GM i = mkPane (s + 9 * (i : Int))) : Meets Try.prog 19 [.c (.own 9 n fun i => ePane (rd i)), .c (.d (eI s))] ⟨.one (.c (.d (eI x))), [some (.own 9 n fun i => ePane (GM i)), none]⟩ := by
  have hn2 : n ≤ maxLen := Nat.le_trans hn (by decide)
  refine meets_of (H := [6, 8, 10, 12, 14, 16, 18, 20, 22]) (EX := EXA) ttok mixed Try.func19 rfl (by kernel_rfl) (by decide) ?_
  generalize hA : real = A
  generalize hM : MeetsB Try.prog = M
  cbv
  repeat' first
    | apply And.intro
    | exact True.intro
    | with_reducible rfl
    | exact same_of hA rfl
    | refine br_of hA (fun _ => ?_) (fun _ => ?_)
    | exact imp_of hA id
    | (refine imp_of hA ?_; subst hA; simp only [real, Bool.true_and]; exact id)
    | (refine ind_of hA ?_; decide +kernel)
  refine loop_of hA (α := { q : Nat × Int × (Nat → PaneT) // q.1 ≤ n ∧ q.2.1 = s + 9 * (q.1 : Int) ∧ ∀ j, j < q.1 → q.2.2 j = GM j }) (fun y => st_msPane n y.1.1 y.1.2.1 y.1.2.2) (fun y => n - y.1.1) ⟨(0, s, rd), Nat.zero_le _, by simp, fun j h => absurd h (Nat.not_lt_zero j)⟩ ?_ ?_
  · refine cov_of ?_ ?_ ?_
    · cbv; try (subst hA; repeat' first | apply And.intro | exact True.intro | rfl)
    · cbv; try (subst hA; repeat' first | apply And.intro | exact True.intro | rfl | (intro _ _; rfl))
    · cbv; try (subst hA; repeat' first | apply And.intro | exact True.intro | rfl | exact .inr trivial | exact .inr (Nat.le_refl _))
  rintro ⟨⟨i, k, rm⟩, hi, hkk, hr⟩
  have hi : i ≤ n := hi
  have hkk : k = s + 9 * (i : Int) := hkk
  have hr : ∀ j, j < i → rm j = GM j := hr
  obtain ⟨k1, hk1⟩ : ∃ z : Int, z = k + 1 := ⟨_, rfl⟩
  have w1 : IntKind.i64.wrap (k + 1) = k1 := by rw [IntWalk.i64_in _ (by omega)]; omega
  obtain ⟨r1, hr1⟩ : ∃ r : Nat → PaneT, r = fun q => if q = i then (⟨k, ⟨(rm i).win.s, (rm i).win.e⟩, (rm i).no, (rm i).kind, ⟨(rm i).agg.n, (rm i).agg.sum, (rm i).agg.least, (rm i).agg.most⟩⟩ : PaneT) else rm q := ⟨_, rfl⟩
  obtain ⟨k2, hk2⟩ : ∃ z : Int, z = k + 2 := ⟨_, rfl⟩
  have w2 : IntKind.i64.wrap (k1 + 1) = k2 := by rw [IntWalk.i64_in _ (by omega)]; omega
  obtain ⟨r2, hr2⟩ : ∃ r : Nat → PaneT, r = fun q => if q = i then (⟨k, ⟨k1, (rm i).win.e⟩, (rm i).no, (rm i).kind, ⟨(rm i).agg.n, (rm i).agg.sum, (rm i).agg.least, (rm i).agg.most⟩⟩ : PaneT) else rm q := ⟨_, rfl⟩
  obtain ⟨k3, hk3⟩ : ∃ z : Int, z = k + 3 := ⟨_, rfl⟩
  have w3 : IntKind.i64.wrap (k2 + 1) = k3 := by rw [IntWalk.i64_in _ (by omega)]; omega
  obtain ⟨r3, hr3⟩ : ∃ r : Nat → PaneT, r = fun q => if q = i then (⟨k, ⟨k1, k2⟩, (rm i).no, (rm i).kind, ⟨(rm i).agg.n, (rm i).agg.sum, (rm i).agg.least, (rm i).agg.most⟩⟩ : PaneT) else rm q := ⟨_, rfl⟩
  obtain ⟨k4, hk4⟩ : ∃ z : Int, z = k + 4 := ⟨_, rfl⟩
  have w4 : IntKind.i64.wrap (k3 + 1) = k4 := by rw [IntWalk.i64_in _ (by omega)]; omega
  obtain ⟨r4, hr4⟩ : ∃ r : Nat → PaneT, r = fun q => if q = i then (⟨k, ⟨k1, k2⟩, k3, (rm i).kind, ⟨(rm i).agg.n, (rm i).agg.sum, (rm i).agg.least, (rm i).agg.most⟩⟩ : PaneT) else rm q := ⟨_, rfl⟩
  obtain ⟨k5, hk5⟩ : ∃ z : Int, z = k + 5 := ⟨_, rfl⟩
  have w5 : IntKind.i64.wrap (k4 + 1) = k5 := by rw [IntWalk.i64_in _ (by omega)]; omega
  obtain ⟨r5, hr5⟩ : ∃ r : Nat → PaneT, r = fun q => if q = i then (⟨k, ⟨k1, k2⟩, k3, k4, ⟨(rm i).agg.n, (rm i).agg.sum, (rm i).agg.least, (rm i).agg.most⟩⟩ : PaneT) else rm q := ⟨_, rfl⟩
  obtain ⟨k6, hk6⟩ : ∃ z : Int, z = k + 6 := ⟨_, rfl⟩
  have w6 : IntKind.i64.wrap (k5 + 1) = k6 := by rw [IntWalk.i64_in _ (by omega)]; omega
  obtain ⟨r6, hr6⟩ : ∃ r : Nat → PaneT, r = fun q => if q = i then (⟨k, ⟨k1, k2⟩, k3, k4, ⟨k5, (rm i).agg.sum, (rm i).agg.least, (rm i).agg.most⟩⟩ : PaneT) else rm q := ⟨_, rfl⟩
  obtain ⟨k7, hk7⟩ : ∃ z : Int, z = k + 7 := ⟨_, rfl⟩
  have w7 : IntKind.i64.wrap (k6 + 1) = k7 := by rw [IntWalk.i64_in _ (by omega)]; omega
  obtain ⟨r7, hr7⟩ : ∃ r : Nat → PaneT, r = fun q => if q = i then (⟨k, ⟨k1, k2⟩, k3, k4, ⟨k5, k6, (rm i).agg.least, (rm i).agg.most⟩⟩ : PaneT) else rm q := ⟨_, rfl⟩
  obtain ⟨k8, hk8⟩ : ∃ z : Int, z = k + 8 := ⟨_, rfl⟩
  have w8 : IntKind.i64.wrap (k7 + 1) = k8 := by rw [IntWalk.i64_in _ (by omega)]; omega
  obtain ⟨r8, hr8⟩ : ∃ r : Nat → PaneT, r = fun q => if q = i then (⟨k, ⟨k1, k2⟩, k3, k4, ⟨k5, k6, k7, (rm i).agg.most⟩⟩ : PaneT) else rm q := ⟨_, rfl⟩
  obtain ⟨k9, hk9⟩ : ∃ z : Int, z = k + 9 := ⟨_, rfl⟩
  have w9 : IntKind.i64.wrap (k8 + 1) = k9 := by rw [IntWalk.i64_in _ (by omega)]; omega
  obtain ⟨r9, hr9⟩ : ∃ r : Nat → PaneT, r = fun q => if q = i then (⟨k, ⟨k1, k2⟩, k3, k4, ⟨k5, k6, k7, k8⟩⟩ : PaneT) else rm q := ⟨_, rfl⟩
  cbv
  repeat' first
    | apply And.intro
    | exact True.intro
    | with_reducible rfl
    | exact same_of hA rfl
    | refine br_of hA (fun _ => ?_) (fun _ => ?_)
    | exact imp_of hA id
    | (refine imp_of hA ?_; subst hA; simp only [real, Bool.true_and]; exact id)
    | (refine ind_of hA ?_; decide +kernel)
    | (refine inb_of hA fun _ => ?_; subst hA; simp only [real, Bool.and_eq_true, Bool.not_eq_true', Bool.not_eq_false', decide_eq_true_eq, Int.ofNat_eq_natCast, IntKind.wrap_i64] at *; omega)
    | (subst hA; exact fun _ => (by decide : (3 : Int) ≠ 0))
  · rename_i hlt
    have hlt' : i < n := by subst hA; simp only [real, decide_eq_true_eq, Int.ofNat_eq_natCast] at hlt; omega
    refine stop_of hA (st_msPane n i k1 r1) (cov_of ?_ ?_ ?_) ?_
    · cbv
      subst hA
      repeat' first | apply And.intro | exact True.intro | exact congrArg (fun x => DV.v (.int .i64 x)) w1 | rfl
    · cbv
      subst hA
      refine ⟨fun q _ => ?_, trivial⟩
      have e0 : real.add 0 (real.nat (Int.ofNat i)) = i := Nat.zero_add i
      simp only [e0]
      first
        | (show (if q = i then _ else ePane (rm q)) = ePane (r1 q))
        | (show (if q = 0 + i then _ else ePane (rm q)) = ePane (r1 q); rw [Nat.zero_add])
      simp only [hr1]
      by_cases e : q = i
      · subst e; first | (simp; done) | (simp; rfl)
      · simp [e]
    · cbv; try (subst hA; repeat' first | apply And.intro | exact True.intro | rfl | exact .inr trivial | exact .inr (Nat.le_refl _))
    cbv
    repeat' first
      | apply And.intro
      | exact True.intro
      | with_reducible rfl
      | exact same_of hA rfl
      | refine br_of hA (fun _ => ?_) (fun _ => ?_)
      | exact imp_of hA id
      | (refine imp_of hA ?_; subst hA; simp only [real, Bool.true_and]; exact id)
      | (refine ind_of hA ?_; decide +kernel)
      | (refine inb_of hA fun _ => ?_; subst hA; simp only [real, Bool.and_eq_true, Bool.not_eq_true', Bool.not_eq_false', decide_eq_true_eq, Int.ofNat_eq_natCast, IntKind.wrap_i64] at *; omega)
      | (subst hA; exact fun _ => (by decide : (3 : Int) ≠ 0))
    refine stop_of hA (st_msPane n i k2 r2) (cov_of ?_ ?_ ?_) ?_
    · cbv
      subst hA
      repeat' first | apply And.intro | exact True.intro | exact congrArg (fun x => DV.v (.int .i64 x)) w2 | rfl
    · cbv
      subst hA
      refine ⟨fun q _ => ?_, trivial⟩
      have e0 : real.add 0 (real.nat (Int.ofNat i)) = i := Nat.zero_add i
      simp only [e0]
      first
        | (show (if q = i then _ else ePane (r1 q)) = ePane (r2 q))
        | (show (if q = 0 + i then _ else ePane (r1 q)) = ePane (r2 q); rw [Nat.zero_add])
      simp only [hr2, hr1]
      by_cases e : q = i
      · subst e; first | (simp; done) | (simp; rfl)
      · simp [e]
    · cbv; try (subst hA; repeat' first | apply And.intro | exact True.intro | rfl | exact .inr trivial | exact .inr (Nat.le_refl _))
    cbv
    repeat' first
      | apply And.intro
      | exact True.intro
      | with_reducible rfl
      | exact same_of hA rfl
      | refine br_of hA (fun _ => ?_) (fun _ => ?_)
      | exact imp_of hA id
      | (refine imp_of hA ?_; subst hA; simp only [real, Bool.true_and]; exact id)
      | (refine ind_of hA ?_; decide +kernel)
      | (refine inb_of hA fun _ => ?_; subst hA; simp only [real, Bool.and_eq_true, Bool.not_eq_true', Bool.not_eq_false', decide_eq_true_eq, Int.ofNat_eq_natCast, IntKind.wrap_i64] at *; omega)
      | (subst hA; exact fun _ => (by decide : (3 : Int) ≠ 0))
    refine stop_of hA (st_msPane n i k3 r3) (cov_of ?_ ?_ ?_) ?_
    · cbv
      subst hA
      repeat' first | apply And.intro | exact True.intro | exact congrArg (fun x => DV.v (.int .i64 x)) w3 | rfl
    · cbv
      subst hA
      refine ⟨fun q _ => ?_, trivial⟩
      have e0 : real.add 0 (real.nat (Int.ofNat i)) = i := Nat.zero_add i
      simp only [e0]
      first
        | (show (if q = i then _ else ePane (r2 q)) = ePane (r3 q))
        | (show (if q = 0 + i then _ else ePane (r2 q)) = ePane (r3 q); rw [Nat.zero_add])
      simp only [hr3, hr2]
      by_cases e : q = i
      · subst e; first | (simp; done) | (simp; rfl)
      · simp [e]
    · cbv; try (subst hA; repeat' first | apply And.intro | exact True.intro | rfl | exact .inr trivial | exact .inr (Nat.le_refl _))
    cbv
    repeat' first
      | apply And.intro
      | exact True.intro
      | with_reducible rfl
      | exact same_of hA rfl
      | refine br_of hA (fun _ => ?_) (fun _ => ?_)
      | exact imp_of hA id
      | (refine imp_of hA ?_; subst hA; simp only [real, Bool.true_and]; exact id)
      | (refine ind_of hA ?_; decide +kernel)
      | (refine inb_of hA fun _ => ?_; subst hA; simp only [real, Bool.and_eq_true, Bool.not_eq_true', Bool.not_eq_false', decide_eq_true_eq, Int.ofNat_eq_natCast, IntKind.wrap_i64] at *; omega)
      | (subst hA; exact fun _ => (by decide : (3 : Int) ≠ 0))
    refine stop_of hA (st_msPane n i k4 r4) (cov_of ?_ ?_ ?_) ?_
    · cbv
      subst hA
      repeat' first | apply And.intro | exact True.intro | exact congrArg (fun x => DV.v (.int .i64 x)) w4 | rfl
    · cbv
      subst hA
      refine ⟨fun q _ => ?_, trivial⟩
      have e0 : real.add 0 (real.nat (Int.ofNat i)) = i := Nat.zero_add i
      simp only [e0]
      first
        | (show (if q = i then _ else ePane (r3 q)) = ePane (r4 q))
        | (show (if q = 0 + i then _ else ePane (r3 q)) = ePane (r4 q); rw [Nat.zero_add])
      simp only [hr4, hr3]
      by_cases e : q = i
      · subst e; first | (simp; done) | (simp; rfl)
      · simp [e]
    · cbv; try (subst hA; repeat' first | apply And.intro | exact True.intro | rfl | exact .inr trivial | exact .inr (Nat.le_refl _))
    cbv
    repeat' first
      | apply And.intro
      | exact True.intro
      | with_reducible rfl
      | exact same_of hA rfl
      | refine br_of hA (fun _ => ?_) (fun _ => ?_)
      | exact imp_of hA id
      | (refine imp_of hA ?_; subst hA; simp only [real, Bool.true_and]; exact id)
      | (refine ind_of hA ?_; decide +kernel)
      | (refine inb_of hA fun _ => ?_; subst hA; simp only [real, Bool.and_eq_true, Bool.not_eq_true', Bool.not_eq_false', decide_eq_true_eq, Int.ofNat_eq_natCast, IntKind.wrap_i64] at *; omega)
      | (subst hA; exact fun _ => (by decide : (3 : Int) ≠ 0))
    refine stop_of hA (st_msPane n i k5 r5) (cov_of ?_ ?_ ?_) ?_
    · cbv
      subst hA
      repeat' first | apply And.intro | exact True.intro | exact congrArg (fun x => DV.v (.int .i64 x)) w5 | rfl
    · cbv
      subst hA
      refine ⟨fun q _ => ?_, trivial⟩
      have e0 : real.add 0 (real.nat (Int.ofNat i)) = i := Nat.zero_add i
      simp only [e0]
      first
        | (show (if q = i then _ else ePane (r4 q)) = ePane (r5 q))
        | (show (if q = 0 + i then _ else ePane (r4 q)) = ePane (r5 q); rw [Nat.zero_add])
      simp only [hr5, hr4]
      by_cases e : q = i
      · subst e; first | (simp; done) | (simp; rfl)
      · simp [e]
    · cbv; try (subst hA; repeat' first | apply And.intro | exact True.intro | rfl | exact .inr trivial | exact .inr (Nat.le_refl _))
    cbv
    repeat' first
      | apply And.intro
      | exact True.intro
      | with_reducible rfl
      | exact same_of hA rfl
      | refine br_of hA (fun _ => ?_) (fun _ => ?_)
      | exact imp_of hA id
      | (refine imp_of hA ?_; subst hA; simp only [real, Bool.true_and]; exact id)
      | (refine ind_of hA ?_; decide +kernel)
      | (refine inb_of hA fun _ => ?_; subst hA; simp only [real, Bool.and_eq_true, Bool.not_eq_true', Bool.not_eq_false', decide_eq_true_eq, Int.ofNat_eq_natCast, IntKind.wrap_i64] at *; omega)
      | (subst hA; exact fun _ => (by decide : (3 : Int) ≠ 0))
    refine stop_of hA (st_msPane n i k6 r6) (cov_of ?_ ?_ ?_) ?_
    · cbv
      subst hA
      repeat' first | apply And.intro | exact True.intro | exact congrArg (fun x => DV.v (.int .i64 x)) w6 | rfl
    · cbv
      subst hA
      refine ⟨fun q _ => ?_, trivial⟩
      have e0 : real.add 0 (real.nat (Int.ofNat i)) = i := Nat.zero_add i
      simp only [e0]
      first
        | (show (if q = i then _ else ePane (r5 q)) = ePane (r6 q))
        | (show (if q = 0 + i then _ else ePane (r5 q)) = ePane (r6 q); rw [Nat.zero_add])
      simp only [hr6, hr5]
      by_cases e : q = i
      · subst e; first | (simp; done) | (simp; rfl)
      · simp [e]
    · cbv; try (subst hA; repeat' first | apply And.intro | exact True.intro | rfl | exact .inr trivial | exact .inr (Nat.le_refl _))
    cbv
    repeat' first
      | apply And.intro
      | exact True.intro
      | with_reducible rfl
      | exact same_of hA rfl
      | refine br_of hA (fun _ => ?_) (fun _ => ?_)
      | exact imp_of hA id
      | (refine imp_of hA ?_; subst hA; simp only [real, Bool.true_and]; exact id)
      | (refine ind_of hA ?_; decide +kernel)
      | (refine inb_of hA fun _ => ?_; subst hA; simp only [real, Bool.and_eq_true, Bool.not_eq_true', Bool.not_eq_false', decide_eq_true_eq, Int.ofNat_eq_natCast, IntKind.wrap_i64] at *; omega)
      | (subst hA; exact fun _ => (by decide : (3 : Int) ≠ 0))
    refine stop_of hA (st_msPane n i k7 r7) (cov_of ?_ ?_ ?_) ?_
    · cbv
      subst hA
      repeat' first | apply And.intro | exact True.intro | exact congrArg (fun x => DV.v (.int .i64 x)) w7 | rfl
    · cbv
      subst hA
      refine ⟨fun q _ => ?_, trivial⟩
      have e0 : real.add 0 (real.nat (Int.ofNat i)) = i := Nat.zero_add i
      simp only [e0]
      first
        | (show (if q = i then _ else ePane (r6 q)) = ePane (r7 q))
        | (show (if q = 0 + i then _ else ePane (r6 q)) = ePane (r7 q); rw [Nat.zero_add])
      simp only [hr7, hr6]
      by_cases e : q = i
      · subst e; first | (simp; done) | (simp; rfl)
      · simp [e]
    · cbv; try (subst hA; repeat' first | apply And.intro | exact True.intro | rfl | exact .inr trivial | exact .inr (Nat.le_refl _))
    cbv
    repeat' first
      | apply And.intro
      | exact True.intro
      | with_reducible rfl
      | exact same_of hA rfl
      | refine br_of hA (fun _ => ?_) (fun _ => ?_)
      | exact imp_of hA id
      | (refine imp_of hA ?_; subst hA; simp only [real, Bool.true_and]; exact id)
      | (refine ind_of hA ?_; decide +kernel)
      | (refine inb_of hA fun _ => ?_; subst hA; simp only [real, Bool.and_eq_true, Bool.not_eq_true', Bool.not_eq_false', decide_eq_true_eq, Int.ofNat_eq_natCast, IntKind.wrap_i64] at *; omega)
      | (subst hA; exact fun _ => (by decide : (3 : Int) ≠ 0))
    refine stop_of hA (st_msPane n i k8 r8) (cov_of ?_ ?_ ?_) ?_
    · cbv
      subst hA
      repeat' first | apply And.intro | exact True.intro | exact congrArg (fun x => DV.v (.int .i64 x)) w8 | rfl
    · cbv
      subst hA
      refine ⟨fun q _ => ?_, trivial⟩
      have e0 : real.add 0 (real.nat (Int.ofNat i)) = i := Nat.zero_add i
      simp only [e0]
      first
        | (show (if q = i then _ else ePane (r7 q)) = ePane (r8 q))
        | (show (if q = 0 + i then _ else ePane (r7 q)) = ePane (r8 q); rw [Nat.zero_add])
      simp only [hr8, hr7]
      by_cases e : q = i
      · subst e; first | (simp; done) | (simp; rfl)
      · simp [e]
    · cbv; try (subst hA; repeat' first | apply And.intro | exact True.intro | rfl | exact .inr trivial | exact .inr (Nat.le_refl _))
    cbv
    repeat' first
      | apply And.intro
      | exact True.intro
      | with_reducible rfl
      | exact same_of hA rfl
      | refine br_of hA (fun _ => ?_) (fun _ => ?_)
      | exact imp_of hA id
      | (refine imp_of hA ?_; subst hA; simp only [real, Bool.true_and]; exact id)
      | (refine ind_of hA ?_; decide +kernel)
      | (refine inb_of hA fun _ => ?_; subst hA; simp only [real, Bool.and_eq_true, Bool.not_eq_true', Bool.not_eq_false', decide_eq_true_eq, Int.ofNat_eq_natCast, IntKind.wrap_i64] at *; omega)
      | (subst hA; exact fun _ => (by decide : (3 : Int) ≠ 0))
    have h9 : ((i + 1 : Nat) : Int) = (i : Int) + 1 := rfl
    refine ⟨⟨(i + 1, k9, r9), by simp only; omega, by (show k9 = s + 9 * ((i + 1 : Nat) : Int)); rw [h9, hk9, hkk, Int.mul_add]; exact Int.add_assoc _ _ _, fun j hj => ?_⟩, by simp only; omega, cov_of ?_ ?_ ?_⟩
    · simp only at hj ⊢
      by_cases e : j = i
      · rw [hr9]; simp only [e, if_true]
        rw [hGM, ← hkk]
        simp only [mkPane, hk1, hk2, hk3, hk4, hk5, hk6, hk7, hk8]
      · rw [hr9]; simp only [e, if_false]; exact hr j (by omega)
    · cbv
      subst hA
      repeat' first | apply And.intro | exact True.intro | exact congrArg (fun x => DV.v (.int .i64 x)) w9 | exact congrArg (fun x => DV.v (.int .i64 x)) (up64 hlt' hn2) | rfl
    · cbv
      subst hA
      refine ⟨fun q _ => ?_, trivial⟩
      have e0 : real.add 0 (real.nat (Int.ofNat i)) = i := Nat.zero_add i
      simp only [e0]
      first
        | (show (if q = i then _ else ePane (r8 q)) = ePane (r9 q))
        | (show (if q = 0 + i then _ else ePane (r8 q)) = ePane (r9 q); rw [Nat.zero_add])
      simp only [hr9, hr8]
      by_cases e : q = i
      · subst e; first | (simp; done) | (simp; rfl)
      · simp [e]
    · cbv; try (subst hA; repeat' first | apply And.intro | exact True.intro | rfl | exact .inr trivial | exact .inr (Nat.le_refl _))
  · rename_i hge
    have hin : i = n := by
      subst hA
      simp only [real, decide_eq_false_iff_not, Int.ofNat_eq_natCast] at hge
      omega
    subst hin
    have hkx : k = x := by rw [hkk, hx]
    subst hkx
    refine stop_of hA ⟨[(1, .c (.d (eI k)))], [(0, 1, .arr 9 i fun q => ePane (GM q))]⟩ (cov_of ?_ ?_ ?_) ?_
    · cbv
    · cbv
      exact ⟨fun q hq => congrArg (fun y => ePane y) (hr q hq), trivial⟩
    · cbv; try (subst hA; repeat' first | apply And.intro | exact True.intro | rfl | exact .inr trivial | exact .inr (Nat.le_refl _))
    · cbv
      repeat' first
        | apply And.intro
        | exact True.intro
        | with_reducible rfl
        | exact same_of hA rfl
        | refine br_of hA (fun _ => ?_) (fun _ => ?_)
        | exact imp_of hA id
        | (refine imp_of hA ?_; subst hA; simp only [real, Bool.true_and]; exact id)
        | (refine ind_of hA ?_; decide +kernel)
def st_hsPane (n : Nat) (rd : Nat → PaneT) (i : Nat) (k : Int) : St := ⟨[(5, .c (.d (eI i))), (1, .c (.d (eI k))), (0, .c (.d (.sl 9 n fun i => ePane (rd i))))], []⟩
set_option maxRecDepth 100000 in
set_option maxHeartbeats 2000000 in
theorem helds_Pane (s : Int) (hs : 0 ≤ s ∧ s ≤ 100000000) (n : Nat) (hn : n ≤ 1100000) (x : Int) (hx : x = s + 9 * (n : Int)) (GM : Nat → PaneT) (hGM : ∀ i, GM i = mkPane (s + 9 * (i : Int))) : Meets Try.prog 21 [.c (.d (.sl 9 n fun i => ePane (GM i))), .c (.d (eI s))] ⟨.one (.c (.d (eI x))), [none, none]⟩ := by
  have hn2 : n ≤ maxLen := Nat.le_trans hn (by decide)
  refine meets_of (H := []) (EX := EXA) ttok mixed Try.func21 rfl (by kernel_rfl) (by decide) ?_
  generalize hA : real = A
  generalize hM : MeetsB Try.prog = M
  cbv
  repeat' first
    | apply And.intro
    | exact True.intro
    | with_reducible rfl
    | exact same_of hA rfl
    | refine br_of hA (fun _ => ?_) (fun _ => ?_)
    | exact imp_of hA id
    | (refine imp_of hA ?_; subst hA; simp only [real, Bool.true_and]; exact id)
    | (refine ind_of hA ?_; decide +kernel)
  refine loop_of hA (α := { q : Nat × Int // q.1 ≤ n ∧ q.2 = s + 9 * (q.1 : Int) }) (fun y => st_hsPane n GM y.1.1 y.1.2) (fun y => n - y.1.1) ⟨(0, s), Nat.zero_le _, by simp⟩ ?_ ?_
  · refine cov_of ?_ ?_ ?_
    · cbv; try (subst hA; repeat' first | apply And.intro | exact True.intro | rfl)
    · cbv; try (subst hA; repeat' first | apply And.intro | exact True.intro | rfl)
    · cbv
  rintro ⟨⟨i, k⟩, hi, hkk⟩
  have hi : i ≤ n := hi
  have hkk : k = s + 9 * (i : Int) := hkk
  have hkb : 0 ≤ k ∧ k ≤ 150000000 := by omega
  have e := hGM i
  rw [← hkk] at e
  have w1 : IntKind.i64.wrap (k + 1) = k + 1 := wr1 k hkb
  have w2 : IntKind.i64.wrap (IntKind.i64.wrap (k + 1) + 1) = k + 2 := by rw [w1]; exact wrn k 1 2 hkb (by decide) (by decide)
  have w3 : IntKind.i64.wrap (IntKind.i64.wrap (IntKind.i64.wrap (k + 1) + 1) + 1) = k + 3 := by rw [w2]; exact wrn k 2 3 hkb (by decide) (by decide)
  have w4 : IntKind.i64.wrap (IntKind.i64.wrap (IntKind.i64.wrap (IntKind.i64.wrap (k + 1) + 1) + 1) + 1) = k + 4 := by rw [w3]; exact wrn k 3 4 hkb (by decide) (by decide)
  have w5 : IntKind.i64.wrap (IntKind.i64.wrap (IntKind.i64.wrap (IntKind.i64.wrap (IntKind.i64.wrap (k + 1) + 1) + 1) + 1) + 1) = k + 5 := by rw [w4]; exact wrn k 4 5 hkb (by decide) (by decide)
  have w6 : IntKind.i64.wrap (IntKind.i64.wrap (IntKind.i64.wrap (IntKind.i64.wrap (IntKind.i64.wrap (IntKind.i64.wrap (k + 1) + 1) + 1) + 1) + 1) + 1) = k + 6 := by rw [w5]; exact wrn k 5 6 hkb (by decide) (by decide)
  have w7 : IntKind.i64.wrap (IntKind.i64.wrap (IntKind.i64.wrap (IntKind.i64.wrap (IntKind.i64.wrap (IntKind.i64.wrap (IntKind.i64.wrap (k + 1) + 1) + 1) + 1) + 1) + 1) + 1) = k + 7 := by rw [w6]; exact wrn k 6 7 hkb (by decide) (by decide)
  have w8 : IntKind.i64.wrap (IntKind.i64.wrap (IntKind.i64.wrap (IntKind.i64.wrap (IntKind.i64.wrap (IntKind.i64.wrap (IntKind.i64.wrap (IntKind.i64.wrap (k + 1) + 1) + 1) + 1) + 1) + 1) + 1) + 1) = k + 8 := by rw [w7]; exact wrn k 7 8 hkb (by decide) (by decide)
  have w9 : IntKind.i64.wrap (IntKind.i64.wrap (IntKind.i64.wrap (IntKind.i64.wrap (IntKind.i64.wrap (IntKind.i64.wrap (IntKind.i64.wrap (IntKind.i64.wrap (IntKind.i64.wrap (k + 1) + 1) + 1) + 1) + 1) + 1) + 1) + 1) + 1) = k + 9 := by rw [w8]; exact wrn k 8 9 hkb (by decide) (by decide)
  cbv
  repeat' first
    | apply And.intro
    | exact True.intro
    | with_reducible rfl
    | exact same_of hA rfl
    | refine br_of hA (fun _ => ?_) (fun _ => ?_)
    | exact imp_of hA id
    | (refine imp_of hA ?_; subst hA; simp only [real, Bool.true_and]; exact id)
    | (refine ind_of hA ?_; decide +kernel)
    | (refine inb_of hA fun _ => ?_; subst hA; simp only [real, Bool.and_eq_true, Bool.not_eq_true', Bool.not_eq_false', decide_eq_true_eq, Int.ofNat_eq_natCast, IntKind.wrap_i64] at *; omega)
    | (subst hA; exact fun _ => (by decide : (3 : Int) ≠ 0))
  · exfalso
    rename_i hlt h0
    have h : ((GM i).key != k) = true := by subst hA; exact h0
    rw [e] at h
    simp [mkPane] at h
  · exfalso
    rename_i hlt h0 h1
    have h : ((GM i).win.s != IntKind.i64.wrap (k + 1)) = true := by subst hA; exact h1
    rw [e, w1] at h
    simp [mkPane] at h
  · exfalso
    rename_i hlt h0 h1 h2
    have h : ((GM i).win.e != IntKind.i64.wrap (IntKind.i64.wrap (k + 1) + 1)) = true := by subst hA; exact h2
    rw [e, w2] at h
    simp [mkPane] at h
  · exfalso
    rename_i hlt h0 h1 h2 h3
    have h : ((GM i).no != IntKind.i64.wrap (IntKind.i64.wrap (IntKind.i64.wrap (k + 1) + 1) + 1)) = true := by subst hA; exact h3
    rw [e, w3] at h
    simp [mkPane] at h
  · exfalso
    rename_i hlt h0 h1 h2 h3 h4
    have h : ((GM i).kind != IntKind.i64.wrap (IntKind.i64.wrap (IntKind.i64.wrap (IntKind.i64.wrap (k + 1) + 1) + 1) + 1)) = true := by subst hA; exact h4
    rw [e, w4] at h
    simp [mkPane] at h
  · exfalso
    rename_i hlt h0 h1 h2 h3 h4 h5
    have h : ((GM i).agg.n != IntKind.i64.wrap (IntKind.i64.wrap (IntKind.i64.wrap (IntKind.i64.wrap (IntKind.i64.wrap (k + 1) + 1) + 1) + 1) + 1)) = true := by subst hA; exact h5
    rw [e, w5] at h
    simp [mkPane] at h
  · exfalso
    rename_i hlt h0 h1 h2 h3 h4 h5 h6
    have h : ((GM i).agg.sum != IntKind.i64.wrap (IntKind.i64.wrap (IntKind.i64.wrap (IntKind.i64.wrap (IntKind.i64.wrap (IntKind.i64.wrap (k + 1) + 1) + 1) + 1) + 1) + 1)) = true := by subst hA; exact h6
    rw [e, w6] at h
    simp [mkPane] at h
  · exfalso
    rename_i hlt h0 h1 h2 h3 h4 h5 h6 h7
    have h : ((GM i).agg.least != IntKind.i64.wrap (IntKind.i64.wrap (IntKind.i64.wrap (IntKind.i64.wrap (IntKind.i64.wrap (IntKind.i64.wrap (IntKind.i64.wrap (k + 1) + 1) + 1) + 1) + 1) + 1) + 1)) = true := by subst hA; exact h7
    rw [e, w7] at h
    simp [mkPane] at h
  · exfalso
    rename_i hlt h0 h1 h2 h3 h4 h5 h6 h7 h8
    have h : ((GM i).agg.most != IntKind.i64.wrap (IntKind.i64.wrap (IntKind.i64.wrap (IntKind.i64.wrap (IntKind.i64.wrap (IntKind.i64.wrap (IntKind.i64.wrap (IntKind.i64.wrap (k + 1) + 1) + 1) + 1) + 1) + 1) + 1) + 1)) = true := by subst hA; exact h8
    rw [e, w8] at h
    simp [mkPane] at h
  · rename_i hlt h0 h1 h2 h3 h4 h5 h6 h7 h8
    have hlt' : i < n := by subst hA; simp only [real, decide_eq_true_eq, Int.ofNat_eq_natCast] at hlt; omega
    have h9 : ((i + 1 : Nat) : Int) = (i : Int) + 1 := rfl
    obtain ⟨kk, hkk2⟩ : ∃ z : Int, z = k + 9 := ⟨_, rfl⟩
    rw [← hkk2] at w9
    refine ⟨⟨(i + 1, kk), by simp only; omega, by (show kk = s + 9 * ((i + 1 : Nat) : Int)); rw [h9, hkk2, hkk, Int.mul_add]; exact Int.add_assoc _ _ _⟩, by simp only; omega, cov_of ?_ ?_ ?_⟩
    · cbv
      subst hA
      repeat' first | apply And.intro | exact True.intro | exact congrArg (fun x => DV.v (.int .i64 x)) (up64 hlt' hn2) | exact congrArg (fun x => DV.v (.int .i64 x)) w9 | rfl
    · cbv
    · cbv
  · rename_i hge
    have hin : i = n := by
      subst hA
      simp only [real, decide_eq_false_iff_not, Int.ofNat_eq_natCast] at hge
      omega
    subst hin
    exact congrArg (fun x => XA.one (.c (.d (eI x)))) (by rw [hkk, hx])
end Go.Rk
/- Marks. -/
namespace Go.Rk
set_option linter.unusedSimpArgs false
set_option linter.unusedVariables false
open Go.Proofs
def st_msLat (n i : Nat) (k : Int) (rm : Nat → LatT) : St := ⟨[(5, .c (.d (eI i))), (1, .c (.d (eI k))), (0, .c (.own 0 0 n 1))], [(0, 1, .arr 7 n fun i => eLat (rm i))]⟩
set_option maxRecDepth 100000 in
set_option maxHeartbeats 1000000 in
theorem marks_Lat (s : Int) (hs : 0 ≤ s ∧ s ≤ 100000000) (n : Nat) (hn : n ≤ 1100000) (rd : Nat → LatT) (x : Int) (hx : x = s + 7 * (n : Int)) (GM : Nat → LatT) (hGM : ∀ i, GM i = mkLat (s + 7 * (i : Int))) : Meets Try.prog 26 [.c (.own 7 n fun i => eLat (rd i)), .c (.d (eI s))] ⟨.one (.c (.d (eI x))), [some (.own 7 n fun i => eLat (GM i)), none]⟩ := by
  have hn2 : n ≤ maxLen := Nat.le_trans hn (by decide)
  refine meets_of (H := [6, 8, 10, 12, 14, 16, 18]) (EX := EXA) ttok mixed Try.func26 rfl (by kernel_rfl) (by decide) ?_
  generalize hA : real = A
  generalize hM : MeetsB Try.prog = M
  cbv
  repeat' first
    | apply And.intro
    | exact True.intro
    | with_reducible rfl
    | exact same_of hA rfl
    | refine br_of hA (fun _ => ?_) (fun _ => ?_)
    | exact imp_of hA id
    | (refine imp_of hA ?_; subst hA; simp only [real, Bool.true_and]; exact id)
    | (refine ind_of hA ?_; decide +kernel)
  refine loop_of hA (α := { q : Nat × Int × (Nat → LatT) // q.1 ≤ n ∧ q.2.1 = s + 7 * (q.1 : Int) ∧ ∀ j, j < q.1 → q.2.2 j = GM j }) (fun y => st_msLat n y.1.1 y.1.2.1 y.1.2.2) (fun y => n - y.1.1) ⟨(0, s, rd), Nat.zero_le _, by simp, fun j h => absurd h (Nat.not_lt_zero j)⟩ ?_ ?_
  · refine cov_of ?_ ?_ ?_
    · cbv; try (subst hA; repeat' first | apply And.intro | exact True.intro | rfl)
    · cbv; try (subst hA; repeat' first | apply And.intro | exact True.intro | rfl | (intro _ _; rfl))
    · cbv; try (subst hA; repeat' first | apply And.intro | exact True.intro | rfl | exact .inr trivial | exact .inr (Nat.le_refl _))
  rintro ⟨⟨i, k, rm⟩, hi, hkk, hr⟩
  have hi : i ≤ n := hi
  have hkk : k = s + 7 * (i : Int) := hkk
  have hr : ∀ j, j < i → rm j = GM j := hr
  obtain ⟨k1, hk1⟩ : ∃ z : Int, z = k + 1 := ⟨_, rfl⟩
  have w1 : IntKind.i64.wrap (k + 1) = k1 := by rw [IntWalk.i64_in _ (by omega)]; omega
  obtain ⟨r1, hr1⟩ : ∃ r : Nat → LatT, r = fun q => if q = i then (⟨⟨k, (rm i).itm.t, (rm i).itm.key, (rm i).itm.v, (rm i).itm.n⟩, ⟨(rm i).win.s, (rm i).win.e⟩⟩ : LatT) else rm q := ⟨_, rfl⟩
  obtain ⟨k2, hk2⟩ : ∃ z : Int, z = k + 2 := ⟨_, rfl⟩
  have w2 : IntKind.i64.wrap (k1 + 1) = k2 := by rw [IntWalk.i64_in _ (by omega)]; omega
  obtain ⟨r2, hr2⟩ : ∃ r : Nat → LatT, r = fun q => if q = i then (⟨⟨k, k1, (rm i).itm.key, (rm i).itm.v, (rm i).itm.n⟩, ⟨(rm i).win.s, (rm i).win.e⟩⟩ : LatT) else rm q := ⟨_, rfl⟩
  obtain ⟨k3, hk3⟩ : ∃ z : Int, z = k + 3 := ⟨_, rfl⟩
  have w3 : IntKind.i64.wrap (k2 + 1) = k3 := by rw [IntWalk.i64_in _ (by omega)]; omega
  obtain ⟨r3, hr3⟩ : ∃ r : Nat → LatT, r = fun q => if q = i then (⟨⟨k, k1, k2, (rm i).itm.v, (rm i).itm.n⟩, ⟨(rm i).win.s, (rm i).win.e⟩⟩ : LatT) else rm q := ⟨_, rfl⟩
  obtain ⟨k4, hk4⟩ : ∃ z : Int, z = k + 4 := ⟨_, rfl⟩
  have w4 : IntKind.i64.wrap (k3 + 1) = k4 := by rw [IntWalk.i64_in _ (by omega)]; omega
  obtain ⟨r4, hr4⟩ : ∃ r : Nat → LatT, r = fun q => if q = i then (⟨⟨k, k1, k2, k3, (rm i).itm.n⟩, ⟨(rm i).win.s, (rm i).win.e⟩⟩ : LatT) else rm q := ⟨_, rfl⟩
  obtain ⟨k5, hk5⟩ : ∃ z : Int, z = k + 5 := ⟨_, rfl⟩
  have w5 : IntKind.i64.wrap (k4 + 1) = k5 := by rw [IntWalk.i64_in _ (by omega)]; omega
  obtain ⟨r5, hr5⟩ : ∃ r : Nat → LatT, r = fun q => if q = i then (⟨⟨k, k1, k2, k3, k4⟩, ⟨(rm i).win.s, (rm i).win.e⟩⟩ : LatT) else rm q := ⟨_, rfl⟩
  obtain ⟨k6, hk6⟩ : ∃ z : Int, z = k + 6 := ⟨_, rfl⟩
  have w6 : IntKind.i64.wrap (k5 + 1) = k6 := by rw [IntWalk.i64_in _ (by omega)]; omega
  obtain ⟨r6, hr6⟩ : ∃ r : Nat → LatT, r = fun q => if q = i then (⟨⟨k, k1, k2, k3, k4⟩, ⟨k5, (rm i).win.e⟩⟩ : LatT) else rm q := ⟨_, rfl⟩
  obtain ⟨k7, hk7⟩ : ∃ z : Int, z = k + 7 := ⟨_, rfl⟩
  have w7 : IntKind.i64.wrap (k6 + 1) = k7 := by rw [IntWalk.i64_in _ (by omega)]; omega
  obtain ⟨r7, hr7⟩ : ∃ r : Nat → LatT, r = fun q => if q = i then (⟨⟨k, k1, k2, k3, k4⟩, ⟨k5, k6⟩⟩ : LatT) else rm q := ⟨_, rfl⟩
  cbv
  repeat' first
    | apply And.intro
    | exact True.intro
    | with_reducible rfl
    | exact same_of hA rfl
    | refine br_of hA (fun _ => ?_) (fun _ => ?_)
    | exact imp_of hA id
    | (refine imp_of hA ?_; subst hA; simp only [real, Bool.true_and]; exact id)
    | (refine ind_of hA ?_; decide +kernel)
    | (refine inb_of hA fun _ => ?_; subst hA; simp only [real, Bool.and_eq_true, Bool.not_eq_true', Bool.not_eq_false', decide_eq_true_eq, Int.ofNat_eq_natCast, IntKind.wrap_i64] at *; omega)
    | (subst hA; exact fun _ => (by decide : (3 : Int) ≠ 0))
  · rename_i hlt
    have hlt' : i < n := by subst hA; simp only [real, decide_eq_true_eq, Int.ofNat_eq_natCast] at hlt; omega
    refine stop_of hA (st_msLat n i k1 r1) (cov_of ?_ ?_ ?_) ?_
    · cbv
      subst hA
      repeat' first | apply And.intro | exact True.intro | exact congrArg (fun x => DV.v (.int .i64 x)) w1 | rfl
    · cbv
      subst hA
      refine ⟨fun q _ => ?_, trivial⟩
      have e0 : real.add 0 (real.nat (Int.ofNat i)) = i := Nat.zero_add i
      simp only [e0]
      first
        | (show (if q = i then _ else eLat (rm q)) = eLat (r1 q))
        | (show (if q = 0 + i then _ else eLat (rm q)) = eLat (r1 q); rw [Nat.zero_add])
      simp only [hr1]
      by_cases e : q = i
      · subst e; first | (simp; done) | (simp; rfl)
      · simp [e]
    · cbv; try (subst hA; repeat' first | apply And.intro | exact True.intro | rfl | exact .inr trivial | exact .inr (Nat.le_refl _))
    cbv
    repeat' first
      | apply And.intro
      | exact True.intro
      | with_reducible rfl
      | exact same_of hA rfl
      | refine br_of hA (fun _ => ?_) (fun _ => ?_)
      | exact imp_of hA id
      | (refine imp_of hA ?_; subst hA; simp only [real, Bool.true_and]; exact id)
      | (refine ind_of hA ?_; decide +kernel)
      | (refine inb_of hA fun _ => ?_; subst hA; simp only [real, Bool.and_eq_true, Bool.not_eq_true', Bool.not_eq_false', decide_eq_true_eq, Int.ofNat_eq_natCast, IntKind.wrap_i64] at *; omega)
      | (subst hA; exact fun _ => (by decide : (3 : Int) ≠ 0))
    refine stop_of hA (st_msLat n i k2 r2) (cov_of ?_ ?_ ?_) ?_
    · cbv
      subst hA
      repeat' first | apply And.intro | exact True.intro | exact congrArg (fun x => DV.v (.int .i64 x)) w2 | rfl
    · cbv
      subst hA
      refine ⟨fun q _ => ?_, trivial⟩
      have e0 : real.add 0 (real.nat (Int.ofNat i)) = i := Nat.zero_add i
      simp only [e0]
      first
        | (show (if q = i then _ else eLat (r1 q)) = eLat (r2 q))
        | (show (if q = 0 + i then _ else eLat (r1 q)) = eLat (r2 q); rw [Nat.zero_add])
      simp only [hr2, hr1]
      by_cases e : q = i
      · subst e; first | (simp; done) | (simp; rfl)
      · simp [e]
    · cbv; try (subst hA; repeat' first | apply And.intro | exact True.intro | rfl | exact .inr trivial | exact .inr (Nat.le_refl _))
    cbv
    repeat' first
      | apply And.intro
      | exact True.intro
      | with_reducible rfl
      | exact same_of hA rfl
      | refine br_of hA (fun _ => ?_) (fun _ => ?_)
      | exact imp_of hA id
      | (refine imp_of hA ?_; subst hA; simp only [real, Bool.true_and]; exact id)
      | (refine ind_of hA ?_; decide +kernel)
      | (refine inb_of hA fun _ => ?_; subst hA; simp only [real, Bool.and_eq_true, Bool.not_eq_true', Bool.not_eq_false', decide_eq_true_eq, Int.ofNat_eq_natCast, IntKind.wrap_i64] at *; omega)
      | (subst hA; exact fun _ => (by decide : (3 : Int) ≠ 0))
    refine stop_of hA (st_msLat n i k3 r3) (cov_of ?_ ?_ ?_) ?_
    · cbv
      subst hA
      repeat' first | apply And.intro | exact True.intro | exact congrArg (fun x => DV.v (.int .i64 x)) w3 | rfl
    · cbv
      subst hA
      refine ⟨fun q _ => ?_, trivial⟩
      have e0 : real.add 0 (real.nat (Int.ofNat i)) = i := Nat.zero_add i
      simp only [e0]
      first
        | (show (if q = i then _ else eLat (r2 q)) = eLat (r3 q))
        | (show (if q = 0 + i then _ else eLat (r2 q)) = eLat (r3 q); rw [Nat.zero_add])
      simp only [hr3, hr2]
      by_cases e : q = i
      · subst e; first | (simp; done) | (simp; rfl)
      · simp [e]
    · cbv; try (subst hA; repeat' first | apply And.intro | exact True.intro | rfl | exact .inr trivial | exact .inr (Nat.le_refl _))
    cbv
    repeat' first
      | apply And.intro
      | exact True.intro
      | with_reducible rfl
      | exact same_of hA rfl
      | refine br_of hA (fun _ => ?_) (fun _ => ?_)
      | exact imp_of hA id
      | (refine imp_of hA ?_; subst hA; simp only [real, Bool.true_and]; exact id)
      | (refine ind_of hA ?_; decide +kernel)
      | (refine inb_of hA fun _ => ?_; subst hA; simp only [real, Bool.and_eq_true, Bool.not_eq_true', Bool.not_eq_false', decide_eq_true_eq, Int.ofNat_eq_natCast, IntKind.wrap_i64] at *; omega)
      | (subst hA; exact fun _ => (by decide : (3 : Int) ≠ 0))
    refine stop_of hA (st_msLat n i k4 r4) (cov_of ?_ ?_ ?_) ?_
    · cbv
      subst hA
      repeat' first | apply And.intro | exact True.intro | exact congrArg (fun x => DV.v (.int .i64 x)) w4 | rfl
    · cbv
      subst hA
      refine ⟨fun q _ => ?_, trivial⟩
      have e0 : real.add 0 (real.nat (Int.ofNat i)) = i := Nat.zero_add i
      simp only [e0]
      first
        | (show (if q = i then _ else eLat (r3 q)) = eLat (r4 q))
        | (show (if q = 0 + i then _ else eLat (r3 q)) = eLat (r4 q); rw [Nat.zero_add])
      simp only [hr4, hr3]
      by_cases e : q = i
      · subst e; first | (simp; done) | (simp; rfl)
      · simp [e]
    · cbv; try (subst hA; repeat' first | apply And.intro | exact True.intro | rfl | exact .inr trivial | exact .inr (Nat.le_refl _))
    cbv
    repeat' first
      | apply And.intro
      | exact True.intro
      | with_reducible rfl
      | exact same_of hA rfl
      | refine br_of hA (fun _ => ?_) (fun _ => ?_)
      | exact imp_of hA id
      | (refine imp_of hA ?_; subst hA; simp only [real, Bool.true_and]; exact id)
      | (refine ind_of hA ?_; decide +kernel)
      | (refine inb_of hA fun _ => ?_; subst hA; simp only [real, Bool.and_eq_true, Bool.not_eq_true', Bool.not_eq_false', decide_eq_true_eq, Int.ofNat_eq_natCast, IntKind.wrap_i64] at *; omega)
      | (subst hA; exact fun _ => (by decide : (3 : Int) ≠ 0))
    refine stop_of hA (st_msLat n i k5 r5) (cov_of ?_ ?_ ?_) ?_
    · cbv
      subst hA
      repeat' first | apply And.intro | exact True.intro | exact congrArg (fun x => DV.v (.int .i64 x)) w5 | rfl
    · cbv
      subst hA
      refine ⟨fun q _ => ?_, trivial⟩
      have e0 : real.add 0 (real.nat (Int.ofNat i)) = i := Nat.zero_add i
      simp only [e0]
      first
        | (show (if q = i then _ else eLat (r4 q)) = eLat (r5 q))
        | (show (if q = 0 + i then _ else eLat (r4 q)) = eLat (r5 q); rw [Nat.zero_add])
      simp only [hr5, hr4]
      by_cases e : q = i
      · subst e; first | (simp; done) | (simp; rfl)
      · simp [e]
    · cbv; try (subst hA; repeat' first | apply And.intro | exact True.intro | rfl | exact .inr trivial | exact .inr (Nat.le_refl _))
    cbv
    repeat' first
      | apply And.intro
      | exact True.intro
      | with_reducible rfl
      | exact same_of hA rfl
      | refine br_of hA (fun _ => ?_) (fun _ => ?_)
      | exact imp_of hA id
      | (refine imp_of hA ?_; subst hA; simp only [real, Bool.true_and]; exact id)
      | (refine ind_of hA ?_; decide +kernel)
      | (refine inb_of hA fun _ => ?_; subst hA; simp only [real, Bool.and_eq_true, Bool.not_eq_true', Bool.not_eq_false', decide_eq_true_eq, Int.ofNat_eq_natCast, IntKind.wrap_i64] at *; omega)
      | (subst hA; exact fun _ => (by decide : (3 : Int) ≠ 0))
    refine stop_of hA (st_msLat n i k6 r6) (cov_of ?_ ?_ ?_) ?_
    · cbv
      subst hA
      repeat' first | apply And.intro | exact True.intro | exact congrArg (fun x => DV.v (.int .i64 x)) w6 | rfl
    · cbv
      subst hA
      refine ⟨fun q _ => ?_, trivial⟩
      have e0 : real.add 0 (real.nat (Int.ofNat i)) = i := Nat.zero_add i
      simp only [e0]
      first
        | (show (if q = i then _ else eLat (r5 q)) = eLat (r6 q))
        | (show (if q = 0 + i then _ else eLat (r5 q)) = eLat (r6 q); rw [Nat.zero_add])
      simp only [hr6, hr5]
      by_cases e : q = i
      · subst e; first | (simp; done) | (simp; rfl)
      · simp [e]
    · cbv; try (subst hA; repeat' first | apply And.intro | exact True.intro | rfl | exact .inr trivial | exact .inr (Nat.le_refl _))
    cbv
    repeat' first
      | apply And.intro
      | exact True.intro
      | with_reducible rfl
      | exact same_of hA rfl
      | refine br_of hA (fun _ => ?_) (fun _ => ?_)
      | exact imp_of hA id
      | (refine imp_of hA ?_; subst hA; simp only [real, Bool.true_and]; exact id)
      | (refine ind_of hA ?_; decide +kernel)
      | (refine inb_of hA fun _ => ?_; subst hA; simp only [real, Bool.and_eq_true, Bool.not_eq_true', Bool.not_eq_false', decide_eq_true_eq, Int.ofNat_eq_natCast, IntKind.wrap_i64] at *; omega)
      | (subst hA; exact fun _ => (by decide : (3 : Int) ≠ 0))
    have h9 : ((i + 1 : Nat) : Int) = (i : Int) + 1 := rfl
    refine ⟨⟨(i + 1, k7, r7), by simp only; omega, by (show k7 = s + 7 * ((i + 1 : Nat) : Int)); rw [h9, hk7, hkk, Int.mul_add]; exact Int.add_assoc _ _ _, fun j hj => ?_⟩, by simp only; omega, cov_of ?_ ?_ ?_⟩
    · simp only at hj ⊢
      by_cases e : j = i
      · rw [hr7]; simp only [e, if_true]
        rw [hGM, ← hkk]
        simp only [mkLat, hk1, hk2, hk3, hk4, hk5, hk6]
      · rw [hr7]; simp only [e, if_false]; exact hr j (by omega)
    · cbv
      subst hA
      repeat' first | apply And.intro | exact True.intro | exact congrArg (fun x => DV.v (.int .i64 x)) w7 | exact congrArg (fun x => DV.v (.int .i64 x)) (up64 hlt' hn2) | rfl
    · cbv
      subst hA
      refine ⟨fun q _ => ?_, trivial⟩
      have e0 : real.add 0 (real.nat (Int.ofNat i)) = i := Nat.zero_add i
      simp only [e0]
      first
        | (show (if q = i then _ else eLat (r6 q)) = eLat (r7 q))
        | (show (if q = 0 + i then _ else eLat (r6 q)) = eLat (r7 q); rw [Nat.zero_add])
      simp only [hr7, hr6]
      by_cases e : q = i
      · subst e; first | (simp; done) | (simp; rfl)
      · simp [e]
    · cbv; try (subst hA; repeat' first | apply And.intro | exact True.intro | rfl | exact .inr trivial | exact .inr (Nat.le_refl _))
  · rename_i hge
    have hin : i = n := by
      subst hA
      simp only [real, decide_eq_false_iff_not, Int.ofNat_eq_natCast] at hge
      omega
    subst hin
    have hkx : k = x := by rw [hkk, hx]
    subst hkx
    refine stop_of hA ⟨[(1, .c (.d (eI k)))], [(0, 1, .arr 7 i fun q => eLat (GM q))]⟩ (cov_of ?_ ?_ ?_) ?_
    · cbv
    · cbv
      exact ⟨fun q hq => congrArg (fun y => eLat y) (hr q hq), trivial⟩
    · cbv; try (subst hA; repeat' first | apply And.intro | exact True.intro | rfl | exact .inr trivial | exact .inr (Nat.le_refl _))
    · cbv
      repeat' first
        | apply And.intro
        | exact True.intro
        | with_reducible rfl
        | exact same_of hA rfl
        | refine br_of hA (fun _ => ?_) (fun _ => ?_)
        | exact imp_of hA id
        | (refine imp_of hA ?_; subst hA; simp only [real, Bool.true_and]; exact id)
        | (refine ind_of hA ?_; decide +kernel)
def st_hsLat (n : Nat) (rd : Nat → LatT) (i : Nat) (k : Int) : St := ⟨[(5, .c (.d (eI i))), (1, .c (.d (eI k))), (0, .c (.d (.sl 7 n fun i => eLat (rd i))))], []⟩
set_option maxRecDepth 100000 in
set_option maxHeartbeats 2000000 in
theorem helds_Lat (s : Int) (hs : 0 ≤ s ∧ s ≤ 100000000) (n : Nat) (hn : n ≤ 1100000) (x : Int) (hx : x = s + 7 * (n : Int)) (GM : Nat → LatT) (hGM : ∀ i, GM i = mkLat (s + 7 * (i : Int))) : Meets Try.prog 27 [.c (.d (.sl 7 n fun i => eLat (GM i))), .c (.d (eI s))] ⟨.one (.c (.d (eI x))), [none, none]⟩ := by
  have hn2 : n ≤ maxLen := Nat.le_trans hn (by decide)
  refine meets_of (H := []) (EX := EXA) ttok mixed Try.func27 rfl (by kernel_rfl) (by decide) ?_
  generalize hA : real = A
  generalize hM : MeetsB Try.prog = M
  cbv
  repeat' first
    | apply And.intro
    | exact True.intro
    | with_reducible rfl
    | exact same_of hA rfl
    | refine br_of hA (fun _ => ?_) (fun _ => ?_)
    | exact imp_of hA id
    | (refine imp_of hA ?_; subst hA; simp only [real, Bool.true_and]; exact id)
    | (refine ind_of hA ?_; decide +kernel)
  refine loop_of hA (α := { q : Nat × Int // q.1 ≤ n ∧ q.2 = s + 7 * (q.1 : Int) }) (fun y => st_hsLat n GM y.1.1 y.1.2) (fun y => n - y.1.1) ⟨(0, s), Nat.zero_le _, by simp⟩ ?_ ?_
  · refine cov_of ?_ ?_ ?_
    · cbv; try (subst hA; repeat' first | apply And.intro | exact True.intro | rfl)
    · cbv; try (subst hA; repeat' first | apply And.intro | exact True.intro | rfl)
    · cbv
  rintro ⟨⟨i, k⟩, hi, hkk⟩
  have hi : i ≤ n := hi
  have hkk : k = s + 7 * (i : Int) := hkk
  have hkb : 0 ≤ k ∧ k ≤ 150000000 := by omega
  have e := hGM i
  rw [← hkk] at e
  have w1 : IntKind.i64.wrap (k + 1) = k + 1 := wr1 k hkb
  have w2 : IntKind.i64.wrap (IntKind.i64.wrap (k + 1) + 1) = k + 2 := by rw [w1]; exact wrn k 1 2 hkb (by decide) (by decide)
  have w3 : IntKind.i64.wrap (IntKind.i64.wrap (IntKind.i64.wrap (k + 1) + 1) + 1) = k + 3 := by rw [w2]; exact wrn k 2 3 hkb (by decide) (by decide)
  have w4 : IntKind.i64.wrap (IntKind.i64.wrap (IntKind.i64.wrap (IntKind.i64.wrap (k + 1) + 1) + 1) + 1) = k + 4 := by rw [w3]; exact wrn k 3 4 hkb (by decide) (by decide)
  have w5 : IntKind.i64.wrap (IntKind.i64.wrap (IntKind.i64.wrap (IntKind.i64.wrap (IntKind.i64.wrap (k + 1) + 1) + 1) + 1) + 1) = k + 5 := by rw [w4]; exact wrn k 4 5 hkb (by decide) (by decide)
  have w6 : IntKind.i64.wrap (IntKind.i64.wrap (IntKind.i64.wrap (IntKind.i64.wrap (IntKind.i64.wrap (IntKind.i64.wrap (k + 1) + 1) + 1) + 1) + 1) + 1) = k + 6 := by rw [w5]; exact wrn k 5 6 hkb (by decide) (by decide)
  have w7 : IntKind.i64.wrap (IntKind.i64.wrap (IntKind.i64.wrap (IntKind.i64.wrap (IntKind.i64.wrap (IntKind.i64.wrap (IntKind.i64.wrap (k + 1) + 1) + 1) + 1) + 1) + 1) + 1) = k + 7 := by rw [w6]; exact wrn k 6 7 hkb (by decide) (by decide)
  cbv
  repeat' first
    | apply And.intro
    | exact True.intro
    | with_reducible rfl
    | exact same_of hA rfl
    | refine br_of hA (fun _ => ?_) (fun _ => ?_)
    | exact imp_of hA id
    | (refine imp_of hA ?_; subst hA; simp only [real, Bool.true_and]; exact id)
    | (refine ind_of hA ?_; decide +kernel)
    | (refine inb_of hA fun _ => ?_; subst hA; simp only [real, Bool.and_eq_true, Bool.not_eq_true', Bool.not_eq_false', decide_eq_true_eq, Int.ofNat_eq_natCast, IntKind.wrap_i64] at *; omega)
    | (subst hA; exact fun _ => (by decide : (3 : Int) ≠ 0))
  · exfalso
    rename_i hlt h0
    have h : ((GM i).itm.kind != k) = true := by subst hA; exact h0
    rw [e] at h
    simp [mkLat] at h
  · exfalso
    rename_i hlt h0 h1
    have h : ((GM i).itm.t != IntKind.i64.wrap (k + 1)) = true := by subst hA; exact h1
    rw [e, w1] at h
    simp [mkLat] at h
  · exfalso
    rename_i hlt h0 h1 h2
    have h : ((GM i).itm.key != IntKind.i64.wrap (IntKind.i64.wrap (k + 1) + 1)) = true := by subst hA; exact h2
    rw [e, w2] at h
    simp [mkLat] at h
  · exfalso
    rename_i hlt h0 h1 h2 h3
    have h : ((GM i).itm.v != IntKind.i64.wrap (IntKind.i64.wrap (IntKind.i64.wrap (k + 1) + 1) + 1)) = true := by subst hA; exact h3
    rw [e, w3] at h
    simp [mkLat] at h
  · exfalso
    rename_i hlt h0 h1 h2 h3 h4
    have h : ((GM i).itm.n != IntKind.i64.wrap (IntKind.i64.wrap (IntKind.i64.wrap (IntKind.i64.wrap (k + 1) + 1) + 1) + 1)) = true := by subst hA; exact h4
    rw [e, w4] at h
    simp [mkLat] at h
  · exfalso
    rename_i hlt h0 h1 h2 h3 h4 h5
    have h : ((GM i).win.s != IntKind.i64.wrap (IntKind.i64.wrap (IntKind.i64.wrap (IntKind.i64.wrap (IntKind.i64.wrap (k + 1) + 1) + 1) + 1) + 1)) = true := by subst hA; exact h5
    rw [e, w5] at h
    simp [mkLat] at h
  · exfalso
    rename_i hlt h0 h1 h2 h3 h4 h5 h6
    have h : ((GM i).win.e != IntKind.i64.wrap (IntKind.i64.wrap (IntKind.i64.wrap (IntKind.i64.wrap (IntKind.i64.wrap (IntKind.i64.wrap (k + 1) + 1) + 1) + 1) + 1) + 1)) = true := by subst hA; exact h6
    rw [e, w6] at h
    simp [mkLat] at h
  · rename_i hlt h0 h1 h2 h3 h4 h5 h6
    have hlt' : i < n := by subst hA; simp only [real, decide_eq_true_eq, Int.ofNat_eq_natCast] at hlt; omega
    have h9 : ((i + 1 : Nat) : Int) = (i : Int) + 1 := rfl
    obtain ⟨kk, hkk2⟩ : ∃ z : Int, z = k + 7 := ⟨_, rfl⟩
    rw [← hkk2] at w7
    refine ⟨⟨(i + 1, kk), by simp only; omega, by (show kk = s + 7 * ((i + 1 : Nat) : Int)); rw [h9, hkk2, hkk, Int.mul_add]; exact Int.add_assoc _ _ _⟩, by simp only; omega, cov_of ?_ ?_ ?_⟩
    · cbv
      subst hA
      repeat' first | apply And.intro | exact True.intro | exact congrArg (fun x => DV.v (.int .i64 x)) (up64 hlt' hn2) | exact congrArg (fun x => DV.v (.int .i64 x)) w7 | rfl
    · cbv
    · cbv
  · rename_i hge
    have hin : i = n := by
      subst hA
      simp only [real, decide_eq_false_iff_not, Int.ofNat_eq_natCast] at hge
      omega
    subst hin
    exact congrArg (fun x => XA.one (.c (.d (eI x)))) (by rw [hkk, hx])
end Go.Rk
/- Marks on whole operators. -/
namespace Go.Rk
set_option linter.unusedSimpArgs false
set_option linter.unusedVariables false
open Go.Proofs
set_option maxRecDepth 100000
set_option maxHeartbeats 1000000
theorem to_OpStO (x : OpStT) (hb : bdOpSt x) : Meets Try.prog 12 [xd (eOpSt x)] ⟨.one (.agg [.d (eI x.mark), .own 13 x.rows.n fun i => eRow (x.rows.g i)]), [none]⟩ := by
  refine meets_of (H := []) (EX := EXA) ttok mixed Try.func12 rfl (by kernel_rfl) (by decide) ?_
  generalize hA : real = A
  generalize hM : MeetsB Try.prog = M
  cbv
  repeat' first
    | apply And.intro
    | exact True.intro
    | with_reducible rfl
    | exact same_of hA rfl
    | refine br_of hA (fun _ => ?_) (fun _ => ?_)
    | exact imp_of hA id
    | (refine imp_of hA ?_; subst hA; simp only [real, Bool.true_and]; exact id)
    | (refine ind_of hA ?_; decide +kernel)
    | (refine call_of hA hM _ (to_RowS x.rows.n hb x.rows.g) ?_; cbv)
def EXKx : FuncId → List Nat × Bool := fun f => bif nbeq f 1 then ([9001], false) else bif nbeq f 64 then ([0], false) else ([], false)
theorem k_markx (mk : Int) (s : Int) (hs : 0 ≤ s ∧ s ≤ 100000000) (n : Nat) (hn : n ≤ 1100000) (rd : Nat → RowT) (x : Int) (hx : x = s + 13 * (n : Int)) (GM : Nat → RowT) (hGM : ∀ i, GM i = mkRow (s + 13 * (i : Int))) : MeetsO Try.prog 18 [.agg [.d (eI mk), .own 2433 0 n 1], .c (.d (eI s))]
    [(2433, 1, .arr 13 n fun i => eRow (rd i))] (.c (.d (eI x))) [(2433, 1, .arr 13 n fun i => eRow (GM i)), (9129, 1, .dead)] := by
  refine inl_of (EX := EXKx) ttok mixed Try.func18 rfl (by kernel_rfl) (by decide) (by kernel_rfl) rfl rfl ?_
  have hm := marks_Row s hs n hn rd x hx GM hGM
  generalize hA : real = A
  generalize hM : MeetsB Try.prog = M
  cbv
  repeat' first
    | apply And.intro
    | exact True.intro
    | with_reducible rfl
    | exact same_of hA rfl
    | refine br_of hA (fun _ => ?_) (fun _ => ?_)
    | exact imp_of hA id
    | (refine imp_of hA ?_; subst hA; simp only [real, Bool.true_and]; exact id)
    | (refine ind_of hA ?_; decide +kernel)
    | (refine call_of hA hM _ hm ?_; cbv)
    | (intro _ _; rfl)
def EXKg : FuncId → List Nat × Bool := fun f => bif nbeq f 1 then ([9201], false) else bif nbeq f 64 then ([0], false) else ([], false)
theorem k_markg (mk : Int) (s : Int) (hs : 0 ≤ s ∧ s ≤ 100000000) (n : Nat) (hn : n ≤ 1100000) (rd : Nat → RowT) (x : Int) (hx : x = s + 13 * (n : Int)) (GM : Nat → RowT) (hGM : ∀ i, GM i = mkRow (s + 13 * (i : Int))) : MeetsO Try.prog 18 [.agg [.d (eI mk), .own 2881 0 n 1], .c (.d (eI s))]
    [(2881, 1, .arr 13 n fun i => eRow (rd i))] (.c (.d (eI x))) [(2881, 1, .arr 13 n fun i => eRow (GM i)), (9329, 1, .dead)] := by
  refine inl_of (EX := EXKg) ttok mixed Try.func18 rfl (by kernel_rfl) (by decide) (by kernel_rfl) rfl rfl ?_
  have hm := marks_Row s hs n hn rd x hx GM hGM
  generalize hA : real = A
  generalize hM : MeetsB Try.prog = M
  cbv
  repeat' first
    | apply And.intro
    | exact True.intro
    | with_reducible rfl
    | exact same_of hA rfl
    | refine br_of hA (fun _ => ?_) (fun _ => ?_)
    | exact imp_of hA id
    | (refine imp_of hA ?_; subst hA; simp only [real, Bool.true_and]; exact id)
    | (refine ind_of hA ?_; decide +kernel)
    | (refine call_of hA hM _ hm ?_; cbv)
    | (intro _ _; rfl)
def EXH0 : FuncId → List Nat × Bool := fun f => bif nbeq f 1 then ([9401], false) else ([], false)
theorem k_held0 (mk : Int) (s : Int) (hs : 0 ≤ s ∧ s ≤ 100000000) (n : Nat) (hn : n ≤ 1100000) (x : Int) (hx : x = s + 13 * (n : Int)) (GM : Nat → RowT) (hGM : ∀ i, GM i = mkRow (s + 13 * (i : Int))) : MeetsO Try.prog 20 [.agg [.d (eI mk), .own 2881 0 n 1], .c (.d (eI s))]
    [(2881, 1, .arr 13 n fun i => eRow (GM i))] (.c (.d (eI x))) [(2881, 1, .arr 13 n fun i => eRow (GM i)), (9529, 1, .dead)] := by
  refine inl_of (EX := EXH0) ttok mixed Try.func20 rfl (by kernel_rfl) (by decide) (by kernel_rfl) rfl rfl ?_
  have hm := helds_Row s hs n hn x hx GM hGM
  have hx0 : ∀ {A : Ar}, real = A → A.cmp .lss x 0 = true → False := fun hA h => by subst hA; exact absurd (of_decide_eq_true h) (by omega)
  generalize hA : real = A
  generalize hM : MeetsB Try.prog = M
  cbv
  repeat' first
    | exact (hx0 hA (by assumption)).elim
    | apply And.intro
    | exact True.intro
    | with_reducible rfl
    | exact same_of hA rfl
    | refine br_of hA (fun _ => ?_) (fun _ => ?_)
    | exact imp_of hA id
    | (refine imp_of hA ?_; subst hA; simp only [real, Bool.true_and]; exact id)
    | (refine ind_of hA ?_; decide +kernel)
    | (refine call_of2 hA hM _ hm (by (subst hA; first | rfl | (simp only [sub0r]; try rfl))) ?_; cbv)
    | (intro _ _; rfl)
def EXH1 : FuncId → List Nat × Bool := fun f => bif nbeq f 1 then ([9601], false) else ([], false)
theorem k_held1 (mk : Int) (s : Int) (hs : 0 ≤ s ∧ s ≤ 100000000) (n : Nat) (hn : n ≤ 1100000) (x : Int) (hx : x = s + 13 * (n : Int)) (GM : Nat → RowT) (hGM : ∀ i, GM i = mkRow (s + 13 * (i : Int))) : MeetsO Try.prog 20 [.agg [.d (eI mk), .own 2881 0 n 1], .c (.d (eI s))]
    [(2881, 1, .arr 13 n fun i => eRow (GM i))] (.c (.d (eI x))) [(2881, 1, .arr 13 n fun i => eRow (GM i)), (9729, 1, .dead)] := by
  refine inl_of (EX := EXH1) ttok mixed Try.func20 rfl (by kernel_rfl) (by decide) (by kernel_rfl) rfl rfl ?_
  have hm := helds_Row s hs n hn x hx GM hGM
  have hx0 : ∀ {A : Ar}, real = A → A.cmp .lss x 0 = true → False := fun hA h => by subst hA; exact absurd (of_decide_eq_true h) (by omega)
  generalize hA : real = A
  generalize hM : MeetsB Try.prog = M
  cbv
  repeat' first
    | exact (hx0 hA (by assumption)).elim
    | apply And.intro
    | exact True.intro
    | with_reducible rfl
    | exact same_of hA rfl
    | refine br_of hA (fun _ => ?_) (fun _ => ?_)
    | exact imp_of hA id
    | (refine imp_of hA ?_; subst hA; simp only [real, Bool.true_and]; exact id)
    | (refine ind_of hA ?_; decide +kernel)
    | (refine call_of2 hA hM _ hm (by (subst hA; first | rfl | (simp only [sub0r]; try rfl))) ?_; cbv)
    | (intro _ _; rfl)
end Go.Rk
/- How much a mark leaves and tells. -/
namespace Go.Rk
set_option linter.unusedSimpArgs false
set_option linter.unusedVariables false
theorem opMarkL_len (j : JobT) (s : OpStT) (m : Int) : (opMarkL j s m).2.1.length ≤ s.rows.n ∧ (opMarkL j s m).2.2.length ≤ s.rows.n := by
  unfold opMarkL
  split
  · exact ⟨Nat.zero_le _, Nat.zero_le _⟩
  · split
    · exact ⟨by simp, Nat.zero_le _⟩
    · exact ⟨keepN_len _ _ _, tellN_len _ _ _ _⟩
end Go.Rk
/- A row that is put, and found. -/
namespace Go.Rk
set_option linter.unusedSimpArgs false
set_option linter.unusedVariables false
theorem tFind_ins_same {r : TabT} : ∀ {l : List TabT}, (∀ q, q ∈ l → ¬ IsRow r.key r.win q) → tFind r.key r.win (tIns r l) = some r.agg
  | [], _ => by
    show (if IsRow r.key r.win r then some r.agg else _) = _
    rw [if_pos ⟨rfl, rfl, rfl⟩]
  | q :: l, h => by
    show tFind r.key r.win (if Ahead r q then r :: q :: l else q :: tIns r l) = _
    split
    · show (if IsRow r.key r.win r then some r.agg else _) = _
      rw [if_pos ⟨rfl, rfl, rfl⟩]
    · show (if IsRow r.key r.win q then some q.agg else tFind r.key r.win (tIns r l)) = _
      rw [if_neg (h q (by simp)), tFind_ins_same fun x hx => h x (List.mem_cons_of_mem _ hx)]
theorem tFind_put_same (r : TabT) (l : List TabT) : tFind r.key r.win (tPut r l) = some r.agg := tFind_ins_same fun q hq => (tOut_in.1 hq).2
theorem tFind_ins_other {r : TabT} {k : Int} {w : WinT} (hn : ¬ IsRow k w r) : ∀ (l : List TabT), tFind k w (tIns r l) = tFind k w l
  | [] => by
    show (if IsRow k w r then some r.agg else none) = none
    rw [if_neg hn]
  | q :: l => by
    show tFind k w (if Ahead r q then r :: q :: l else q :: tIns r l) = (if IsRow k w q then some q.agg else tFind k w l)
    split
    · show (if IsRow k w r then some r.agg else (if IsRow k w q then some q.agg else tFind k w l)) = _
      rw [if_neg hn]
    · show (if IsRow k w q then some q.agg else tFind k w (tIns r l)) = _
      rw [tFind_ins_other hn l]
theorem tFind_out_other {k k2 : Int} {w w2 : WinT} (hn : ∀ q, IsRow k w q → ¬ IsRow k2 w2 q) : ∀ (l : List TabT), tFind k w (tOut k2 w2 l) = tFind k w l
  | [] => rfl
  | q :: l => by
    show tFind k w (if IsRow k2 w2 q then tOut k2 w2 l else q :: tOut k2 w2 l) = (if IsRow k w q then some q.agg else tFind k w l)
    split
    · rename_i h
      rw [tFind_out_other hn l, if_neg (fun h' => hn q h' h)]
    · show (if IsRow k w q then some q.agg else tFind k w (tOut k2 w2 l)) = _
      rw [tFind_out_other hn l]
theorem tFind_put_other {r : TabT} {k : Int} {w : WinT} (hn : ¬ IsRow k w r) (l : List TabT) : tFind k w (tPut r l) = tFind k w l := by
  unfold tPut
  rw [tFind_ins_other hn, tFind_out_other fun q h h' => hn (by unfold IsRow at *; omega)]
theorem tOut_ins {r : TabT} : ∀ (l : List TabT), tOut r.key r.win (tIns r l) = tOut r.key r.win l
  | [] => by
    show (if IsRow r.key r.win r then [] else _) = _
    rw [if_pos ⟨rfl, rfl, rfl⟩]; rfl
  | q :: l => by
    show tOut r.key r.win (if Ahead r q then r :: q :: l else q :: tIns r l) = _
    split
    · show (if IsRow r.key r.win r then tOut r.key r.win (q :: l) else _) = _
      rw [if_pos ⟨rfl, rfl, rfl⟩]
    · show (if IsRow r.key r.win q then tOut r.key r.win (tIns r l) else q :: tOut r.key r.win (tIns r l)) = (if IsRow r.key r.win q then tOut r.key r.win l else q :: tOut r.key r.win l)
      rw [tOut_ins l]
theorem tOut_twice (k : Int) (w : WinT) (l : List TabT) : tOut k w (tOut k w l) = tOut k w l := tOut_none fun q hq => (tOut_in.1 hq).2
theorem tOut_put (r : TabT) (l : List TabT) : tOut r.key r.win (tPut r l) = tOut r.key r.win l := by unfold tPut; rw [tOut_ins, tOut_twice]
theorem tPut_twice (r : TabT) (l : List TabT) : tPut r (tPut r l) = tPut r l := by
  show tIns r (tOut r.key r.win (tPut r l)) = _
  rw [tOut_put]; rfl
theorem tFind_out_none (k : Int) (w : WinT) (l : List TabT) : tFind k w (tOut k w l) = none := by
  cases h : tFind k w (tOut k w l) with
  | none => rfl
  | some a =>
    obtain ⟨r, h1, h2, _⟩ := tFind_some h
    exact absurd h2 (tOut_in.1 h1).2
theorem tFind_has {l : List TabT} {r : TabT} (h : r ∈ l) : ∃ a, tFind r.key r.win l = some a := by
  cases hf : tFind r.key r.win l with
  | some a => exact ⟨a, rfl⟩
  | none => exact absurd ⟨rfl, rfl, rfl⟩ (tFind_no hf r h)
theorem lst_in' {T : List TabT} {n : Nat} {G : Nat → TabT} (h : Lst zTab T n G) {i : Nat} (hi : i < n) : G i ∈ T := by
  have hT := h.1
  rw [h.2 i hi, List.getD_eq_getElem?_getD, List.getElem?_eq_getElem (by omega)]
  exact List.getElem_mem _
end Go.Rk
