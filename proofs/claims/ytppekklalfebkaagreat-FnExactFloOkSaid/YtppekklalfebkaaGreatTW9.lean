/- Channels: how many are held, and the least mark. -/
import Derived.Test.YtppekklalfebkaaGreatTW8
import Derived.Test.YtppekklalfebkaaGreatDFm
import Derived.Test.YtppekklalfebkaaGreatRk28
namespace Go.Rk
set_option linter.unusedSimpArgs false
set_option linter.unusedVariables false
open Go.Proofs
def st_sTskHeld (n : Nat) (g : Nat → TskInT) (hn : n ≤ maxLen) (op : OpStT) (wall : Int) (pend : TxnT) (i c : Nat) : St := ⟨[(4, .c (.d (eI i))), (3, .c (.d (eI c))), (1, .c (.bp 64 1 0))], [(64, 1, .box ((eTsk ⟨⟨n, g, hn⟩, op, wall, pend⟩).map .d))]⟩
set_option maxRecDepth 100000 in
theorem c_sTskHeld (t : TskT) : ∃ x : Int, x = ((cntB (fun i => (t.ins.g i).held) t.ins.n : Nat) : Int) ∧ Meets Tryz.prog 116 [xd (eTsk t)] ⟨.one (.c (.d (eI x))), [none]⟩ := by
  obtain ⟨x, hx⟩ : ∃ x : Int, x = ((cntB (fun i => (t.ins.g i).held) t.ins.n : Nat) : Int) := ⟨_, rfl⟩
  refine ⟨x, hx, ?_⟩
  obtain ⟨⟨n, g, hn⟩, op, wall, pend⟩ := t
  have hx : x = ((cntB (fun i => (g i).held) n : Nat) : Int) := hx
  refine meets_of (H := []) (EX := EXA) ttok mixed Tryz.func116 rfl (by kernel_rfl) (by decide) ?_
  generalize hA : real = A
  generalize hM : Meets Tryz.prog = M
  cbv
  repeat' first
    | apply And.intro
    | exact True.intro
    | with_reducible rfl
    | exact same_of hA rfl
    | refine br_of hA (fun _ => ?_) (fun _ => ?_)
    | exact imp_of hA id
    | (refine imp_of hA ?_; subst hA; simp only [real, Bool.true_and]; exact id)
    | (refine ind_of hA ?_; decide +kernel)
  refine loop_of hA (α := { q : Nat × Nat // q.1 ≤ n ∧ q.2 = cntB (fun i => (g i).held) q.1 }) (fun y => st_sTskHeld n g hn op wall pend y.1.1 y.1.2) (fun y => n - y.1.1) ⟨(0, 0), Nat.zero_le _, rfl⟩ ?_ ?_
  · refine cov_of ?_ ?_ ?_
    · cbv; try (subst hA; repeat' first | apply And.intro | exact True.intro | rfl)
    · cbv; try (subst hA; repeat' first | apply And.intro | exact True.intro | rfl)
    · cbv
  rintro ⟨⟨i, c⟩, hi, hc⟩
  have hc : c = cntB (fun i => (g i).held) i := hc
  have hi : i ≤ n := hi
  have hcl : c ≤ i := by rw [hc]; exact cntB_le _ _
  cbv
  repeat' first
    | apply And.intro
    | exact True.intro
    | with_reducible rfl
    | exact same_of hA rfl
    | refine br_of hA (fun _ => ?_) (fun _ => ?_)
    | exact imp_of hA id
    | (refine imp_of hA ?_; subst hA; simp only [real, Bool.true_and]; exact id)
    | (refine ind_of hA ?_; decide +kernel)
    | (refine inb_of hA fun _ => ?_; subst hA; simp only [real, Bool.and_eq_true, Bool.not_eq_true', Bool.not_eq_false', decide_eq_true_eq, Int.ofNat_eq_natCast, IntKind.wrap_i64] at *; omega)
  · rename_i hlt hh
    have hlt' : i < n := by subst hA; simp only [real, decide_eq_true_eq, Int.ofNat_eq_natCast] at hlt; omega
    have hh : (g i).held = true := by subst hA; exact hh
    refine ⟨⟨(i + 1, c + 1), by simp only; omega, by simp only; unfold cntB; rw [if_pos hh, ← hc]⟩, by simp only; omega, cov_of ?_ ?_ ?_⟩
    · cbv
      subst hA
      repeat' first | apply And.intro | exact True.intro | exact congrArg (fun x => DV.v (.int .i64 x)) (up64 hlt' hn) | exact congrArg (fun x => DV.v (.int .i64 x)) (up64 (show c < n by omega) hn) | rfl | (intro k hk; exact push_at rfl _ _ _ _ k hk)
    · cbv; try (subst hA; repeat' first | apply And.intro | exact True.intro | rfl)
    · cbv
  · rename_i hlt hh
    have hlt' : i < n := by subst hA; simp only [real, decide_eq_true_eq, Int.ofNat_eq_natCast] at hlt; omega
    have hh : (g i).held = false := by subst hA; exact hh
    refine ⟨⟨(i + 1, c), by simp only; omega, by simp only; unfold cntB; rw [if_neg (by rw [hh]; simp), ← hc]; rfl⟩, by simp only; omega, cov_of ?_ ?_ ?_⟩
    · cbv
      subst hA
      repeat' first | apply And.intro | exact True.intro | exact congrArg (fun x => DV.v (.int .i64 x)) (up64 hlt' hn) | exact congrArg (fun x => DV.v (.int .i64 x)) (up64 (show c < n by omega) hn) | rfl | (intro k hk; exact push_at rfl _ _ _ _ k hk)
    · cbv; try (subst hA; repeat' first | apply And.intro | exact True.intro | rfl)
    · cbv
  · rename_i hge
    have : i = n := by
      subst hA
      simp only [real, decide_eq_false_iff_not, Int.ofNat_eq_natCast] at hge
      omega
    subst this
    exact congrArg (fun x => XA.one (.c (.d (eI x)))) (by rw [hx, ← hc]; rfl)
def st_TskHeld (n : Nat) (g : Nat → TskInT) (hn : n ≤ maxLen) (op : OpStT) (wall : Int) (pend : TxnT) (i c : Nat) : St := ⟨[(9, .c (.d (eI i))), (8, .c (.d (eI n))), (7, .c (.d (.sl 3 n fun i => eTskIn (g i)))), (3, .c (.d (eI c)))], []⟩
set_option maxRecDepth 100000 in
theorem c_TskHeld (t : TskT) : ∃ x : Int, x = ((cntB (fun i => (t.ins.g i).held) t.ins.n : Nat) : Int) ∧ Meets Tryz.prog 129 [xd (eTsk t)] ⟨.one (.c (.d (eI x))), [none]⟩ := by
  obtain ⟨x, hx⟩ : ∃ x : Int, x = ((cntB (fun i => (t.ins.g i).held) t.ins.n : Nat) : Int) := ⟨_, rfl⟩
  refine ⟨x, hx, ?_⟩
  obtain ⟨⟨n, g, hn⟩, op, wall, pend⟩ := t
  have hx : x = ((cntB (fun i => (g i).held) n : Nat) : Int) := hx
  refine meets_of (H := []) (EX := EXA) ttok mixed Tryz.func129 rfl (by kernel_rfl) (by decide) ?_
  generalize hA : real = A
  generalize hM : Meets Tryz.prog = M
  cbv
  repeat' first
    | apply And.intro
    | exact True.intro
    | with_reducible rfl
    | exact same_of hA rfl
    | refine br_of hA (fun _ => ?_) (fun _ => ?_)
    | exact imp_of hA id
    | (refine imp_of hA ?_; subst hA; simp only [real, Bool.true_and]; exact id)
    | (refine ind_of hA ?_; decide +kernel)
  refine loop_of hA (α := { q : Nat × Nat // q.1 ≤ n ∧ q.2 = cntB (fun i => (g i).held) q.1 }) (fun y => st_TskHeld n g hn op wall pend y.1.1 y.1.2) (fun y => n - y.1.1) ⟨(0, 0), Nat.zero_le _, rfl⟩ ?_ ?_
  · refine cov_of ?_ ?_ ?_
    · cbv; try (subst hA; repeat' first | apply And.intro | exact True.intro | rfl)
    · cbv; try (subst hA; repeat' first | apply And.intro | exact True.intro | rfl)
    · cbv
  rintro ⟨⟨i, c⟩, hi, hc⟩
  have hc : c = cntB (fun i => (g i).held) i := hc
  have hi : i ≤ n := hi
  have hcl : c ≤ i := by rw [hc]; exact cntB_le _ _
  cbv
  repeat' first
    | apply And.intro
    | exact True.intro
    | with_reducible rfl
    | exact same_of hA rfl
    | refine br_of hA (fun _ => ?_) (fun _ => ?_)
    | exact imp_of hA id
    | (refine imp_of hA ?_; subst hA; simp only [real, Bool.true_and]; exact id)
    | (refine ind_of hA ?_; decide +kernel)
    | (refine inb_of hA fun _ => ?_; subst hA; simp only [real, Bool.and_eq_true, Bool.not_eq_true', Bool.not_eq_false', decide_eq_true_eq, Int.ofNat_eq_natCast, IntKind.wrap_i64] at *; omega)
  · rename_i hlt hh
    have hlt' : i < n := by subst hA; simp only [real, decide_eq_true_eq, Int.ofNat_eq_natCast] at hlt; omega
    have hh : (g i).held = true := by subst hA; exact hh
    refine ⟨⟨(i + 1, c + 1), by simp only; omega, by simp only; unfold cntB; rw [if_pos hh, ← hc]⟩, by simp only; omega, cov_of ?_ ?_ ?_⟩
    · cbv
      subst hA
      repeat' first | apply And.intro | exact True.intro | exact congrArg (fun x => DV.v (.int .i64 x)) (up64 hlt' hn) | exact congrArg (fun x => DV.v (.int .i64 x)) (up64 (show c < n by omega) hn) | rfl | (intro k hk; exact push_at rfl _ _ _ _ k hk)
    · cbv; try (subst hA; repeat' first | apply And.intro | exact True.intro | rfl)
    · cbv
  · rename_i hlt hh
    have hlt' : i < n := by subst hA; simp only [real, decide_eq_true_eq, Int.ofNat_eq_natCast] at hlt; omega
    have hh : (g i).held = false := by subst hA; exact hh
    refine ⟨⟨(i + 1, c), by simp only; omega, by simp only; unfold cntB; rw [if_neg (by rw [hh]; simp), ← hc]; rfl⟩, by simp only; omega, cov_of ?_ ?_ ?_⟩
    · cbv
      subst hA
      repeat' first | apply And.intro | exact True.intro | exact congrArg (fun x => DV.v (.int .i64 x)) (up64 hlt' hn) | exact congrArg (fun x => DV.v (.int .i64 x)) (up64 (show c < n by omega) hn) | rfl | (intro k hk; exact push_at rfl _ _ _ _ k hk)
    · cbv; try (subst hA; repeat' first | apply And.intro | exact True.intro | rfl)
    · cbv
  · rename_i hge
    have : i = n := by
      subst hA
      simp only [real, decide_eq_false_iff_not, Int.ofNat_eq_natCast] at hge
      omega
    subst this
    exact congrArg (fun x => XA.one (.c (.d (eI x)))) (by rw [hx, ← hc]; rfl)
def st_sLow (n : Nat) (g : Nat → TskInT) (hn : n ≤ maxLen) (op : OpStT) (wall : Int) (pend : TxnT) (i : Nat) (v : Int) : St := ⟨[(4, .c (.d (eI i))), (3, .c (.d (eI v))), (1, .c (.bp 64 1 0))], [(64, 1, .box ((eTsk ⟨⟨n, g, hn⟩, op, wall, pend⟩).map .d))]⟩
set_option maxRecDepth 100000 in
theorem c_sTskLow (t : TskT) (x : Int) (hx : LowP 1000 t.ins.n (fun i => (t.ins.g i).mark) x) : Meets Tryz.prog 117 [xd (eTsk t)] ⟨.one (.c (.d (eI x))), [none]⟩ := by
  obtain ⟨⟨n, g, hn⟩, op, wall, pend⟩ := t
  have hx : LowP 1000 n (fun i => (g i).mark) x := hx
  refine meets_of (H := []) (EX := EXA) ttok mixed Tryz.func117 rfl (by kernel_rfl) (by decide) ?_
  generalize hA : real = A
  generalize hM : Meets Tryz.prog = M
  cbv
  repeat' first
    | apply And.intro
    | exact True.intro
    | with_reducible rfl
    | exact same_of hA rfl
    | refine br_of hA (fun _ => ?_) (fun _ => ?_)
    | exact imp_of hA id
    | (refine imp_of hA ?_; subst hA; simp only [real, Bool.true_and]; exact id)
    | (refine ind_of hA ?_; decide +kernel)
  refine loop_of hA (α := { q : Nat × Int // q.1 ≤ n ∧ LowP 1000 q.1 (fun i => (g i).mark) q.2 }) (fun y => st_sLow n g hn op wall pend y.1.1 y.1.2) (fun y => n - y.1.1) ⟨(0, 1000), Nat.zero_le _, Int.le_refl _, fun i h => absurd h (Nat.not_lt_zero i), .inl rfl⟩ ?_ ?_
  · refine cov_of ?_ ?_ ?_
    · cbv; try (subst hA; repeat' first | apply And.intro | exact True.intro | rfl)
    · cbv; try (subst hA; repeat' first | apply And.intro | exact True.intro | rfl)
    · cbv
  rintro ⟨⟨i, v⟩, hi, hc⟩
  have hc : LowP 1000 i (fun i => (g i).mark) v := hc
  have hi : i ≤ n := hi
  have hs := lowP_step hc
  cbv
  repeat' first
    | apply And.intro
    | exact True.intro
    | with_reducible rfl
    | exact same_of hA rfl
    | refine br_of hA (fun _ => ?_) (fun _ => ?_)
    | exact imp_of hA id
    | (refine imp_of hA ?_; subst hA; simp only [real, Bool.true_and]; exact id)
    | (refine ind_of hA ?_; decide +kernel)
    | (refine inb_of hA fun _ => ?_; subst hA; simp only [real, Bool.and_eq_true, Bool.not_eq_true', Bool.not_eq_false', decide_eq_true_eq, Int.ofNat_eq_natCast, IntKind.wrap_i64] at *; omega)
  · rename_i hlt hh
    have hlt' : i < n := by subst hA; simp only [real, decide_eq_true_eq, Int.ofNat_eq_natCast] at hlt; omega
    have hh :  (g i).mark < v := by subst hA; exact of_decide_eq_true hh
    rw [if_pos hh] at hs
    refine ⟨⟨(i + 1, (g i).mark), by simp only; omega, hs⟩, by simp only; omega, cov_of ?_ ?_ ?_⟩
    · cbv
      subst hA
      repeat' first | apply And.intro | exact True.intro | exact congrArg (fun x => DV.v (.int .i64 x)) (up64 hlt' hn) | rfl | (intro k hk; exact push_at rfl _ _ _ _ k hk)
    · cbv; try (subst hA; repeat' first | apply And.intro | exact True.intro | rfl)
    · cbv
  · rename_i hlt hh
    have hlt' : i < n := by subst hA; simp only [real, decide_eq_true_eq, Int.ofNat_eq_natCast] at hlt; omega
    have hh : ¬ (g i).mark < v := by subst hA; exact of_decide_eq_false hh
    rw [if_neg hh] at hs
    refine ⟨⟨(i + 1, v), by simp only; omega, hs⟩, by simp only; omega, cov_of ?_ ?_ ?_⟩
    · cbv
      subst hA
      repeat' first | apply And.intro | exact True.intro | exact congrArg (fun x => DV.v (.int .i64 x)) (up64 hlt' hn) | rfl | (intro k hk; exact push_at rfl _ _ _ _ k hk)
    · cbv; try (subst hA; repeat' first | apply And.intro | exact True.intro | rfl)
    · cbv
  · rename_i hge
    have : i = n := by
      subst hA
      simp only [real, decide_eq_false_iff_not, Int.ofNat_eq_natCast] at hge
      omega
    subst this
    exact congrArg (fun x => XA.one (.c (.d (eI x)))) (lowP_one hc hx)
def st_marks (n : Nat) (g : Nat → TskInT) (i : Nat) (row : Nat → List DV) : St := ⟨[(9, .c (.d (eI i))), (8, .c (.d (eI n))), (7, .c (.d (.sl 3 n fun i => eTskIn (g i)))), (3, .c (.own 1088 0 i 1))], [(1088, 1, .arr 1 i row)]⟩
set_option maxRecDepth 100000 in
theorem c_marks (t : TskT) (hb : t.ins.n ≤ 1048576) : Meets Tryz.prog 183 [xd (eTsk t)] ⟨.one (.c (.own 1 t.ins.n fun i => [eI (t.ins.g i).mark])), [none]⟩ := by
  obtain ⟨⟨n, g, hn⟩, op, wall, pend⟩ := t
  have hb : n ≤ 1048576 := hb
  show Meets _ _ _ ⟨.one (.c (.own 1 n fun i => [eI (g i).mark])), [none]⟩
  refine meets_of (H := [7]) (EX := EXA) ttok mixed Tryz.func183 rfl (by kernel_rfl) (by decide) ?_
  generalize hA : real = A
  generalize hM : Meets Tryz.prog = M
  cbv
  repeat' first
    | apply And.intro
    | exact True.intro
    | with_reducible rfl
    | exact same_of hA rfl
    | refine br_of hA (fun _ => ?_) (fun _ => ?_)
    | exact imp_of hA id
    | (refine imp_of hA ?_; subst hA; simp only [real, Bool.true_and]; exact id)
    | (refine ind_of hA ?_; decide +kernel)
  refine loop_of hA (α := { q : Nat × (Nat → List DV) // q.1 ≤ n ∧ ∀ k, k < q.1 → q.2 k = [eI (g k).mark] }) (fun y => st_marks n g y.1.1 y.1.2) (fun y => n - y.1.1) ⟨(0, fun _ => []), Nat.zero_le _, fun k h => absurd h (Nat.not_lt_zero k)⟩ ?_ ?_
  · refine cov_prom 3 1088 1 1 (fun _ => []) (by cbv) (by cbv) (cov_of ?_ ?_ ?_)
    · cbv; try (subst hA; repeat' first | apply And.intro | exact True.intro | rfl)
    · cbv; try (subst hA; repeat' first | apply And.intro | exact True.intro | rfl | exact (fun _ _ => rfl))
    · cbv
  rintro ⟨⟨i, row⟩, hi, hr⟩
  have hi : i ≤ n := hi
  have hr : ∀ k, k < i → row k = [eI (g k).mark] := hr
  cbv
  repeat' first
    | apply And.intro
    | exact True.intro
    | with_reducible rfl
    | exact same_of hA rfl
    | refine br_of hA (fun _ => ?_) (fun _ => ?_)
    | exact imp_of hA id
    | (refine imp_of hA ?_; subst hA; simp only [real, Bool.true_and]; exact id)
    | (refine ind_of hA ?_; decide +kernel)
    | (refine inb_of hA fun _ => ?_; subst hA; simp only [real, Bool.and_eq_true, Bool.not_eq_true', Bool.not_eq_false', decide_eq_true_eq, Int.ofNat_eq_natCast, IntKind.wrap_i64] at *; omega)
    | (refine room_n hA ?_ (by decide); subst hA; simp only [real, decide_eq_true_eq, Int.ofNat_eq_natCast] at *; omega)
  · rename_i hlt
    have hlt' : i < n := by subst hA; simp only [real, decide_eq_true_eq, Int.ofNat_eq_natCast] at hlt; omega
    refine ⟨⟨(i + 1, fun k => if k < i then row k else [eI (g i).mark]), by simp only; omega, fun k hk => ?_⟩, by simp only; omega, cov_of ?_ ?_ ?_⟩
    · simp only at hk ⊢
      by_cases e : k < i
      · rw [if_pos e]; exact hr k e
      · rw [if_neg e]
        have : k = i := by omega
        rw [this]
    · cbv
      subst hA
      repeat' first | apply And.intro | exact True.intro | exact congrArg (fun x => DV.v (.int .i64 x)) (up64 hlt' hn) | rfl | (intro k hk; exact push_at rfl _ _ _ _ k hk)
    · cbv
      subst hA
      repeat' first | apply And.intro | exact True.intro | rfl | (intro k hk; exact push_at rfl _ _ _ _ k hk)
    · cbv
  · rename_i hge
    have : i = n := by
      subst hA
      simp only [real, decide_eq_false_iff_not, Int.ofNat_eq_natCast] at hge
      omega
    subst this
    refine stop_of hA ⟨[(3, .c (.own 1088 0 i 1))], [(1088, 1, .arr 1 i fun k => [eI (g k).mark])]⟩ (cov_of ?_ ?_ ?_) ?_
    · cbv
    · cbv
      exact ⟨fun q hq => hr q hq, trivial⟩
    · cbv
    · cbv
      repeat' first
        | apply And.intro
        | exact True.intro
        | with_reducible rfl
        | exact same_of hA rfl
        | refine br_of hA (fun _ => ?_) (fun _ => ?_)
        | exact imp_of hA id
        | (refine imp_of hA ?_; subst hA; simp only [real, Bool.true_and]; exact id)
        | (refine ind_of hA ?_; decide +kernel)
def st_min (n : Nat) (g : Nat → Int) (i : Nat) (v : Int) : St := ⟨[(4, .c (.d (eI i))), (3, .c (.d (eI v))), (0, .c (.d (.sl 1 n fun i => [eI (g i)])))], []⟩
set_option maxRecDepth 100000 in
theorem c_min (n : Nat) (hn : n ≤ maxLen) (g : Nat → Int) (h0 : 0 < n) (x : Int) (hx : MinP n g x) : Meets Tryz.prog 150 [.c (.d (.sl 1 n fun i => [eI (g i)]))] ⟨.one (.c (.d (eI x))), [none]⟩ := by
  refine meets_of (H := []) (EX := EXA) ttok mixed Tryz.func150 rfl (by kernel_rfl) (by decide) ?_
  generalize hA : real = A
  generalize hM : Meets Tryz.prog = M
  cbv
  repeat' first
    | apply And.intro
    | exact True.intro
    | with_reducible rfl
    | exact same_of hA rfl
    | refine br_of hA (fun _ => ?_) (fun _ => ?_)
    | exact imp_of hA id
    | (refine imp_of hA ?_; subst hA; simp only [real, Bool.true_and]; exact id)
    | (refine ind_of hA ?_; decide +kernel)
    | (refine inb_of hA fun _ => ?_; subst hA; simp only [real, Bool.and_eq_true, Bool.not_eq_true', Bool.not_eq_false', decide_eq_true_eq, Int.ofNat_eq_natCast, IntKind.wrap_i64] at *; omega)
  · exfalso
    rename_i h
    subst hA
    simp only [real, decide_eq_true_eq, Int.ofNat_eq_natCast] at h
    omega
  refine loop_of hA (α := { q : Nat × Int // 1 ≤ q.1 ∧ q.1 ≤ n ∧ LowP (g 0) q.1 g q.2 }) (fun y => st_min n g y.1.1 y.1.2) (fun y => n - y.1.1) ⟨(1, g 0), Nat.le_refl _, h0, Int.le_refl _, fun i h => (by have e : i = 0 := Nat.lt_one_iff.1 h; rw [e]; exact Int.le_refl _), .inl rfl⟩ ?_ ?_
  · refine cov_of ?_ ?_ ?_
    · cbv; try (subst hA; repeat' first | apply And.intro | exact True.intro | rfl)
    · cbv; try (subst hA; repeat' first | apply And.intro | exact True.intro | rfl)
    · cbv
  rintro ⟨⟨i, v⟩, h1, hi, hc⟩
  have hc : LowP (g 0) i g v := hc
  have hi : i ≤ n := hi
  have hs := lowP_step hc
  cbv
  repeat' first
    | apply And.intro
    | exact True.intro
    | with_reducible rfl
    | exact same_of hA rfl
    | refine br_of hA (fun _ => ?_) (fun _ => ?_)
    | exact imp_of hA id
    | (refine imp_of hA ?_; subst hA; simp only [real, Bool.true_and]; exact id)
    | (refine ind_of hA ?_; decide +kernel)
    | (refine inb_of hA fun _ => ?_; subst hA; simp only [real, Bool.and_eq_true, Bool.not_eq_true', Bool.not_eq_false', decide_eq_true_eq, Int.ofNat_eq_natCast, IntKind.wrap_i64] at *; omega)
  · rename_i hlt
    have hlt' : i < n := by subst hA; simp only [real, decide_eq_true_eq, Int.ofNat_eq_natCast] at hlt; omega
    obtain ⟨v2, hv2⟩ : ∃ v2 : Int, v2 = (if g i < v then g i else v) := ⟨_, rfl⟩
    rw [← hv2] at hs
    refine ⟨⟨(i + 1, v2), by simp only; omega, by simp only; omega, hs⟩, by simp only; omega, cov_of ?_ ?_ ?_⟩
    · cbv
      subst hA
      repeat' first | apply And.intro | exact True.intro | exact congrArg (fun x => DV.v (.int .i64 x)) (up64 hlt' hn) | exact congrArg (fun x => DV.v (.int .i64 x)) hv2.symm | rfl | (intro k hk; exact push_at rfl _ _ _ _ k hk)
    · cbv
    · cbv
  · rename_i hge
    have : i = n := by
      subst hA
      simp only [real, decide_eq_false_iff_not, Int.ofNat_eq_natCast] at hge
      omega
    subst this
    exact congrArg (fun x => XA.one (.c (.d (eI x)))) (minP_one (minP_of h0 hc) hx)
set_option maxRecDepth 100000 in
theorem c_TskLow (t : TskT) (hb : t.ins.n ≤ 1048576) (x : Int) (hx : LowP 1000 t.ins.n (fun i => (t.ins.g i).mark) x) : Meets Tryz.prog 130 [xd (eTsk t)] ⟨.one (.c (.d (eI x))), [none]⟩ := by
  have hm := c_marks t hb
  obtain ⟨⟨n, g, hn⟩, op, wall, pend⟩ := t
  have hb : n ≤ 1048576 := hb
  have hx : LowP 1000 n (fun i => (g i).mark) x := hx
  have hm : Meets _ _ _ ⟨.one (.c (.own 1 n fun i => [eI (g i).mark])), [none]⟩ := hm
  have hMx : MinP (n + 1) (fun i => if i < n then (g i).mark else if i = n then 1000 else 0) x := minP_ofLow (fun i hi => if_pos hi) (by simp) hx
  refine meets_of (H := []) (EX := EXA) ttok mixed Tryz.func130 rfl (by kernel_rfl) (by decide) ?_
  generalize hA : real = A
  generalize hM : Meets Tryz.prog = M
  cbv
  repeat' first
    | apply And.intro
    | exact True.intro
    | with_reducible rfl
    | exact same_of hA rfl
    | refine br_of hA (fun _ => ?_) (fun _ => ?_)
    | exact imp_of hA id
    | (refine imp_of hA ?_; subst hA; simp only [real, Bool.true_and]; exact id)
    | (refine ind_of hA ?_; decide +kernel)
    | (refine call_of hA hM _ hm ?_; cbv)
    | exact room_add hA (by omega) (by decide)
    | (refine call_of2 hA hM _ (c_min (n + 1) (Nat.le_trans (Nat.add_le_add_right hb 1) (by decide)) _ (by omega) x hMx) (congrArg (fun d => [XT.c (.d d)]) (low_arg hA n _ 1000)) ?_; cbv)
end Go.Rk
