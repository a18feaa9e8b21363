/- The walk over this seat's functions, part 7: what each of them answers, at all data. -/
import Derived.Test.YtmgeaomdilinnaaM1
import Derived.Test.YtmgeaomdilinnaaM2
import Derived.Test.YtmgeaomdilinnaaM3
import Derived.Test.YtmgeaomdilinnaaM4
import Derived.Test.YtmgeaomdilinnaaM5
import Derived.Test.YtmgeaomdilinnaaM6
import Derived.Test.YtmgeaomdilinnaaRows
import Derived.WalkKit
import Derived.ProofKit
import Derived.OpenShut
import Derived.ShutString
import Derived.ChangeOld
import Derived.SizedLaws
import Derived.DataShut
/- Marks of nests: mtsk. -/
namespace Go.Rk
set_option linter.unusedSimpArgs false
set_option linter.unusedVariables false
open Go.Proofs
set_option maxRecDepth 100000
set_option maxHeartbeats 2000000
def st_mTskIn (n i : Nat) (k : Int) (R : Nat → List DV) : St := ⟨[(5, .c (.d (eI i))), (1, .c (.d (eI k))), (0, .c (.nown 0 n 1))], [(0, 1, .nest 3 n R none)]⟩
def EXMTskIn : FuncId → List Nat × Bool := fun f => bif nbeq f 90 then ([0], false) else ([], false)
theorem marks_TskIn (s : Int) (n : Nat) (hn : n ≤ 1048576) (rd : Nat → TskInT) (hbd : ∀ i, i < n → bdTskIn (rd i)) (pos : Nat → Int) (hp0 : pos 0 = s) (hps : ∀ i, i < n → pos (i + 1) = pos i + lenTskIn (rd i)) (hpb : ∀ i, i ≤ n → 0 ≤ pos i ∧ pos i ≤ 50000000) (x : Int) (hx : x = pos n) (GM : Nat → TskInT) (hGM : ∀ i, GM i = mkTskIn (pos i) (rd i)) :
    Meets Try.prog 43 [.c (.nown 3 n fun i => eTskIn (rd i)), .c (.d (eI s))] ⟨.one (.c (.d (eI x))), [some (.nown 3 n fun i => eTskIn (GM i)), none]⟩ := by
  have hn2 : n ≤ maxLen := Nat.le_trans hn (by decide)
  refine meets_of (H := [4, 7, 9]) (EX := EXMTskIn) ttok mixed Try.func43 rfl (by kernel_rfl) (by decide) ?_
  generalize hA : real = A
  generalize hM : MeetsB Try.prog = M
  cbv
  repeat' first
    | apply And.intro
    | exact True.intro
    | with_reducible rfl
    | exact same_of hA rfl
    | refine br_of hA (fun _ => ?_) (fun _ => ?_)
    | exact imp_of hA id
    | (refine imp_of hA ?_; subst hA; simp only [real, Bool.true_and]; exact id)
    | (refine ind_of hA ?_; decide +kernel)
    | fail
  refine loop_of hA (α := { q : Nat × Int × (Nat → List DV) // q.1 ≤ n ∧ q.2.1 = pos q.1 ∧ (∀ j, j < q.1 → q.2.2 j = eTskIn (GM j)) ∧ ∀ j, q.1 ≤ j → q.2.2 j = eTskIn (rd j) }) (fun y => st_mTskIn n y.1.1 y.1.2.1 y.1.2.2) (fun y => n - y.1.1) ⟨(0, s, fun i => eTskIn (rd i)), Nat.zero_le _, hp0.symm, fun j h => absurd h (Nat.not_lt_zero j), fun _ _ => rfl⟩ ?_ ?_
  · refine cov_of ?_ ?_ ?_
    · (subst hA; repeat' first | exact True.intro | exact rfl |  apply And.intro | (intro _ _; rfl) | (intro _ _ _; rfl) | exact .inr (le_of_nble rfl) | exact .inl rfl | exact .inr (Nat.le_refl _))
    · (subst hA; repeat' first | exact True.intro | exact rfl |  apply And.intro | (intro _ _; rfl) | (intro _ _ _; rfl) | exact .inr (le_of_nble rfl) | exact .inl rfl | exact .inr (Nat.le_refl _))
    · (subst hA; repeat' first | exact True.intro | exact rfl |  apply And.intro | (intro _ _; rfl) | (intro _ _ _; rfl) | exact .inr (le_of_nble rfl) | exact .inl rfl | exact .inr (Nat.le_refl _))
  rintro ⟨⟨i, k, R⟩, hi, hk, hR, hS⟩
  have hi : i ≤ n := hi
  have hk : k = pos i := hk
  have hR : ∀ j, j < i → R j = eTskIn (GM j) := hR
  have hS : ∀ j, i ≤ j → R j = eTskIn (rd j) := hS
  have hkb := hpb i hi
  rw [← hk] at hkb
  cbv
  repeat' first
    | apply And.intro
    | exact True.intro
    | with_reducible rfl
    | exact same_of hA rfl
    | refine br_of hA (fun _ => ?_) (fun _ => ?_)
    | exact imp_of hA id
    | (refine imp_of hA ?_; subst hA; simp only [real, Bool.true_and]; exact id)
    | (refine ind_of hA ?_; decide +kernel)
    | fail
  · rename_i hlt
    have hlt' : i < n := by subst hA; simp only [real, decide_eq_true_eq, Int.ofNat_eq_natCast] at hlt; omega
    have hb1 : (rd i).queue.n ≤ 1048576 := hbd i hlt'
    have hnext := hps i hlt'
    have hkb2 := hpb (i + 1) hlt'
    have hgm := hGM i
    rw [← hk] at hgm hnext
    have hb3 : (maxLen : Nat) = 9223372036854775807 := by decide
    have hnext : pos (i + 1) = k + (5 * ((rd i).queue.n : Int) + 2) := hnext
    obtain ⟨k1, hk1⟩ : ∃ z : Int, z = k + 5 * ((rd i).queue.n : Int) := ⟨_, rfl⟩
    obtain ⟨k2, hk2⟩ : ∃ z : Int, z = k1 + 1 := ⟨_, rfl⟩
    obtain ⟨k3, hk3⟩ : ∃ z : Int, z = k2 + 1 := ⟨_, rfl⟩
    have w1 : IntKind.i64.wrap (k1 + 1) = k2 := by rw [IntWalk.i64_in _ (by omega)]; omega
    have w2 : IntKind.i64.wrap (k2 + 1) = k3 := by rw [IntWalk.i64_in _ (by omega)]; omega
    obtain ⟨G1, hG1⟩ : ∃ r : Nat → ItmT, r = fun (q : Nat) => mkItm (k + 5 * (q : Int)) := ⟨_, rfl⟩
    have m1 := marks_Itm k (by omega) (rd i).queue.n (by omega) (rd i).queue.g k1 hk1 G1 (fun q => by rw [hG1])
    have hnew : eTskIn (GM i) = [.sl 5 (rd i).queue.n fun q => eItm (G1 q), eI k1, eB (mkbool k2)] := by
      rw [hgm, hG1, hk2, hk1]
      rfl
    refine stop_of hA ⟨[(5, .c (.d (eI i))), (1, .c (.d (eI k))), (0, .c (.nown 0 n 1))], [(0, 1, .nest 3 n R (some (i, [.own 9000 0 (rd i).queue.n 1, .d (eI (rd i).mark), .d (eB (rd i).held)]))), (9000, 1, .arr 5 (rd i).queue.n fun q => eItm ((rd i).queue.g q))]⟩
      (cov_open 0 9000 1 i (fun _ => false) [.sl 5 (rd i).queue.n fun q => eItm ((rd i).queue.g q), eI (rd i).mark, eB (rd i).held] rfl hlt' (hS i (Nat.le_refl _)) ⟨.inr (flatR fun _ => flat_Itm _), trivial, trivial, trivial⟩ rfl (cov_of ?_ ?_ ?_)) ?_
    · (subst hA; repeat' first | exact True.intro | exact rfl |  apply And.intro | (intro _ _; rfl) | (intro _ _ _; rfl) | exact .inr (le_of_nble rfl) | exact .inl rfl | exact .inr (Nat.le_refl _))
    · (subst hA; repeat' first | exact True.intro | exact rfl |  apply And.intro | (intro _ _; rfl) | (intro _ _ _; rfl) | exact .inr (le_of_nble rfl) | exact .inl rfl | exact .inr (Nat.le_refl _))
    · (subst hA; repeat' first | exact True.intro | exact rfl |  apply And.intro | (intro _ _; rfl) | (intro _ _ _; rfl) | exact .inr (le_of_nble rfl) | exact .inl rfl | exact .inr (Nat.le_refl _))
    cbv
    repeat' first
      | apply And.intro
      | exact True.intro
      | with_reducible rfl
      | exact same_of hA rfl
      | refine br_of hA (fun _ => ?_) (fun _ => ?_)
      | exact imp_of hA id
      | (refine imp_of hA ?_; subst hA; simp only [real, Bool.true_and]; exact id)
      | (refine ind_of hA ?_; decide +kernel)
      | (refine inb_of hA fun _ => ?_; subst hA; simp only [real, decide_eq_true_eq, Int.ofNat_eq_natCast] at *; omega)
      | (refine same_of hA ?_; subst hA; rfl)
      | (refine call_of2 hA hM _ m1 (by subst hA; rfl) ?_; cbv)
      | fail
    refine stop_of hA ⟨[(5, .c (.d (eI i))), (1, .c (.d (eI k2))), (0, .c (.nown 0 n 1))], [(0, 1, .nest 3 n R (some (i, [.own 9000 0 (rd i).queue.n 1, .d (eI k1), .d (eB (rd i).held)]))), (9000, 1, .arr 5 (rd i).queue.n fun q => eItm (G1 q))]⟩ (cov_of ?_ ?_ ?_) ?_
    · (subst hA; repeat' first | exact True.intro | exact rfl | exact congrArg (fun x => DV.v (.int .i64 x)) w1 |  apply And.intro | (intro _ _; rfl) | (intro _ _ _; rfl) | exact .inr (le_of_nble rfl) | exact .inl rfl | exact .inr (Nat.le_refl _))
    · (subst hA; repeat' first | exact True.intro | exact rfl | exact congrArg (fun x => DV.v (.int .i64 x)) w1 |  apply And.intro | (intro _ _; rfl) | (intro _ _ _; rfl) | exact .inr (le_of_nble rfl) | exact .inl rfl | exact .inr (Nat.le_refl _))
    · (subst hA; repeat' first | exact True.intro | exact rfl | exact congrArg (fun x => DV.v (.int .i64 x)) w1 |  apply And.intro | (intro _ _; rfl) | (intro _ _ _; rfl) | exact .inr (le_of_nble rfl) | exact .inl rfl | exact .inr (Nat.le_refl _))
    cbv
    repeat' first
      | apply And.intro
      | exact True.intro
      | with_reducible rfl
      | exact same_of hA rfl
      | refine br_of hA (fun _ => ?_) (fun _ => ?_)
      | exact imp_of hA id
      | (refine imp_of hA ?_; subst hA; simp only [real, Bool.true_and]; exact id)
      | (refine ind_of hA ?_; decide +kernel)
      | (refine inb_of hA fun _ => ?_; subst hA; simp only [real, decide_eq_true_eq, Int.ofNat_eq_natCast] at *; omega)
      | (refine same_of hA ?_; subst hA; rfl)
      | (subst hA; exact fun _ => (by decide : (3 : Int) ≠ 0))
      | fail
    refine ⟨⟨(i + 1, k3, fun j => if j = i then [.sl 5 (rd i).queue.n fun q => eItm (G1 q), eI k1, eB (mkbool k2)] else R j), hlt', by (show k3 = pos (i + 1)); omega, fun j hj => ?_, fun j hj => ?_⟩, by simp only; omega,
      cov_close 0 (fun j => if j = i then [.sl 5 (rd i).queue.n fun q => eItm (G1 q), eI k1, eB (mkbool k2)] else R j) [.sl 5 (rd i).queue.n fun q => eItm (G1 q), eI k1, eB (mkbool k2)] [(9000, 1)] rfl ?_ rfl (if_pos rfl) (fun _ _ hq => if_neg hq) (cov_of ?_ ?_ ?_)⟩
    · simp only at hj ⊢
      by_cases e : j = i
      · rw [if_pos e, e, hnew]
      · rw [if_neg e]; exact hR j (by omega)
    · simp only at hj ⊢
      rw [if_neg (by omega)]; exact hS j (by omega)
    · subst hA; exact (close_own rfl (fun _ _ => rfl) (flatR fun _ => flat_Itm _) (close_v (close_v close_end)))
    · (subst hA; repeat' first | exact True.intro | exact rfl | exact congrArg (fun x => DV.v (.int .i64 x)) (up64 hlt' hn2) | exact congrArg (fun x => DV.v (.int .i64 x)) w2 |  apply And.intro | (intro _ _; rfl) | (intro _ _ _; rfl) | exact .inr (le_of_nble rfl) | exact .inl rfl | exact .inr (Nat.le_refl _))
    · (subst hA; repeat' first | exact True.intro | exact rfl | exact congrArg (fun x => DV.v (.int .i64 x)) (up64 hlt' hn2) | exact congrArg (fun x => DV.v (.int .i64 x)) w2 |  apply And.intro | (intro _ _; rfl) | (intro _ _ _; rfl) | exact .inr (le_of_nble rfl) | exact .inl rfl | exact .inr (Nat.le_refl _))
    · (subst hA; repeat' first | exact True.intro | exact rfl | exact congrArg (fun x => DV.v (.int .i64 x)) (up64 hlt' hn2) | exact congrArg (fun x => DV.v (.int .i64 x)) w2 |  apply And.intro | (intro _ _; rfl) | (intro _ _ _; rfl) | exact .inr (le_of_nble rfl) | exact .inl rfl | exact .inr (Nat.le_refl _))
  · rename_i hge
    have hin : i = n := by
      subst hA
      have : ¬ ((i : Int) < (n : Int)) := of_decide_eq_false hge
      omega
    subst hin
    have hkx : k = x := by rw [hk, hx]
    subst hkx
    refine stop_of hA ⟨[(1, .c (.d (eI k)))], [(0, 1, .nest 3 i (fun q => eTskIn (GM q)) none)]⟩ (cov_of ?_ ?_ ?_) ?_
    · cbv
    · cbv
      first
        | exact ⟨fun q hq _ => hR q hq, trivial⟩
        | exact ⟨fun q hq => hR q hq, trivial⟩
    · (subst hA; repeat' first | exact True.intro | exact rfl |  apply And.intro | (intro _ _; rfl) | (intro _ _ _; rfl) | exact .inr (le_of_nble rfl) | exact .inl rfl | exact .inr (Nat.le_refl _))
    · cbv
      repeat' first
        | apply And.intro
        | exact True.intro
        | with_reducible rfl
        | exact same_of hA rfl
        | refine br_of hA (fun _ => ?_) (fun _ => ?_)
        | exact imp_of hA id
        | (refine imp_of hA ?_; subst hA; simp only [real, Bool.true_and]; exact id)
        | (refine ind_of hA ?_; decide +kernel)
        | fail
def st_hTskIn (n : Nat) (GM : Nat → TskInT) (i : Nat) (k : Int) : St := ⟨[(5, .c (.d (eI i))), (1, .c (.d (eI k))), (0, .c (.d (.sl 3 n fun i => eTskIn (GM i))))], []⟩
theorem helds_TskIn (s : Int) (n : Nat) (hn : n ≤ 1048576) (rd : Nat → TskInT) (hbd : ∀ i, i < n → bdTskIn (rd i)) (pos : Nat → Int) (hp0 : pos 0 = s) (hps : ∀ i, i < n → pos (i + 1) = pos i + lenTskIn (rd i)) (hpb : ∀ i, i ≤ n → 0 ≤ pos i ∧ pos i ≤ 50000000) (x : Int) (hx : x = pos n) (GM : Nat → TskInT) (hGM : ∀ i, GM i = mkTskIn (pos i) (rd i)) :
    Meets Try.prog 45 [.c (.d (.sl 3 n fun i => eTskIn (GM i))), .c (.d (eI s))] ⟨.one (.c (.d (eI x))), [none, none]⟩ := by
  have hn2 : n ≤ maxLen := Nat.le_trans hn (by decide)
  refine meets_of (H := [4, 10]) (EX := EXA) ttok mixed Try.func45 rfl (by kernel_rfl) (by decide) ?_
  generalize hA : real = A
  generalize hM : MeetsB Try.prog = M
  cbv
  repeat' first
    | apply And.intro
    | exact True.intro
    | with_reducible rfl
    | exact same_of hA rfl
    | refine br_of hA (fun _ => ?_) (fun _ => ?_)
    | exact imp_of hA id
    | (refine imp_of hA ?_; subst hA; simp only [real, Bool.true_and]; exact id)
    | (refine ind_of hA ?_; decide +kernel)
    | fail
  refine loop_of hA (α := { q : Nat × Int // q.1 ≤ n ∧ q.2 = pos q.1 }) (fun y => st_hTskIn n GM y.1.1 y.1.2) (fun y => n - y.1.1) ⟨(0, s), Nat.zero_le _, hp0.symm⟩ ?_ ?_
  · refine cov_of ?_ ?_ ?_
    · (subst hA; repeat' first | exact True.intro | exact rfl |  apply And.intro | (intro _ _; rfl) | (intro _ _ _; rfl) | exact .inr (le_of_nble rfl) | exact .inl rfl | exact .inr (Nat.le_refl _))
    · (subst hA; repeat' first | exact True.intro | exact rfl |  apply And.intro | (intro _ _; rfl) | (intro _ _ _; rfl) | exact .inr (le_of_nble rfl) | exact .inl rfl | exact .inr (Nat.le_refl _))
    · (subst hA; repeat' first | exact True.intro | exact rfl |  apply And.intro | (intro _ _; rfl) | (intro _ _ _; rfl) | exact .inr (le_of_nble rfl) | exact .inl rfl | exact .inr (Nat.le_refl _))
  rintro ⟨⟨i, k⟩, hi, hk⟩
  have hi : i ≤ n := hi
  have hk : k = pos i := hk
  have hkb := hpb i hi
  have hgm := hGM i
  rw [← hk] at hkb hgm
  have hb3 : (maxLen : Nat) = 9223372036854775807 := by decide
  have hnb : ∀ {A : Ar} (v : Int), 0 ≤ v → real = A → A.cmp .lss v 0 = true → False := fun v hv hA h => by subst hA; exact absurd (of_decide_eq_true h) (Int.not_lt.2 hv)
  have e0 : 5 * ((rd i).queue.n : Int) ≥ 0 := by omega
  obtain ⟨k1, hk1⟩ : ∃ z : Int, z = k + 5 * ((rd i).queue.n : Int) := ⟨_, rfl⟩
  obtain ⟨k2, hk2⟩ : ∃ z : Int, z = k1 + 1 := ⟨_, rfl⟩
  obtain ⟨k3, hk3⟩ : ∃ z : Int, z = k2 + 1 := ⟨_, rfl⟩
  have hp1 : 0 ≤ k1 := by omega
  have en : (GM i).queue.n = (rd i).queue.n := by rw [hgm]; rfl
  have hbad0 : ∀ {A : Ar}, real = A → A.cmp .neq (GM (A.nat (Int.ofNat i))).mark k1 = true → False := fun hA h => by
    subst hA
    have h : ((GM i).mark != k1) = true := h
    rw [hgm, hk1] at h
    simp [mkTskIn] at h
  have hbad1 : ∀ {A : Ar}, real = A → A.bnot (A.beq (GM (A.nat (Int.ofNat i))).held (A.cmp .eql (A.ar .rem .i64 k2 3) 0)) = true → False := fun hA h => by
    subst hA
    have h : (!((GM i).held == mkbool k2)) = true := h
    rw [hgm, hk2, hk1] at h
    simp [mkTskIn] at h
  cbv
  repeat' first
    | exact (hbad0 hA (by assumption)).elim
    | exact (hbad1 hA (by assumption)).elim
    | apply And.intro
    | exact True.intro
    | with_reducible rfl
    | exact same_of hA rfl
    | refine br_of hA (fun _ => ?_) (fun _ => ?_)
    | exact imp_of hA id
    | (refine imp_of hA ?_; subst hA; simp only [real, Bool.true_and]; exact id)
    | (refine ind_of hA ?_; decide +kernel)
    | (refine inb_of hA fun _ => ?_; subst hA; simp only [real, decide_eq_true_eq, Int.ofNat_eq_natCast] at *; omega)
    | fail
  · rename_i hlt
    have hlt' : i < n := by subst hA; simp only [real, decide_eq_true_eq, Int.ofNat_eq_natCast] at hlt; omega
    have hb1 : (rd i).queue.n ≤ 1048576 := hbd i hlt'
    have hnext := hps i hlt'
    have hkb2 := hpb (i + 1) hlt'
    rw [← hk] at hnext
    have hnext : pos (i + 1) = k + (5 * ((rd i).queue.n : Int) + 2) := hnext
    have hk1 : k1 = k + 5 * ((rd i).queue.n : Int) := hk1
    have w1 : IntKind.i64.wrap (k1 + 1) = k2 := by rw [IntWalk.i64_in _ (by omega)]; omega
    have w2 : IntKind.i64.wrap (k2 + 1) = k3 := by rw [IntWalk.i64_in _ (by omega)]; omega
    have m1 := helds_Itm k (by omega) (GM i).queue.n (by rw [en]; omega) k1 (by rw [en]; exact hk1) (GM i).queue.g (fun q => by rw [hgm]; rfl)
    refine stop_of hA ⟨[(5, .c (.d (eI i))), (1, .c (.d (eI k))), (0, .c (.d (.sl 3 n fun i => eTskIn (GM i))))], []⟩ (cov_of ?_ ?_ ?_) ?_
    · (subst hA; repeat' first | exact True.intro | exact rfl |  apply And.intro | (intro _ _; rfl) | (intro _ _ _; rfl) | exact .inr (le_of_nble rfl) | exact .inl rfl | exact .inr (Nat.le_refl _))
    · (subst hA; repeat' first | exact True.intro | exact rfl |  apply And.intro | (intro _ _; rfl) | (intro _ _ _; rfl) | exact .inr (le_of_nble rfl) | exact .inl rfl | exact .inr (Nat.le_refl _))
    · (subst hA; repeat' first | exact True.intro | exact rfl |  apply And.intro | (intro _ _; rfl) | (intro _ _ _; rfl) | exact .inr (le_of_nble rfl) | exact .inl rfl | exact .inr (Nat.le_refl _))
    cbv
    repeat' first
      | exact (hbad0 hA (by assumption)).elim
      | exact (hbad1 hA (by assumption)).elim
      | exact (hnb k1 hp1 hA (by assumption)).elim
      | apply And.intro
      | exact True.intro
      | with_reducible rfl
      | exact same_of hA rfl
      | refine br_of hA (fun _ => ?_) (fun _ => ?_)
      | exact imp_of hA id
      | (refine imp_of hA ?_; subst hA; simp only [real, Bool.true_and]; exact id)
      | (refine ind_of hA ?_; decide +kernel)
      | (refine inb_of hA fun _ => ?_; subst hA; simp only [real, decide_eq_true_eq, Int.ofNat_eq_natCast] at *; omega)
      | (refine call_of2 hA hM _ m1 (by subst hA; rfl) ?_; cbv)
      | fail
    refine stop_of hA ⟨[(5, .c (.d (eI i))), (1, .c (.d (eI k2))), (0, .c (.d (.sl 3 n fun i => eTskIn (GM i))))], []⟩ (cov_of ?_ ?_ ?_) ?_
    · (subst hA; repeat' first | exact True.intro | exact rfl | exact congrArg (fun x => DV.v (.int .i64 x)) w1 |  apply And.intro | (intro _ _; rfl) | (intro _ _ _; rfl) | exact .inr (le_of_nble rfl) | exact .inl rfl | exact .inr (Nat.le_refl _))
    · (subst hA; repeat' first | exact True.intro | exact rfl | exact congrArg (fun x => DV.v (.int .i64 x)) w1 |  apply And.intro | (intro _ _; rfl) | (intro _ _ _; rfl) | exact .inr (le_of_nble rfl) | exact .inl rfl | exact .inr (Nat.le_refl _))
    · (subst hA; repeat' first | exact True.intro | exact rfl | exact congrArg (fun x => DV.v (.int .i64 x)) w1 |  apply And.intro | (intro _ _; rfl) | (intro _ _ _; rfl) | exact .inr (le_of_nble rfl) | exact .inl rfl | exact .inr (Nat.le_refl _))
    cbv
    repeat' first
      | exact (hbad0 hA (by assumption)).elim
      | exact (hbad1 hA (by assumption)).elim
      | exact (hnb k1 hp1 hA (by assumption)).elim
      | apply And.intro
      | exact True.intro
      | with_reducible rfl
      | exact same_of hA rfl
      | refine br_of hA (fun _ => ?_) (fun _ => ?_)
      | exact imp_of hA id
      | (refine imp_of hA ?_; subst hA; simp only [real, Bool.true_and]; exact id)
      | (refine ind_of hA ?_; decide +kernel)
      | (refine inb_of hA fun _ => ?_; subst hA; simp only [real, decide_eq_true_eq, Int.ofNat_eq_natCast] at *; omega)
      | (subst hA; exact fun _ => (by decide : (3 : Int) ≠ 0))
      | fail
    refine ⟨⟨(i + 1, k3), hlt', by (show k3 = pos (i + 1)); omega⟩, by simp only; omega, cov_of ?_ ?_ ?_⟩
    · (subst hA; repeat' first | exact True.intro | exact rfl | exact congrArg (fun x => DV.v (.int .i64 x)) (up64 hlt' hn2) | exact congrArg (fun x => DV.v (.int .i64 x)) w2 |  apply And.intro | (intro _ _; rfl) | (intro _ _ _; rfl) | exact .inr (le_of_nble rfl) | exact .inl rfl | exact .inr (Nat.le_refl _))
    · (subst hA; repeat' first | exact True.intro | exact rfl | exact congrArg (fun x => DV.v (.int .i64 x)) (up64 hlt' hn2) | exact congrArg (fun x => DV.v (.int .i64 x)) w2 |  apply And.intro | (intro _ _; rfl) | (intro _ _ _; rfl) | exact .inr (le_of_nble rfl) | exact .inl rfl | exact .inr (Nat.le_refl _))
    · (subst hA; repeat' first | exact True.intro | exact rfl | exact congrArg (fun x => DV.v (.int .i64 x)) (up64 hlt' hn2) | exact congrArg (fun x => DV.v (.int .i64 x)) w2 |  apply And.intro | (intro _ _; rfl) | (intro _ _ _; rfl) | exact .inr (le_of_nble rfl) | exact .inl rfl | exact .inr (Nat.le_refl _))
  · rename_i hge
    have hin : i = n := by
      subst hA
      have : ¬ ((i : Int) < (n : Int)) := of_decide_eq_false hge
      omega
    subst hin
    exact congrArg (fun x => XA.one (.c (.d (eI x)))) (by rw [hk, hx])
end Go.Rk
/- Marks of tasks, as a whole. -/
namespace Go.Rk
set_option linter.unusedSimpArgs false
set_option linter.unusedVariables false
def lenT (s : Sl TskInT) : Int := posS (fun i => lenTskIn (s.g i)) 0 s.n
theorem lenT_pos (s : Sl TskInT) : 0 ≤ lenT s := posS_ge (fun i => lenTskIn_pos _) 0 _
def totTsk (x : TskT) : Int := lenT x.ins + 13 * (x.op.rows.n : Int) + 9 * (x.pend.panes.n : Int) + 7 * (x.pend.lates.n : Int)
structure TskM (s : Int) (x : TskT) where
  f1 : Nat → TskInT
  f2 : Nat → RowT
  f3 : Nat → PaneT
  f4 : Nat → LatT
  p1 : Nat → Int
  k1 : Int
  k2 : Int
  k3 : Int
  k4 : Int
  q0 : p1 0 = s
  q1 : ∀ i, i < x.ins.n → p1 (i + 1) = p1 i + lenTskIn (x.ins.g i)
  q2 : ∀ i, i ≤ x.ins.n → 0 ≤ p1 i ∧ p1 i ≤ 50000000
  hk1 : k1 = p1 x.ins.n
  h1 : ∀ i, f1 i = mkTskIn (p1 i) (x.ins.g i)
  h2 : ∀ i, f2 i = mkRow (k1 + 13 * (i : Int))
  hk2 : k2 = k1 + 13 * (x.op.rows.n : Int)
  h3 : ∀ i, f3 i = mkPane (k2 + 9 * (i : Int))
  hk3 : k3 = k2 + 9 * (x.pend.panes.n : Int)
  h4 : ∀ i, f4 i = mkLat (k3 + 7 * (i : Int))
  hk4 : k4 = k3 + 7 * (x.pend.lates.n : Int)
  b0 : 0 ≤ s ∧ s ≤ 50000000
  b1 : 0 ≤ k1 ∧ k1 ≤ 50000000
  b2 : 0 ≤ k2 ∧ k2 ≤ 50000000
  b3 : 0 ≤ k3 ∧ k3 ≤ 50000000
  b4 : 0 ≤ k4 ∧ k4 ≤ 50000000
def TskM.out {s : Int} {x : TskT} (M : TskM s x) : TskT := ⟨⟨x.ins.n, M.f1, x.ins.hn⟩, ⟨x.op.mark, ⟨x.op.rows.n, M.f2, x.op.rows.hn⟩⟩, x.wall, ⟨x.pend.n, ⟨x.pend.panes.n, M.f3, x.pend.panes.hn⟩, ⟨x.pend.lates.n, M.f4, x.pend.lates.hn⟩⟩⟩
theorem tskM_ex (s : Int) (x : TskT) (hs : 0 ≤ s ∧ s ≤ 1000) (h : totTsk x ≤ 40000000) : Nonempty (TskM s x) := by
  have n1 := lenT_pos x.ins
  unfold totTsk at h
  have hp : ∀ (z : Sl TskInT) (k : Int), 0 ≤ k → k + lenT z ≤ 50000000 → ∀ i, i ≤ z.n → 0 ≤ posS (fun i => lenTskIn (z.g i)) k i ∧ posS (fun i => lenTskIn (z.g i)) k i ≤ 50000000 := fun z k h0 h1 i hi => by
    have a := posS_ge (len := fun i => lenTskIn (z.g i)) (fun i => lenTskIn_pos _) k i
    have b := posS_mono (len := fun i => lenTskIn (z.g i)) (s := k) (n := z.n) (fun i _ => lenTskIn_pos _) hi (Nat.le_refl _)
    have c := posS_shift (fun i => lenTskIn (z.g i)) 0 k z.n
    rw [Int.zero_add] at c
    unfold lenT at h1
    omega
  have e3 : posS (fun i => lenTskIn (x.ins.g i)) s x.ins.n = lenT x.ins + s := by
    have c := posS_shift (fun i => lenTskIn (x.ins.g i)) 0 s x.ins.n
    rw [Int.zero_add] at c
    exact c
  let k1 : Int := posS (fun i => lenTskIn (x.ins.g i)) s x.ins.n
  let k2 : Int := k1 + 13 * (x.op.rows.n : Int)
  let k3 : Int := k2 + 9 * (x.pend.panes.n : Int)
  have h1 : k1 = lenT x.ins + s := e3
  exact ⟨⟨fun i => mkTskIn (posS (fun i => lenTskIn (x.ins.g i)) s i) (x.ins.g i), fun i => mkRow (k1 + 13 * (i : Int)), fun i => mkPane (k2 + 9 * (i : Int)), fun i => mkLat (k3 + 7 * (i : Int)), posS (fun i => lenTskIn (x.ins.g i)) s, k1, k2, k3, k3 + 7 * (x.pend.lates.n : Int),
    rfl, fun _ _ => rfl, hp _ _ (by omega) (by omega), rfl, fun _ => rfl, fun _ => rfl, rfl, fun _ => rfl, rfl, fun _ => rfl, rfl, by omega, by omega, by omega, by omega, by omega⟩⟩
end Go.Rk
/- Marks of nests: ttsk. -/
namespace Go.Rk
set_option linter.unusedSimpArgs false
set_option linter.unusedVariables false
open Go.Proofs
set_option maxRecDepth 100000
set_option maxHeartbeats 2000000
theorem helds_TOp {s : Int} {x : TskT} (Q : TskM s x) (hb : bdTsk x) : Meets Try.prog 46 [.agg [.d (eI x.op.mark), .d (.sl 13 x.op.rows.n fun i => eRow (Q.f2 i))], .c (.d (eI Q.k1))] ⟨.one (.c (.d (eI Q.k2))), [none, none]⟩ := by
  have hnb : ∀ {A : Ar} (v : Int), 0 ≤ v → real = A → A.cmp .lss v 0 = true → False := fun v hv hA h => by subst hA; exact absurd (of_decide_eq_true h) (Int.not_lt.2 hv)
  have c4 := helds_Row Q.k1 ⟨Q.b1.1, by have := Q.b1.2; omega⟩ x.op.rows.n (by have h : x.op.rows.n ≤ 1048576 := hb.2.2.1; omega) Q.k2 Q.hk2 Q.f2 Q.h2
  refine meets_of (H := []) (EX := EXA) ttok mixed Try.func46 rfl (by kernel_rfl) (by decide) ?_
  generalize hA : real = A
  generalize hM : MeetsB Try.prog = M
  cbv
  repeat' first
    | exact (hnb _ Q.b2.1 hA (by assumption)).elim
    | apply And.intro
    | exact True.intro
    | with_reducible rfl
    | exact same_of hA rfl
    | refine br_of hA (fun _ => ?_) (fun _ => ?_)
    | exact imp_of hA id
    | (refine imp_of hA ?_; subst hA; simp only [real, Bool.true_and]; exact id)
    | (refine ind_of hA ?_; decide +kernel)
    | (refine call_of2 hA hM _ c4 (by subst hA; rfl) ?_; cbv)
    | fail
theorem helds_TTxn {s : Int} {x : TskT} (Q : TskM s x) (hb : bdTsk x) : Meets Try.prog 47 [xd (eTxn Q.out.pend), .c (.d (eI Q.k2))] ⟨.one (.c (.d (eI Q.k4))), [none, none]⟩ := by
  have hnb : ∀ {A : Ar} (v : Int), 0 ≤ v → real = A → A.cmp .lss v 0 = true → False := fun v hv hA h => by subst hA; exact absurd (of_decide_eq_true h) (Int.not_lt.2 hv)
  have c4 := helds_Pane Q.k2 ⟨Q.b2.1, by have := Q.b2.2; omega⟩ x.pend.panes.n (by have h : x.pend.panes.n ≤ 1048576 := hb.2.2.2.1; omega) Q.k3 Q.hk3 Q.f3 Q.h3
  have c5 := helds_Lat Q.k3 ⟨Q.b3.1, by have := Q.b3.2; omega⟩ x.pend.lates.n (by have h : x.pend.lates.n ≤ 1048576 := hb.2.2.2.2; omega) Q.k4 Q.hk4 Q.f4 Q.h4
  refine meets_of (H := []) (EX := EXA) ttok mixed Try.func47 rfl (by kernel_rfl) (by decide) ?_
  generalize hA : real = A
  generalize hM : MeetsB Try.prog = M
  cbv
  repeat' first
    | exact (hnb _ Q.b3.1 hA (by assumption)).elim
    | exact (hnb _ Q.b4.1 hA (by assumption)).elim
    | apply And.intro
    | exact True.intro
    | with_reducible rfl
    | exact same_of hA rfl
    | refine br_of hA (fun _ => ?_) (fun _ => ?_)
    | exact imp_of hA id
    | (refine imp_of hA ?_; subst hA; simp only [real, Bool.true_and]; exact id)
    | (refine ind_of hA ?_; decide +kernel)
    | (refine call_of2 hA hM _ c4 (by subst hA; rfl) ?_; cbv)
    | (refine call_of2 hA hM _ c5 (by subst hA; rfl) ?_; cbv)
    | fail
theorem helds_Tsk {s : Int} {x : TskT} (Q : TskM s x) (hb : bdTsk x) : Meets Try.prog 18 [xd (eTsk Q.out), .c (.d (eI s))] ⟨.one (.c (.d (eI Q.k4))), [none, none]⟩ := by
  have hnb : ∀ {A : Ar} (v : Int), 0 ≤ v → real = A → A.cmp .lss v 0 = true → False := fun v hv hA h => by subst hA; exact absurd (of_decide_eq_true h) (Int.not_lt.2 hv)
  have c1 := helds_TskIn s x.ins.n hb.1 x.ins.g hb.2.1 Q.p1 Q.q0 Q.q1 Q.q2 Q.k1 Q.hk1 Q.f1 Q.h1
  have c2 := helds_TOp Q hb
  have c3 := helds_TTxn Q hb
  refine meets_of (H := []) (EX := EXA) ttok mixed Try.func18 rfl (by kernel_rfl) (by decide) ?_
  generalize hA : real = A
  generalize hM : MeetsB Try.prog = M
  cbv
  repeat' first
    | exact (hnb _ Q.b1.1 hA (by assumption)).elim
    | exact (hnb _ Q.b2.1 hA (by assumption)).elim
    | exact (hnb _ Q.b4.1 hA (by assumption)).elim
    | apply And.intro
    | exact True.intro
    | with_reducible rfl
    | exact same_of hA rfl
    | refine br_of hA (fun _ => ?_) (fun _ => ?_)
    | exact imp_of hA id
    | (refine imp_of hA ?_; subst hA; simp only [real, Bool.true_and]; exact id)
    | (refine ind_of hA ?_; decide +kernel)
    | (refine call_of2 hA hM _ c1 (by subst hA; rfl) ?_; cbv)
    | (refine call_of2 hA hM _ c2 (by subst hA; rfl) ?_; cbv)
    | (refine call_of2 hA hM _ c3 (by subst hA; rfl) ?_; cbv)
    | fail
def EXTOn : FuncId → List Nat × Bool := fun f => bif nbeq f 1 then ([9101], false) else bif nbeq f 42 then ([0], false) else ([], false)
def EXTTn : FuncId → List Nat × Bool := fun f => bif nbeq f 1 then ([9201], false) else bif nbeq f 91 then ([0], false) else bif nbeq f 92 then ([0], false) else ([], false)
def EXTKn : FuncId → List Nat × Bool := fun f => bif nbeq f 1 then ([9001], false) else bif nbeq f 43 then ([0], false) else bif nbeq f 15 then ([99], false) else bif nbeq f 44 then ([99], false) else ([], false)
theorem k_tmarkopn {s : Int} {x : TskT} (Q : TskM s x) (hb : bdTsk x) : MeetsO Try.prog 15 [.agg [.d (eI x.op.mark), .own 2498 0 x.op.rows.n 1], .c (.d (eI Q.k1))]
    [(2498, 1, .arr 13 x.op.rows.n fun i => eRow (x.op.rows.g i))] (.c (.d (eI Q.k2))) [(2498, 1, .arr 13 x.op.rows.n fun i => eRow (Q.f2 i)), (9229, 1, .dead)] := by
  refine inl_of (EX := EXTOn) ttok mixed Try.func15 rfl (by kernel_rfl) (by decide) (by kernel_rfl) rfl rfl ?_
  have c4 := marks_Row Q.k1 ⟨Q.b1.1, by have := Q.b1.2; omega⟩ x.op.rows.n (by have h : x.op.rows.n ≤ 1048576 := hb.2.2.1; omega) x.op.rows.g Q.k2 Q.hk2 Q.f2 Q.h2
  generalize hA : real = A
  generalize hM : MeetsB Try.prog = M9
  cbv
  repeat' first
    | apply And.intro
    | exact True.intro
    | with_reducible rfl
    | exact same_of hA rfl
    | refine br_of hA (fun _ => ?_) (fun _ => ?_)
    | exact imp_of hA id
    | (refine imp_of hA ?_; subst hA; simp only [real, Bool.true_and]; exact id)
    | (refine ind_of hA ?_; decide +kernel)
    | (refine call_of hA hM _ c4 ?_; cbv)
    | (intro _ _; rfl)
    | (intro _ _ _; rfl)
    | fail
theorem k_tmarktn {s : Int} {x : TskT} (Q : TskM s x) (hb : bdTsk x) : MeetsO Try.prog 44 [.agg [.d (eI x.pend.n), .own 2501 0 x.pend.panes.n 1, .own 2502 0 x.pend.lates.n 1], .c (.d (eI Q.k2))]
    [(2501, 1, .arr 9 x.pend.panes.n fun i => ePane (x.pend.panes.g i)), (2502, 1, .arr 7 x.pend.lates.n fun i => eLat (x.pend.lates.g i))] (.c (.d (eI Q.k4))) [(2501, 1, .arr 9 x.pend.panes.n fun i => ePane (Q.f3 i)), (2502, 1, .arr 7 x.pend.lates.n fun i => eLat (Q.f4 i)), (9329, 1, .dead)] := by
  refine inl_of (EX := EXTTn) ttok mixed Try.func44 rfl (by kernel_rfl) (by decide) (by kernel_rfl) rfl rfl ?_
  have c4 := marks_Pane Q.k2 ⟨Q.b2.1, by have := Q.b2.2; omega⟩ x.pend.panes.n (by have h : x.pend.panes.n ≤ 1048576 := hb.2.2.2.1; omega) x.pend.panes.g Q.k3 Q.hk3 Q.f3 Q.h3
  have c5 := marks_Lat Q.k3 ⟨Q.b3.1, by have := Q.b3.2; omega⟩ x.pend.lates.n (by have h : x.pend.lates.n ≤ 1048576 := hb.2.2.2.2; omega) x.pend.lates.g Q.k4 Q.hk4 Q.f4 Q.h4
  generalize hA : real = A
  generalize hM : MeetsB Try.prog = M9
  cbv
  repeat' first
    | apply And.intro
    | exact True.intro
    | with_reducible rfl
    | exact same_of hA rfl
    | refine br_of hA (fun _ => ?_) (fun _ => ?_)
    | exact imp_of hA id
    | (refine imp_of hA ?_; subst hA; simp only [real, Bool.true_and]; exact id)
    | (refine ind_of hA ?_; decide +kernel)
    | (refine call_of hA hM _ c4 ?_; cbv)
    | (refine call_of hA hM _ c5 ?_; cbv)
    | (intro _ _; rfl)
    | (intro _ _ _; rfl)
    | fail
theorem k_tmarkn {s : Int} {x : TskT} (Q : TskM s x) (hb : bdTsk x) : MeetsO Try.prog 17 [.agg [.nown 2496 x.ins.n 1, .d (eI x.op.mark), .own 2498 0 x.op.rows.n 1, .d (eI x.wall), .d (eI x.pend.n), .own 2501 0 x.pend.panes.n 1, .own 2502 0 x.pend.lates.n 1], .c (.d (eI s))]
    [(2496, 1, .nest 3 x.ins.n (fun i => eTskIn (x.ins.g i)) none), (2498, 1, .arr 13 x.op.rows.n fun i => eRow (x.op.rows.g i)), (2501, 1, .arr 9 x.pend.panes.n fun i => ePane (x.pend.panes.g i)), (2502, 1, .arr 7 x.pend.lates.n fun i => eLat (x.pend.lates.g i))] (.c (.d (eI Q.k4))) [(2496, 1, .nest 3 x.ins.n (fun i => eTskIn (Q.f1 i)) none), (2498, 1, .arr 13 x.op.rows.n fun i => eRow (Q.f2 i)), (2501, 1, .arr 9 x.pend.panes.n fun i => ePane (Q.f3 i)), (2502, 1, .arr 7 x.pend.lates.n fun i => eLat (Q.f4 i)), (9129, 1, .dead), (9229, 1, .dead), (9329, 1, .dead)] := by
  refine inl_of (EX := EXTKn) ttok mixed Try.func17 rfl (by kernel_rfl) (by decide) (by kernel_rfl) rfl rfl ?_
  have c1 := marks_TskIn s x.ins.n hb.1 x.ins.g hb.2.1 Q.p1 Q.q0 Q.q1 Q.q2 Q.k1 Q.hk1 Q.f1 Q.h1
  have c2 := k_tmarkopn Q hb
  have c3 := k_tmarktn Q hb
  generalize hA : real = A
  generalize hM : MeetsB Try.prog = M9
  cbv
  repeat' first
    | apply And.intro
    | exact True.intro
    | with_reducible rfl
    | exact same_of hA rfl
    | refine br_of hA (fun _ => ?_) (fun _ => ?_)
    | exact imp_of hA id
    | (refine imp_of hA ?_; subst hA; simp only [real, Bool.true_and]; exact id)
    | (refine ind_of hA ?_; decide +kernel)
    | (refine call_of hA hM _ c1 ?_; cbv)
    | (refine inl_call hA _ _ _ ⟨fun _ => (by rw [← hM]; exact c2), (by cbv; repeat' first | apply And.intro | exact True.intro | rfl | exact .inr trivial | exact .inl trivial), ?_⟩; cbv)
    | (refine inl_call hA _ _ _ ⟨fun _ => (by rw [← hM]; exact c3), (by cbv; repeat' first | apply And.intro | exact True.intro | rfl | exact .inr trivial | exact .inl trivial), ?_⟩; cbv)
    | (intro _ _; rfl)
    | (intro _ _ _; rfl)
    | fail
def EXMOx : FuncId → List Nat × Bool := fun f => bif nbeq f 1 then ([9401], false) else bif nbeq f 42 then ([0], false) else ([], false)
theorem k_mopx (mk : Int) (s : Int) (hs : 0 ≤ s ∧ s ≤ 100000000) (n : Nat) (hn : n ≤ 1100000) (rd : Nat → RowT) (x : Int) (hx : x = s + 13 * (n : Int)) (GM : Nat → RowT) (hGM : ∀ i, GM i = mkRow (s + 13 * (i : Int))) : MeetsO Try.prog 15 [.agg [.d (eI mk), .own 2049 0 n 1], .c (.d (eI s))]
    [(2049, 1, .arr 13 n fun i => eRow (rd i))] (.c (.d (eI x))) [(2049, 1, .arr 13 n fun i => eRow (GM i)), (9529, 1, .dead)] := by
  refine inl_of (EX := EXMOx) ttok mixed Try.func15 rfl (by kernel_rfl) (by decide) (by kernel_rfl) rfl rfl ?_
  have hm := marks_Row s hs n hn rd x hx GM hGM
  generalize hA : real = A
  generalize hM : MeetsB Try.prog = M9
  cbv
  repeat' first
    | apply And.intro
    | exact True.intro
    | with_reducible rfl
    | exact same_of hA rfl
    | refine br_of hA (fun _ => ?_) (fun _ => ?_)
    | exact imp_of hA id
    | (refine imp_of hA ?_; subst hA; simp only [real, Bool.true_and]; exact id)
    | (refine ind_of hA ?_; decide +kernel)
    | (refine call_of hA hM _ hm ?_; cbv)
    | (intro _ _; rfl)
    | fail
end Go.Rk
/- Tasks: new. -/
namespace Go.Rk
set_option linter.unusedSimpArgs false
set_option linter.unusedVariables false
open Go.Proofs
set_option maxRecDepth 100000
set_option maxHeartbeats 1000000
def st_new (j : JobT) (mk : Int) (rn : Nat) (rg : Nat → RowT) (n : Nat) (ms : Nat → Int) (i : Nat) (R : Nat → Int) : St := ⟨[(26, .c (.d (eI i))), (25, .c (.d (eI n))), (24, .c (.d (.sl 1 n fun i => [eI (ms i)]))), (7, .c (.bp 448 1 0)), (6, .c (.bp 384 1 0))], [(2240, 1, .arr 3 i fun q => [.v nilS, eI (R q), eB false]), (448, 1, .box [.own 2240 0 i 1, .d (eI mk), .own 1409 0 rn 1, .d (eI 0), .d (eI 0), .d (.v nilS), .d (.v nilS)]), (1409, 1, .arr 13 rn fun q => eRow (rg q)), (384, 1, .box [.d (.v nilS), .d (eI 0), .d (.v nilS), .d (eI 0), .d (eI 0), .d (.v nilS), .d (.v nilS)])]⟩
theorem c_TskNew_ok (j : JobT) (s : OpStT) (hn : s.rows.n ≤ 1080000) (ms : Sl Int) (h : OpOkP j s ∧ MarksP j ms) : Meets Try.prog 11 [xd (eJob j), .agg [.d (eI s.mark), .d (.sl 13 s.rows.n fun i => eRow (s.rows.g i))], .c (.d (.sl 1 ms.n fun i => [eI (ms.g i)]))] ⟨.one (.agg [.own 3 ms.n fun i => [.v nilS, eI (ms.g i), eB false], .d (eI s.mark), .own 13 s.rows.n fun i => eRow (s.rows.g i), .d (eI 0), .d (eI 0), .d (.v nilS), .d (.v nilS)]), [none, none, none]⟩ := by
  obtain ⟨bo, hbo, hO⟩ := c_OpOk j s
  have cC := c_copied s.mark s.rows.n hn s.rows.g
  have hmL := ms.hn
  obtain ⟨bm, hbm, hM9⟩ := c_marksOk j ms
  refine meets_of (H := [9]) (EX := EXA) ttok mixed Try.func11 rfl (by kernel_rfl) (by decide) ?_
  generalize hA : real = A
  generalize hM : MeetsB Try.prog = M
  cbv
  have hgd : ∀ {A : Ar}, real = A → A.bite (A.bnot bo) true (A.bnot bm) = false → OpOkP j s ∧ MarksP j ms := fun hA h => by
    subst hA
    have h : (bif (!bo) then true else (!bm)) = false := h
    cases h1 : bo with
    | false => rw [h1] at h; cases h
    | true => rw [h1] at h; exact ⟨hbo.1 h1, hbm.1 (by simpa using h)⟩
  have hbd : ∀ {A : Ar}, real = A → A.bite (A.bnot bo) true (A.bnot bm) = true → False := fun hA h9 => by
    subst hA
    have h9 : (bif (!bo) then true else (!bm)) = true := h9
    rw [hbo.2 h.1, hbm.2 h.2] at h9
    simp at h9
  repeat' first
    | apply And.intro
    | exact True.intro
    | with_reducible rfl
    | exact same_of hA rfl
    | refine br_of hA (fun _ => ?_) (fun _ => ?_)
    | exact imp_of hA id
    | (refine imp_of hA ?_; subst hA; simp only [real, Bool.true_and]; exact id)
    | (refine ind_of hA ?_; decide +kernel)
    | (refine call_of hA hM _ hO ?_; cbv)
    | (refine call_of hA hM _ cC ?_; cbv)
    | (refine call_of hA hM _ hM9 ?_; cbv)
    | (refine (hbd hA ?_).elim; assumption)
    | fail
  have hms := h.2.1
  have hj1 := h.1.1.1
  have hsm : ms.n ≤ 3 := by omega
  refine loop_of hA (α := { y : Nat × (Nat → Int) // y.1 ≤ ms.n ∧ (∀ q, q < y.1 → y.2 q = ms.g q) }) (fun y => st_new j s.mark s.rows.n s.rows.g ms.n ms.g y.1.1 y.1.2) (fun y => ms.n - y.1.1) ⟨(0, fun _ => 0), Nat.zero_le _, fun q hq => absurd hq (Nat.not_lt_zero q)⟩ ?_ ?_
  · refine cov_promC 448 2240 1 3 (fun q => [.v nilS, eI 0, eB false]) [] [.d (eI s.mark), .own 1409 0 s.rows.n 1, .d (eI 0), .d (eI 0), .d (.v nilS), .d (.v nilS)] rfl rfl rfl (cov_of ?_ ?_ ?_)
    · cbv; try (subst hA; repeat' first | apply And.intro | exact True.intro | rfl)
    · cbv; try (subst hA; repeat' first | apply And.intro | exact True.intro | rfl | (intro k hk; exact absurd hk (Nat.not_lt_zero k)) | (intro _ _; rfl))
    · cbv; try (subst hA; repeat' first | apply And.intro | exact True.intro | rfl | exact .inr trivial | exact .inl trivial)
  rintro ⟨⟨i, R⟩, hi, hR⟩
  have hi : i ≤ ms.n := hi
  have hR : ∀ q, q < i → R q = ms.g q := hR
  have hltS : ∀ {A : Ar}, real = A → A.cmp .lss (Int.ofNat i) j.srcs = true → i < ms.n := fun hA h => by
    subst hA
    have h : decide ((i : Int) < j.srcs) = true := h
    have h := of_decide_eq_true h
    omega
  have hgeS : ∀ {A : Ar}, real = A → A.cmp .lss (Int.ofNat i) j.srcs = false → ms.n ≤ i := fun hA h => by
    subst hA
    have h : decide ((i : Int) < j.srcs) = false := h
    have h := of_decide_eq_false h
    omega
  cbv
  repeat' first
    | apply And.intro
    | exact True.intro
    | with_reducible rfl
    | exact same_of hA rfl
    | refine br_of hA (fun _ => ?_) (fun _ => ?_)
    | exact imp_of hA id
    | (refine imp_of hA ?_; subst hA; simp only [real, Bool.true_and]; exact id)
    | (refine ind_of hA ?_; decide +kernel)
    | (refine inb_lt hA ?_; first | exact lt2_of hA (by assumption) | exact lt_of hA (by assumption) | exact hltS hA (by assumption))
    | (refine inb_of hA (fun _ => ?_); have hlt9 : i < ms.n := (by first | exact lt2_of hA (by assumption) | exact lt_of hA (by assumption) | exact hltS hA (by assumption)); exact ⟨Int.natCast_nonneg i, Int.ofNat_lt.2 hlt9⟩)
    | exact room_add2 hA (by omega) (by decide)
    | exact room_n hA (by omega) (by decide)
    | fail
  · have hlt' : i < ms.n := by first | exact lt2_of hA (by assumption) | exact lt_of hA (by assumption) | exact hltS hA (by assumption)
    refine ⟨⟨(i + 1, fun q => if q < i then R q else ms.g i), hlt', fun q hq => ?_⟩, by simp only; omega, cov_of ?_ ?_ ?_⟩
    · simp only at hq ⊢
      by_cases e : q < i
      · rw [if_pos e]; exact hR q e
      · rw [if_neg e, show q = i by omega]
    · subst hA; (repeat' first | exact True.intro | exact rfl | exact congrArg (fun x => DV.v (.int .i64 x)) (up64 hlt' hmL) | apply And.intro)
    · subst hA
      (repeat' first | exact True.intro | exact rfl | apply And.intro | (intro _ _; first | rfl | trivial))
      all_goals
        intro q hq
        refine (push_at rfl i (fun q => [.v nilS, eI (R q), eB false]) _ _ q hq).trans ?_
        by_cases e : q < i
        · rw [if_pos e]
          show _ = [DV.v nilS, eI (if q < i then R q else ms.g i), eB false]
          rw [if_pos e]
        · rw [if_neg e]
          show _ = [DV.v nilS, eI (if q < i then R q else ms.g i), eB false]
          rw [if_neg e]; rfl
    · subst hA; (repeat' first | exact True.intro | exact rfl | apply And.intro | exact .inl rfl | exact .inr (le_of_nble rfl))
  · have hge' : ms.n ≤ i := by first | exact ge2_of hA (by assumption) | exact ge_of hA (by assumption) | exact hgeS hA (by assumption)
    have hin : i = ms.n := Nat.le_antisymm hi hge'
    subst hin
    refine stop_of hA ⟨[(7, .c (.bp 448 1 0)), (6, .c (.bp 384 1 0))], [(2240, 1, .arr 3 ms.n fun q => [.v nilS, eI (ms.g q), eB false]), (448, 1, .box [.own 2240 0 ms.n 1, .d (eI s.mark), .own 1409 0 s.rows.n 1, .d (eI 0), .d (eI 0), .d (.v nilS), .d (.v nilS)]), (1409, 1, .arr 13 s.rows.n fun q => eRow (s.rows.g q)), (384, 1, .box [.d (.v nilS), .d (eI 0), .d (.v nilS), .d (eI 0), .d (eI 0), .d (.v nilS), .d (.v nilS)])]⟩ (cov_of ?_ ?_ ?_) ?_
    · cbv
    · cbv
      exact ⟨fun q hq => by rw [hR q hq], by repeat' first | exact True.intro | exact rfl | apply And.intro | (intro _ _; rfl)⟩
    · cbv
    cbv
    repeat' first
      | apply And.intro
      | exact True.intro
      | with_reducible rfl
      | exact same_of hA rfl
      | refine br_of hA (fun _ => ?_) (fun _ => ?_)
      | exact imp_of hA id
      | (refine imp_of hA ?_; subst hA; simp only [real, Bool.true_and]; exact id)
      | (refine ind_of hA ?_; decide +kernel)
      | fail
theorem c_TskNew_bad (j : JobT) (s : OpStT) (hn : s.rows.n ≤ 1080000) (ms : Sl Int) (h : ¬ (OpOkP j s ∧ MarksP j ms)) : Meets Try.prog 11 [xd (eJob j), .agg [.d (eI s.mark), .d (.sl 13 s.rows.n fun i => eRow (s.rows.g i))], .c (.d (.sl 1 ms.n fun i => [eI (ms.g i)]))] ⟨.one (.agg [.d (.v nilS), .d (eI 0), .d (.v nilS), .d (eI 0), .d (eI 0), .d (.v nilS), .d (.v nilS)]), [none, none, none]⟩ := by
  obtain ⟨bo, hbo, hO⟩ := c_OpOk j s
  have cC := c_copied s.mark s.rows.n hn s.rows.g
  have hmL := ms.hn
  obtain ⟨bm, hbm, hM9⟩ := c_marksOk j ms
  refine meets_of (H := [9]) (EX := EXA) ttok mixed Try.func11 rfl (by kernel_rfl) (by decide) ?_
  generalize hA : real = A
  generalize hM : MeetsB Try.prog = M
  cbv
  have hgd : ∀ {A : Ar}, real = A → A.bite (A.bnot bo) true (A.bnot bm) = false → OpOkP j s ∧ MarksP j ms := fun hA h => by
    subst hA
    have h : (bif (!bo) then true else (!bm)) = false := h
    cases h1 : bo with
    | false => rw [h1] at h; cases h
    | true => rw [h1] at h; exact ⟨hbo.1 h1, hbm.1 (by simpa using h)⟩
  repeat' first
    | apply And.intro
    | exact True.intro
    | with_reducible rfl
    | exact same_of hA rfl
    | refine br_of hA (fun _ => ?_) (fun _ => ?_)
    | exact imp_of hA id
    | (refine imp_of hA ?_; subst hA; simp only [real, Bool.true_and]; exact id)
    | (refine ind_of hA ?_; decide +kernel)
    | (refine call_of hA hM _ hO ?_; cbv)
    | (refine call_of hA hM _ cC ?_; cbv)
    | (refine call_of hA hM _ hM9 ?_; cbv)
    | (refine (h (hgd hA ?_)).elim; assumption)
    | fail
def st_snew (j : JobT) (mk : Int) (rn : Nat) (rg : Nat → RowT) (n : Nat) (ms : Nat → Int) (i : Nat) (R : Nat → Int) : St := ⟨[(8, .c (.d (eI i))), (2, .c (.d (.sl 1 n fun i => [eI (ms i)]))), (3, .c (.bp 192 1 0)), (7, .c (.bp 448 1 0)), (6, .c (.bp 384 1 0))], [(192, 1, .box ((eJob j).map .d)), (2880, 1, .arr 3 i fun q => [.v nilS, eI (R q), eB false]), (448, 1, .box [.own 2880 0 i 1, .d (eI mk), .own 1409 0 rn 1, .d (eI 0), .d (eI 0), .d (.v nilS), .d (.v nilS)]), (1409, 1, .arr 13 rn fun q => eRow (rg q)), (384, 1, .box [.d (.v nilS), .d (eI 0), .d (.v nilS), .d (eI 0), .d (eI 0), .d (.v nilS), .d (.v nilS)])]⟩
theorem c_sTskNew_ok (j : JobT) (s : OpStT) (hn : s.rows.n ≤ 1080000) (ms : Sl Int) (h : OpOkP j s ∧ MarksP j ms) : Meets Try.prog 7 [xd (eJob j), .agg [.d (eI s.mark), .d (.sl 13 s.rows.n fun i => eRow (s.rows.g i))], .c (.d (.sl 1 ms.n fun i => [eI (ms.g i)]))] ⟨.one (.agg [.own 3 ms.n fun i => [.v nilS, eI (ms.g i), eB false], .d (eI s.mark), .own 13 s.rows.n fun i => eRow (s.rows.g i), .d (eI 0), .d (eI 0), .d (.v nilS), .d (.v nilS)]), [none, none, none]⟩ := by
  obtain ⟨bo, hbo, hO⟩ := c_sOpOk j s
  have cC := c_sCopy s.mark s.rows.n hn s.rows.g
  have hmL := ms.hn
  refine meets_of (H := [10]) (EX := EXA) ttok mixed Try.func7 rfl (by kernel_rfl) (by decide) ?_
  generalize hA : real = A
  generalize hM : MeetsB Try.prog = M
  cbv
  have hgd : ∀ {A : Ar}, real = A → A.bite (A.bnot bo) true (A.cmp .neq (A.int ms.n) j.srcs) = false → OpOkP j s ∧ (ms.n : Int) = j.srcs := fun hA h => by
    subst hA
    have h : (bif (!bo) then true else ((ms.n : Int) != j.srcs)) = false := h
    cases h1 : bo with
    | false => rw [h1] at h; cases h
    | true => rw [h1] at h; exact ⟨hbo.1 h1, by simpa using h⟩
  have hbd : ∀ {A : Ar}, real = A → A.bite (A.bnot bo) true (A.cmp .neq (A.int ms.n) j.srcs) = true → False := fun hA h9 => by
    subst hA
    have h9 : (bif (!bo) then true else ((ms.n : Int) != j.srcs)) = true := h9
    rw [hbo.2 h.1, h.2.1] at h9
    simp at h9
  repeat' first
    | apply And.intro
    | exact True.intro
    | with_reducible rfl
    | exact same_of hA rfl
    | refine br_of hA (fun _ => ?_) (fun _ => ?_)
    | exact imp_of hA id
    | (refine imp_of hA ?_; subst hA; simp only [real, Bool.true_and]; exact id)
    | (refine ind_of hA ?_; decide +kernel)
    | (refine call_of hA hM _ hO ?_; cbv)
    | (refine call_of hA hM _ cC ?_; cbv)
    | (refine (hbd hA ?_).elim; assumption)
    | fail
  have hms := h.2.1
  have hj1 := h.1.1.1
  have hsm : ms.n ≤ 3 := by omega
  refine loop_of hA (α := { y : Nat × (Nat → Int) // y.1 ≤ ms.n ∧ (∀ q, q < y.1 → y.2 q = ms.g q) }) (fun y => st_snew j s.mark s.rows.n s.rows.g ms.n ms.g y.1.1 y.1.2) (fun y => ms.n - y.1.1) ⟨(0, fun _ => 0), Nat.zero_le _, fun q hq => absurd hq (Nat.not_lt_zero q)⟩ ?_ ?_
  · refine cov_promC 448 2880 1 3 (fun q => [.v nilS, eI 0, eB false]) [] [.d (eI s.mark), .own 1409 0 s.rows.n 1, .d (eI 0), .d (eI 0), .d (.v nilS), .d (.v nilS)] rfl rfl rfl (cov_of ?_ ?_ ?_)
    · cbv; try (subst hA; repeat' first | apply And.intro | exact True.intro | rfl)
    · cbv; try (subst hA; repeat' first | apply And.intro | exact True.intro | rfl | (intro k hk; exact absurd hk (Nat.not_lt_zero k)) | (intro _ _; rfl))
    · cbv; try (subst hA; repeat' first | apply And.intro | exact True.intro | rfl | exact .inr trivial | exact .inl trivial)
  rintro ⟨⟨i, R⟩, hi, hR⟩
  have hi : i ≤ ms.n := hi
  have hR : ∀ q, q < i → R q = ms.g q := hR
  have hltS : ∀ {A : Ar}, real = A → A.cmp .lss (Int.ofNat i) j.srcs = true → i < ms.n := fun hA h => by
    subst hA
    have h : decide ((i : Int) < j.srcs) = true := h
    have h := of_decide_eq_true h
    omega
  have hgeS : ∀ {A : Ar}, real = A → A.cmp .lss (Int.ofNat i) j.srcs = false → ms.n ≤ i := fun hA h => by
    subst hA
    have h : decide ((i : Int) < j.srcs) = false := h
    have h := of_decide_eq_false h
    omega
  obtain ⟨b9, hb9, hIn⟩ := c_l1In (ms.g i) 0 1000
  have hneg : i < ms.n → ∀ {A : Ar}, real = A → A.bnot b9 = true → False := fun hlt9 {A} hA h9 => by
    have e9 : b9 = true := by rw [hb9]; exact decide_eq_true (h.2.2 i hlt9)
    rw [e9] at h9
    subst hA
    cases h9
  cbv
  repeat' first
    | apply And.intro
    | exact True.intro
    | with_reducible rfl
    | exact same_of hA rfl
    | refine br_of hA (fun _ => ?_) (fun _ => ?_)
    | exact imp_of hA id
    | (refine imp_of hA ?_; subst hA; simp only [real, Bool.true_and]; exact id)
    | (refine ind_of hA ?_; decide +kernel)
    | (refine inb_lt hA ?_; first | exact lt2_of hA (by assumption) | exact lt_of hA (by assumption) | exact hltS hA (by assumption))
    | (refine inb_of hA (fun _ => ?_); have hlt9 : i < ms.n := (by first | exact lt2_of hA (by assumption) | exact lt_of hA (by assumption) | exact hltS hA (by assumption)); exact ⟨Int.natCast_nonneg i, Int.ofNat_lt.2 hlt9⟩)
    | exact room_add2 hA (by omega) (by decide)
    | exact room_n hA (by omega) (by decide)
    | (refine call_of2 hA hM _ hIn (by (subst hA; first | rfl | (simp only [sub0r]; try rfl))) ?_; cbv)
    | (refine (hneg ?_ hA ?_).elim; (focus (first | exact lt2_of hA (by assumption) | exact lt_of hA (by assumption) | exact hltS hA (by assumption))); assumption)
    | fail
  · have hlt' : i < ms.n := by first | exact lt2_of hA (by assumption) | exact lt_of hA (by assumption) | exact hltS hA (by assumption)
    refine ⟨⟨(i + 1, fun q => if q < i then R q else ms.g i), hlt', fun q hq => ?_⟩, by simp only; omega, cov_of ?_ ?_ ?_⟩
    · simp only at hq ⊢
      by_cases e : q < i
      · rw [if_pos e]; exact hR q e
      · rw [if_neg e, show q = i by omega]
    · subst hA; (repeat' first | exact True.intro | exact rfl | exact congrArg (fun x => DV.v (.int .i64 x)) (up64 hlt' hmL) | apply And.intro)
    · subst hA
      (repeat' first | exact True.intro | exact rfl | apply And.intro | (intro _ _; first | rfl | trivial))
      all_goals
        intro q hq
        refine (push_at rfl i (fun q => [.v nilS, eI (R q), eB false]) _ _ q hq).trans ?_
        by_cases e : q < i
        · rw [if_pos e]
          show _ = [DV.v nilS, eI (if q < i then R q else ms.g i), eB false]
          rw [if_pos e]
        · rw [if_neg e]
          show _ = [DV.v nilS, eI (if q < i then R q else ms.g i), eB false]
          rw [if_neg e]; rfl
    · subst hA; (repeat' first | exact True.intro | exact rfl | apply And.intro | exact .inl rfl | exact .inr (le_of_nble rfl))
  · have hge' : ms.n ≤ i := by first | exact ge2_of hA (by assumption) | exact ge_of hA (by assumption) | exact hgeS hA (by assumption)
    have hin : i = ms.n := Nat.le_antisymm hi hge'
    subst hin
    refine stop_of hA ⟨[(7, .c (.bp 448 1 0)), (6, .c (.bp 384 1 0))], [(2880, 1, .arr 3 ms.n fun q => [.v nilS, eI (ms.g q), eB false]), (448, 1, .box [.own 2880 0 ms.n 1, .d (eI s.mark), .own 1409 0 s.rows.n 1, .d (eI 0), .d (eI 0), .d (.v nilS), .d (.v nilS)]), (1409, 1, .arr 13 s.rows.n fun q => eRow (s.rows.g q)), (384, 1, .box [.d (.v nilS), .d (eI 0), .d (.v nilS), .d (eI 0), .d (eI 0), .d (.v nilS), .d (.v nilS)])]⟩ (cov_of ?_ ?_ ?_) ?_
    · cbv
    · cbv
      exact ⟨fun q hq => by rw [hR q hq], by repeat' first | exact True.intro | exact rfl | apply And.intro | (intro _ _; rfl)⟩
    · cbv
    cbv
    repeat' first
      | apply And.intro
      | exact True.intro
      | with_reducible rfl
      | exact same_of hA rfl
      | refine br_of hA (fun _ => ?_) (fun _ => ?_)
      | exact imp_of hA id
      | (refine imp_of hA ?_; subst hA; simp only [real, Bool.true_and]; exact id)
      | (refine ind_of hA ?_; decide +kernel)
      | fail
theorem c_sTskNew_bad (j : JobT) (s : OpStT) (hn : s.rows.n ≤ 1080000) (ms : Sl Int) (h : ¬ (OpOkP j s ∧ MarksP j ms)) : Meets Try.prog 7 [xd (eJob j), .agg [.d (eI s.mark), .d (.sl 13 s.rows.n fun i => eRow (s.rows.g i))], .c (.d (.sl 1 ms.n fun i => [eI (ms.g i)]))] ⟨.one (.agg [.d (.v nilS), .d (eI 0), .d (.v nilS), .d (eI 0), .d (eI 0), .d (.v nilS), .d (.v nilS)]), [none, none, none]⟩ := by
  obtain ⟨bo, hbo, hO⟩ := c_sOpOk j s
  have cC := c_sCopy s.mark s.rows.n hn s.rows.g
  have hmL := ms.hn
  refine meets_of (H := [10]) (EX := EXA) ttok mixed Try.func7 rfl (by kernel_rfl) (by decide) ?_
  generalize hA : real = A
  generalize hM : MeetsB Try.prog = M
  cbv
  have hgd : ∀ {A : Ar}, real = A → A.bite (A.bnot bo) true (A.cmp .neq (A.int ms.n) j.srcs) = false → OpOkP j s ∧ (ms.n : Int) = j.srcs := fun hA h => by
    subst hA
    have h : (bif (!bo) then true else ((ms.n : Int) != j.srcs)) = false := h
    cases h1 : bo with
    | false => rw [h1] at h; cases h
    | true => rw [h1] at h; exact ⟨hbo.1 h1, by simpa using h⟩
  repeat' first
    | apply And.intro
    | exact True.intro
    | with_reducible rfl
    | exact same_of hA rfl
    | refine br_of hA (fun _ => ?_) (fun _ => ?_)
    | exact imp_of hA id
    | (refine imp_of hA ?_; subst hA; simp only [real, Bool.true_and]; exact id)
    | (refine ind_of hA ?_; decide +kernel)
    | (refine call_of hA hM _ hO ?_; cbv)
    | (refine call_of hA hM _ cC ?_; cbv)
    | fail
  obtain ⟨hok, hms⟩ := hgd hA (by assumption)
  have hj1 := hok.1.1
  have hms : (ms.n : Int) = j.srcs := hms
  have hsm : ms.n ≤ 3 := by omega
  refine loop_of hA (α := { y : Nat × (Nat → Int) // y.1 ≤ ms.n ∧ (∀ q, q < y.1 → y.2 q = ms.g q) ∧ ∀ q, q < y.1 → 0 ≤ ms.g q ∧ ms.g q ≤ 1000 }) (fun y => st_snew j s.mark s.rows.n s.rows.g ms.n ms.g y.1.1 y.1.2) (fun y => ms.n - y.1.1) ⟨(0, fun _ => 0), Nat.zero_le _, fun q hq => absurd hq (Nat.not_lt_zero q), fun q hq => absurd hq (Nat.not_lt_zero q)⟩ ?_ ?_
  · refine cov_promC 448 2880 1 3 (fun q => [.v nilS, eI 0, eB false]) [] [.d (eI s.mark), .own 1409 0 s.rows.n 1, .d (eI 0), .d (eI 0), .d (.v nilS), .d (.v nilS)] rfl rfl rfl (cov_of ?_ ?_ ?_)
    · cbv; try (subst hA; repeat' first | apply And.intro | exact True.intro | rfl)
    · cbv; try (subst hA; repeat' first | apply And.intro | exact True.intro | rfl | (intro k hk; exact absurd hk (Nat.not_lt_zero k)) | (intro _ _; rfl))
    · cbv; try (subst hA; repeat' first | apply And.intro | exact True.intro | rfl | exact .inr trivial | exact .inl trivial)
  rintro ⟨⟨i, R⟩, hi, hR, hV⟩
  have hi : i ≤ ms.n := hi
  have hR : ∀ q, q < i → R q = ms.g q := hR
  have hltS : ∀ {A : Ar}, real = A → A.cmp .lss (Int.ofNat i) j.srcs = true → i < ms.n := fun hA h => by
    subst hA
    have h : decide ((i : Int) < j.srcs) = true := h
    have h := of_decide_eq_true h
    omega
  have hgeS : ∀ {A : Ar}, real = A → A.cmp .lss (Int.ofNat i) j.srcs = false → ms.n ≤ i := fun hA h => by
    subst hA
    have h : decide ((i : Int) < j.srcs) = false := h
    have h := of_decide_eq_false h
    omega
  obtain ⟨b9, hb9, hIn⟩ := c_l1In (ms.g i) 0 1000
  cbv
  repeat' first
    | apply And.intro
    | exact True.intro
    | with_reducible rfl
    | exact same_of hA rfl
    | refine br_of hA (fun _ => ?_) (fun _ => ?_)
    | exact imp_of hA id
    | (refine imp_of hA ?_; subst hA; simp only [real, Bool.true_and]; exact id)
    | (refine ind_of hA ?_; decide +kernel)
    | (refine inb_lt hA ?_; first | exact lt2_of hA (by assumption) | exact lt_of hA (by assumption) | exact hltS hA (by assumption))
    | (refine inb_of hA (fun _ => ?_); have hlt9 : i < ms.n := (by first | exact lt2_of hA (by assumption) | exact lt_of hA (by assumption) | exact hltS hA (by assumption)); exact ⟨Int.natCast_nonneg i, Int.ofNat_lt.2 hlt9⟩)
    | exact room_add2 hA (by omega) (by decide)
    | exact room_n hA (by omega) (by decide)
    | (refine call_of2 hA hM _ hIn (by (subst hA; first | rfl | (simp only [sub0r]; try rfl))) ?_; cbv)
    | fail
  · have hlt' : i < ms.n := by first | exact lt2_of hA (by assumption) | exact lt_of hA (by assumption) | exact hltS hA (by assumption)
    refine ⟨⟨(i + 1, fun q => if q < i then R q else ms.g i), hlt', fun q hq => ?_, fun q hq => ?_⟩, by simp only; omega, cov_of ?_ ?_ ?_⟩
    · simp only at hq ⊢
      by_cases e : q < i
      · rw [if_pos e]; exact hR q e
      · rw [if_neg e, show q = i by omega]
    · simp only at hq
      by_cases e : q < i
      · exact hV q e
      · have e2 : q = i := by omega
        rw [e2]
        rename_i h9
        have h9 : b9 = true := by subst hA; simpa [real] using h9
        rw [hb9] at h9
        exact of_decide_eq_true h9
    · subst hA; (repeat' first | exact True.intro | exact rfl | exact congrArg (fun x => DV.v (.int .i64 x)) (up64 hlt' hmL) | apply And.intro)
    · subst hA
      (repeat' first | exact True.intro | exact rfl | apply And.intro | (intro _ _; first | rfl | trivial))
      all_goals
        intro q hq
        refine (push_at rfl i (fun q => [.v nilS, eI (R q), eB false]) _ _ q hq).trans ?_
        by_cases e : q < i
        · rw [if_pos e]
          show _ = [DV.v nilS, eI (if q < i then R q else ms.g i), eB false]
          rw [if_pos e]
        · rw [if_neg e]
          show _ = [DV.v nilS, eI (if q < i then R q else ms.g i), eB false]
          rw [if_neg e]; rfl
    · subst hA; (repeat' first | exact True.intro | exact rfl | apply And.intro | exact .inl rfl | exact .inr (le_of_nble rfl))
  · exfalso
    have hge' : ms.n ≤ i := by first | exact ge2_of hA (by assumption) | exact ge_of hA (by assumption) | exact hgeS hA (by assumption)
    exact h ⟨hok, hms, fun q hq => hV q (by omega)⟩
end Go.Rk
/- Tasks at their beginning, in plain words. -/
namespace Go.Rk
set_option linter.unusedSimpArgs false
set_option linter.unusedVariables false
def zItm : ItmT := ⟨0, 0, 0, 0, 0⟩
/-- A task of an operator and marks. -/
def tskT (s : OpStT) (ms : Sl Int) : TskT := ⟨⟨ms.n, fun i => ⟨⟨0, fun _ => zItm, Nat.zero_le _⟩, ms.g i, false⟩, ms.hn⟩, s, 0, ⟨0, ⟨0, fun _ => zPan, Nat.zero_le _⟩, ⟨0, fun _ => zLat, Nat.zero_le _⟩⟩⟩
def tskZ : TskT := tskT ⟨0, ⟨0, fun _ => zRow, Nat.zero_le _⟩⟩ ⟨0, fun _ => 0, Nat.zero_le _⟩
theorem le_tskT (s : OpStT) (ms : Sl Int) : ALe (.one (.agg [.d (.sl 3 ms.n fun i => [.v nilS, eI (ms.g i), eB false]), .d (eI s.mark), .d (.sl 13 s.rows.n fun i => eRow (s.rows.g i)), .d (eI 0), .d (eI 0), .d (.v nilS), .d (.v nilS)])) (.one (xd (eTsk (tskT s ms)))) :=
  ⟨dle_sl fun i _ => ⟨dle_nil 5 _, DLe.rfl, DLe.rfl, trivial⟩, DLe.rfl, DLe.rfl, DLe.rfl, DLe.rfl, dle_nil 9 _, dle_nil 7 _, trivial⟩
theorem le_tskZ : ALe (.one (.agg [.d (.v nilS), .d (eI 0), .d (.v nilS), .d (eI 0), .d (eI 0), .d (.v nilS), .d (.v nilS)])) (.one (xd (eTsk tskZ))) :=
  ⟨dle_nil 3 _, DLe.rfl, dle_nil 13 _, DLe.rfl, DLe.rfl, dle_nil 9 _, dle_nil 7 _, trivial⟩
end Go.Rk
/- A new task: how long it is, and its own form. -/
namespace Go.Rk
set_option linter.unusedSimpArgs false
set_option linter.unusedVariables false
open Classical in
noncomputable def tskP (j : JobT) (s : OpStT) (ms : Sl Int) : TskT := if OpOkP j s ∧ MarksP j ms then tskT s ms else tskZ
theorem lenT_new (s : OpStT) (ms : Sl Int) : lenT (tskT s ms).ins = 2 * (ms.n : Int) := by
  have e : ∀ k : Nat, posS (fun i => lenTskIn ((tskT s ms).ins.g i)) 0 k = 2 * (k : Int) := fun k => by
    induction k with
    | zero => rfl
    | succ k ih =>
      show posS (fun i => lenTskIn ((tskT s ms).ins.g i)) 0 k + (5 * ((0 : Nat) : Int) + 2) = _
      rw [ih]; omega
  exact e _
theorem tskT_bd (s : OpStT) (ms : Sl Int) (hs : bdOpSt s) (hm : ms.n ≤ 1048576) : bdTsk (tskT s ms) ∧ totTsk (tskT s ms) ≤ 40000000 := by
  have hs : s.rows.n ≤ 1048576 := hs
  refine ⟨⟨hm, fun _ _ => Nat.zero_le _, hs, Nat.zero_le _, Nat.zero_le _⟩, ?_⟩
  have := lenT_new s ms
  show lenT (tskT s ms).ins + 13 * (s.rows.n : Int) + 9 * ((0 : Nat) : Int) + 7 * ((0 : Nat) : Int) ≤ _
  omega
theorem tskP_bd {j : JobT} {s : OpStT} {ms : Sl Int} {y : TskT} (hs : bdOpSt s) (hm : ms.n ≤ 1048576) (hy : y = tskP j s ms) : bdTsk y ∧ totTsk y ≤ 40000000 := by
  subst hy
  unfold tskP
  split
  · exact tskT_bd s ms hs hm
  · exact tskT_bd _ _ (Nat.zero_le _) (Nat.zero_le _)
theorem own_tskT (s : OpStT) (ms : Sl Int) : ALe (.one (.agg [.own 3 ms.n fun i => [.v nilS, eI (ms.g i), eB false], .d (eI s.mark), .own 13 s.rows.n fun i => eRow (s.rows.g i), .d (eI 0), .d (eI 0), .d (.v nilS), .d (.v nilS)]))
    (.one (.agg [.nown 3 (tskT s ms).ins.n fun i => eTskIn ((tskT s ms).ins.g i), .d (eI (tskT s ms).op.mark), .own 13 (tskT s ms).op.rows.n fun i => eRow ((tskT s ms).op.rows.g i), .d (eI (tskT s ms).wall), .d (eI (tskT s ms).pend.n), .own 9 (tskT s ms).pend.panes.n fun i => ePane ((tskT s ms).pend.panes.g i), .own 7 (tskT s ms).pend.lates.n fun i => eLat ((tskT s ms).pend.lates.g i)])) := by
  refine ⟨⟨rfl, rfl, flatR fun _ => ⟨⟨_, rfl⟩, ⟨_, rfl⟩, ⟨_, rfl⟩, trivial⟩, fun i _ => ⟨nle_nil _ _, NLe.rfl, NLe.rfl, trivial⟩⟩, DLe.rfl, ⟨rfl, rfl, fun _ _ => LsLe.rfl⟩, DLe.rfl, DLe.rfl, ⟨rfl, rfl⟩, ⟨rfl, rfl⟩, trivial⟩
theorem own_tskZ : ALe (.one (.agg [.d (.v nilS), .d (eI 0), .d (.v nilS), .d (eI 0), .d (eI 0), .d (.v nilS), .d (.v nilS)]))
    (.one (.agg [.nown 3 tskZ.ins.n fun i => eTskIn (tskZ.ins.g i), .d (eI tskZ.op.mark), .own 13 tskZ.op.rows.n fun i => eRow (tskZ.op.rows.g i), .d (eI tskZ.wall), .d (eI tskZ.pend.n), .own 9 tskZ.pend.panes.n fun i => ePane (tskZ.pend.panes.g i), .own 7 tskZ.pend.lates.n fun i => eLat (tskZ.pend.lates.g i)])) := by
  refine ⟨⟨rfl, rfl⟩, DLe.rfl, ⟨rfl, rfl⟩, DLe.rfl, DLe.rfl, ⟨rfl, rfl⟩, ⟨rfl, rfl⟩, trivial⟩
end Go.Rk
/- The law, walked. -/
namespace Go.Rk
set_option linter.unusedSimpArgs false
set_option linter.unusedVariables false
open Go.Proofs Go.ChangeShapes Go.WideShapes Go.ChangeAt Go.RowKit
set_option maxRecDepth 100000
set_option maxHeartbeats 4000000
theorem c_TskNewO (j : JobT) (s : OpStT) (hn : s.rows.n ≤ 1080000) (ms : Sl Int) (y : TskT) (hy : y = tskP j s ms) : Meets Try.prog 11 [xd (eJob j), xd (eOpSt s), .c (.d (.sl 1 ms.n fun i => [eI (ms.g i)]))] ⟨.one (.agg [.nown 3 y.ins.n fun i => eTskIn (y.ins.g i), .d (eI y.op.mark), .own 13 y.op.rows.n fun i => eRow (y.op.rows.g i), .d (eI y.wall), .d (eI y.pend.n), .own 9 y.pend.panes.n fun i => ePane (y.pend.panes.g i), .own 7 y.pend.lates.n fun i => eLat (y.pend.lates.g i)]), [none, none, none]⟩ := by
  subst hy
  by_cases h : OpOkP j s ∧ MarksP j ms
  · rw [show tskP j s ms = tskT s ms from if_pos h]; exact meets_wk (c_TskNew_ok j s hn ms h) (own_tskT s ms)
  · rw [show tskP j s ms = tskZ from if_neg h]; exact meets_wk (c_TskNew_bad j s hn ms h) own_tskZ
theorem c_sTskNewD (j : JobT) (s : OpStT) (hn : s.rows.n ≤ 1080000) (ms : Sl Int) (y : TskT) (hy : y = tskP j s ms) : Meets Try.prog 7 [xd (eJob j), xd (eOpSt s), .c (.d (.sl 1 ms.n fun i => [eI (ms.g i)]))] ⟨.one (xd (eTsk y)), [none, none, none]⟩ := by
  subst hy
  by_cases h : OpOkP j s ∧ MarksP j ms
  · rw [show tskP j s ms = tskT s ms from if_pos h]; exact meets_wk (meets_frz (c_sTskNew_ok j s hn ms h) rfl) (le_tskT s ms)
  · rw [show tskP j s ms = tskZ from if_neg h]; exact meets_wk (c_sTskNew_bad j s hn ms h) le_tskZ
def EXL : FuncId → List Nat × Bool := fun f => bif nbeq f 17 then ([99], false) else bif nbeq f 15 then ([99], false) else bif nbeq f 16 then ([0], false) else bif nbeq f 7 then ([], true) else ([], false)
theorem m_law (j : JobT) (s : OpStT) (ms : Sl Int) : Meets Try.prog 3 [xd (eJob j), xd (eOpSt s), .c (.d (.sl 1 ms.n fun i => [eI (ms.g i)]))] ⟨.one (.c (.d (eB true))), [none, none, none]⟩ := by
  obtain ⟨z, hz⟩ : ∃ z : Int, z = szOpSt s 1048576 := ⟨_, rfl⟩
  have hc := sz_OpSt s 1048576 (by omega) (by omega) z hz
  have hs := szOpSt_spec s (l0 := 1048576) (by omega) (by omega)
  rw [← hz] at hs
  obtain ⟨y, hy⟩ : ∃ y, y = tskP j s ms := ⟨_, rfl⟩
  refine meets_of (H := [4, 8, 11, 18, 23, 30]) (EX := EXL) ttok mixed Try.func3 rfl (by kernel_rfl) (by decide) ?_
  generalize hA : real = A
  generalize hM : MeetsB Try.prog = M
  cbv
  repeat' first
    | apply And.intro
    | exact True.intro
    | with_reducible rfl
    | exact same_of hA rfl
    | refine br_of hA (fun _ => ?_) (fun _ => ?_)
    | exact imp_of hA id
    | (refine imp_of hA ?_; subst hA; simp only [real, Bool.true_and]; exact id)
    | (refine ind_of hA ?_; decide +kernel)
    | fail
  rename_i hlen
  refine stop_of hA ⟨[(7, .c (.d (eI 1048576))), (2, .c (.d (.sl 1 ms.n fun i => [eI (ms.g i)]))), (3, .c (.bp 192 1 0)), (4, .c (.bp 256 1 0))], [(192, 1, .box [.d (eI j.srcs), .d (eI j.tsks), .d (eI j.kind), .d (eI j.size), .d (eI j.step), .d (eI j.late), .d (eI j.tell), .d (eB j.piece), .d (eI j.least), .d (eI j.room)]), (256, 1, .box ((eOpSt s).map .d))]⟩ (cov_of ?_ ?_ ?_) ?_
  · (subst hA; (repeat' first | exact True.intro | exact rfl | apply And.intro | (intro _ _; first | rfl | trivial) | (intro _ _ _; rfl)))
  · (subst hA; (repeat' first | exact True.intro | exact rfl | apply And.intro | (intro _ _; first | rfl | trivial) | (intro _ _ _; rfl)))
  · (subst hA; (repeat' first | exact True.intro | exact rfl | apply And.intro | (intro _ _; first | rfl | trivial) | (intro _ _ _; rfl) | exact .inl rfl | exact .inr (le_of_nble rfl)))
  cbv
  repeat' first
    | apply And.intro
    | exact True.intro
    | with_reducible rfl
    | exact same_of hA rfl
    | refine br_of hA (fun _ => ?_) (fun _ => ?_)
    | exact imp_of hA id
    | (refine imp_of hA ?_; subst hA; simp only [real, Bool.true_and]; exact id)
    | (refine ind_of hA ?_; decide +kernel)
    | (refine call_of hA hM _ hc ?_; cbv)
    | fail
  rename_i hge
  have hz0 : 0 ≤ z := by subst hA; have h : ¬ z < 0 := of_decide_eq_false hge; omega
  have hbs : bdOpSt s := hs.2.2 hz0
  have hsn : s.rows.n ≤ 1048576 := hbs
  have hmn : ms.n ≤ 1048576 := by
    subst hA
    have h : ¬ ((ms.n : Int) > 1048576) := of_decide_eq_false hlen
    omega
  obtain ⟨hbdy, hty⟩ := tskP_bd hbs hmn hy
  have hI := c_TskNewO j s (by omega) ms y hy
  have hS := c_sTskNewD j s (by omega) ms y hy
  have hto := to_OpStO s hbs
  have hti := to_IntS ms.n hmn ms.g
  obtain ⟨Qy⟩ := tskM_ex 1 y ⟨by omega, by omega⟩ hty
  obtain ⟨x1, hx1⟩ : ∃ v : Int, v = 1 + 13 * (s.rows.n : Int) := ⟨_, rfl⟩
  obtain ⟨x2, hx2⟩ : ∃ v : Int, v = x1 + 1 * (ms.n : Int) := ⟨_, rfl⟩
  obtain ⟨IM, hIM⟩ : ∃ r : Nat → RowT, r = fun (i : Nat) => mkRow (1 + 13 * (i : Int)) := ⟨_, rfl⟩
  obtain ⟨II, hII⟩ : ∃ r : Nat → Int, r = fun (i : Nat) => mkint (x1 + 1 * (i : Int)) := ⟨_, rfl⟩
  have hp2 : 0 ≤ x2 := by rw [hx2, hx1]; omega
  have kx := k_mopx s.mark 1 (by decide) s.rows.n (by omega) s.rows.g x1 hx1 IM (fun i => by rw [hIM])
  have ki := marks_int x1 ⟨by rw [hx1]; omega, by rw [hx1]; omega⟩ ms.n (by omega) ms.g x2 hx2 II (fun i => by rw [hII])
  have kg := k_tmarkn Qy hbdy
  have hh := helds_Tsk Qy hbdy
  have hneg : ∀ {A : Ar} (v : Int), 0 ≤ v → real = A → A.cmp .lss v 0 = true → False := fun v hv hA h => by subst hA; exact absurd (of_decide_eq_true h) (Int.not_lt.2 hv)
  have nx : ∀ {A : Ar}, real = A → A.bite (A.cmp .lss x2 0) true (A.bnot true) = true → False := fun hA h => by
    subst hA
    have h : (bif decide (x2 < 0) then true else !true) = true := h
    rw [decide_eq_false (Int.not_lt.2 hp2)] at h
    cases h
  repeat' first
    | apply And.intro
    | exact True.intro
    | with_reducible rfl
    | exact same_of hA rfl
    | refine br_of hA (fun _ => ?_) (fun _ => ?_)
    | exact imp_of hA id
    | (refine imp_of hA ?_; subst hA; simp only [real, Bool.true_and]; exact id)
    | (refine ind_of hA ?_; decide +kernel)
    | (refine call_of hA hM _ (to_Job j) ?_; cbv)
    | (refine call_of hA hM _ hto ?_; cbv)
    | (refine call_of hA hM _ hti ?_; cbv)
    | (refine call_of2 hA hM _ hS (by (subst hA; first | rfl | (simp only [sub0r]; done) | (simp only [sub0r]; rfl))) ?_; cbv)
    | (subst hA; exact flatR fun _ => flat_Row _)
    | (subst hA; exact flatR fun _ => flat_Pane _)
    | (subst hA; exact flatR fun _ => flat_Lat _)
    | (subst hA; exact flatR fun _ => flat_int _)
    | fail
  refine stop_of hA ⟨[(2, .c (.d (.sl 1 ms.n fun i => [eI (ms.g i)]))), (3, .c (.bp 192 1 0)), (4, .c (.bp 256 1 0)), (8, .c (.bp 512 1 0))], [(192, 1, .box [.d (eI j.srcs), .d (eI j.tsks), .d (eI j.kind), .d (eI j.size), .d (eI j.step), .d (eI j.late), .d (eI j.tell), .d (eB j.piece), .d (eI j.least), .d (eI j.room)]), (256, 1, .box ((eOpSt s).map .d)), (512, 1, .box ((eTsk y).map .d))]⟩ (cov_of ?_ ?_ ?_) ?_
  · (subst hA; (repeat' first | exact True.intro | exact rfl | apply And.intro | (intro _ _; first | rfl | trivial) | (intro _ _ _; rfl)))
  · (subst hA; (repeat' first | exact True.intro | exact rfl | apply And.intro | (intro _ _; first | rfl | trivial) | (intro _ _ _; rfl)))
  · (subst hA; (repeat' first | exact True.intro | exact rfl | apply And.intro | (intro _ _; first | rfl | trivial) | (intro _ _ _; rfl) | exact .inl rfl | exact .inr (le_of_nble rfl)))
  cbv
  repeat' first
    | exact (hneg Qy.k4 Qy.b4.1 hA (by assumption)).elim
    | exact (nx hA (by assumption)).elim
    | apply And.intro
    | exact True.intro
    | with_reducible rfl
    | exact same_of hA rfl
    | refine br_of hA (fun _ => ?_) (fun _ => ?_)
    | exact imp_of hA id
    | (refine imp_of hA ?_; subst hA; simp only [real, Bool.true_and]; exact id)
    | (refine ind_of hA ?_; decide +kernel)
    | (refine call_of hA hM _ (to_Job j) ?_; cbv)
    | (refine call_of hA hM _ hto ?_; cbv)
    | (refine call_of hA hM _ hti ?_; cbv)
    | (subst hA; exact flatR fun _ => flat_Row _)
    | (subst hA; exact flatR fun _ => flat_Pane _)
    | (subst hA; exact flatR fun _ => flat_Lat _)
    | (subst hA; exact flatR fun _ => flat_int _)
    | (refine call_of2 hA hM _ hI (by (subst hA; first | rfl | (simp only [sub0r]; done) | (simp only [sub0r]; rfl))) ?_; cbv)
    | (refine call_of2 hA hM _ (eq_Tsk y) (by (subst hA; first | rfl | (simp only [sub0r]; done) | (simp only [sub0r]; rfl))) ?_; cbv)
    | (refine call_of2 hA hM _ (eq_OpSt s) (by (subst hA; first | rfl | (simp only [sub0r]; done) | (simp only [sub0r]; rfl))) ?_; cbv)
    | (refine call_of2 hA hM _ (eq_IntS ms.n ms.hn ms.g) (by (subst hA; first | rfl | (simp only [sub0r]; done) | (simp only [sub0r]; rfl))) ?_; cbv)
    | (exfalso; rename_i h; subst hA; simp [real] at h; done)
    | fail
  refine stop_of hA ⟨[(2, .c (.d (.sl 1 ms.n fun i => [eI (ms.g i)]))), (3, .c (.bp 192 1 0)), (4, .c (.bp 256 1 0)), (8, .c (.bp 512 1 0)), (9, .c (.bp 576 1 0)), (10, .c (.own 2176 0 ms.n 1)), (11, .c (.bp 704 1 0))], [(192, 1, .box [.d (eI j.srcs), .d (eI j.tsks), .d (eI j.kind), .d (eI j.size), .d (eI j.step), .d (eI j.late), .d (eI j.tell), .d (eB j.piece), .d (eI j.least), .d (eI j.room)]), (256, 1, .box ((eOpSt s).map .d)), (512, 1, .box ((eTsk y).map .d)), (576, 1, .box [.d (eI s.mark), .own 2049 0 s.rows.n 1]), (2049, 1, .arr 13 s.rows.n fun i => eRow (s.rows.g i)), (2176, 1, .arr 1 ms.n fun i => [eI (ms.g i)]), (704, 1, .box [.nown 2496 y.ins.n 1, .d (eI y.op.mark), .own 2498 0 y.op.rows.n 1, .d (eI y.wall), .d (eI y.pend.n), .own 2501 0 y.pend.panes.n 1, .own 2502 0 y.pend.lates.n 1]), (2496, 1, .nest 3 y.ins.n (fun i => eTskIn (y.ins.g i)) none), (2498, 1, .arr 13 y.op.rows.n fun i => eRow (y.op.rows.g i)), (2501, 1, .arr 9 y.pend.panes.n fun i => ePane (y.pend.panes.g i)), (2502, 1, .arr 7 y.pend.lates.n fun i => eLat (y.pend.lates.g i))]⟩ (cov_of ?_ ?_ ?_) ?_
  · (subst hA; (repeat' first | exact True.intro | exact rfl | apply And.intro | (intro _ _; first | rfl | trivial) | (intro _ _ _; rfl)))
  · (subst hA; (repeat' first | exact True.intro | exact rfl | apply And.intro | (intro _ _; first | rfl | trivial) | (intro _ _ _; rfl)))
  · (subst hA; (repeat' first | exact True.intro | exact rfl | apply And.intro | (intro _ _; first | rfl | trivial) | (intro _ _ _; rfl) | exact .inl rfl | exact .inr (le_of_nble rfl)))
  cbv
  repeat' first
    | exact (hneg Qy.k4 Qy.b4.1 hA (by assumption)).elim
    | exact (nx hA (by assumption)).elim
    | apply And.intro
    | exact True.intro
    | with_reducible rfl
    | exact same_of hA rfl
    | refine br_of hA (fun _ => ?_) (fun _ => ?_)
    | exact imp_of hA id
    | (refine imp_of hA ?_; subst hA; simp only [real, Bool.true_and]; exact id)
    | (refine ind_of hA ?_; decide +kernel)
    | (refine call_of hA hM _ (to_Job j) ?_; cbv)
    | (refine call_of hA hM _ hto ?_; cbv)
    | (refine call_of hA hM _ hti ?_; cbv)
    | (subst hA; exact flatR fun _ => flat_Row _)
    | (subst hA; exact flatR fun _ => flat_Pane _)
    | (subst hA; exact flatR fun _ => flat_Lat _)
    | (subst hA; exact flatR fun _ => flat_int _)
    | (refine call_of2 hA hM _ (eq_Tsk y) (by (subst hA; first | rfl | (simp only [sub0r]; done) | (simp only [sub0r]; rfl))) ?_; cbv)
    | (refine call_of2 hA hM _ (eq_OpSt s) (by (subst hA; first | rfl | (simp only [sub0r]; done) | (simp only [sub0r]; rfl))) ?_; cbv)
    | (refine call_of2 hA hM _ (eq_IntS ms.n ms.hn ms.g) (by (subst hA; first | rfl | (simp only [sub0r]; done) | (simp only [sub0r]; rfl))) ?_; cbv)
    | (exfalso; rename_i h; subst hA; simp [real] at h; done)
    | fail
  refine stop_of hA ⟨[(12, .c (.d (eI 1))), (2, .c (.d (.sl 1 ms.n fun i => [eI (ms.g i)]))), (3, .c (.bp 192 1 0)), (4, .c (.bp 256 1 0)), (8, .c (.bp 512 1 0)), (9, .c (.bp 576 1 0)), (10, .c (.own 2176 0 ms.n 1)), (11, .c (.bp 704 1 0))], [(192, 1, .box [.d (eI j.srcs), .d (eI j.tsks), .d (eI j.kind), .d (eI j.size), .d (eI j.step), .d (eI j.late), .d (eI j.tell), .d (eB j.piece), .d (eI j.least), .d (eI j.room)]), (256, 1, .box ((eOpSt s).map .d)), (512, 1, .box ((eTsk y).map .d)), (576, 1, .box [.d (eI s.mark), .own 2049 0 s.rows.n 1]), (2049, 1, .arr 13 s.rows.n fun i => eRow (s.rows.g i)), (2176, 1, .arr 1 ms.n fun i => [eI (ms.g i)]), (704, 1, .box [.nown 2496 y.ins.n 1, .d (eI y.op.mark), .own 2498 0 y.op.rows.n 1, .d (eI y.wall), .d (eI y.pend.n), .own 2501 0 y.pend.panes.n 1, .own 2502 0 y.pend.lates.n 1]), (2496, 1, .nest 3 y.ins.n (fun i => eTskIn (y.ins.g i)) none), (2498, 1, .arr 13 y.op.rows.n fun i => eRow (y.op.rows.g i)), (2501, 1, .arr 9 y.pend.panes.n fun i => ePane (y.pend.panes.g i)), (2502, 1, .arr 7 y.pend.lates.n fun i => eLat (y.pend.lates.g i))]⟩ (cov_of ?_ ?_ ?_) ?_
  · (subst hA; (repeat' first | exact True.intro | exact rfl | apply And.intro | (intro _ _; first | rfl | trivial) | (intro _ _ _; rfl)))
  · (subst hA; (repeat' first | exact True.intro | exact rfl | apply And.intro | (intro _ _; first | rfl | trivial) | (intro _ _ _; rfl)))
  · (subst hA; (repeat' first | exact True.intro | exact rfl | apply And.intro | (intro _ _; first | rfl | trivial) | (intro _ _ _; rfl) | exact .inl rfl | exact .inr (le_of_nble rfl)))
  cbv
  repeat' first
    | exact (hneg Qy.k4 Qy.b4.1 hA (by assumption)).elim
    | exact (nx hA (by assumption)).elim
    | apply And.intro
    | exact True.intro
    | with_reducible rfl
    | exact same_of hA rfl
    | refine br_of hA (fun _ => ?_) (fun _ => ?_)
    | exact imp_of hA id
    | (refine imp_of hA ?_; subst hA; simp only [real, Bool.true_and]; exact id)
    | (refine ind_of hA ?_; decide +kernel)
    | (refine call_of hA hM _ (to_Job j) ?_; cbv)
    | (refine call_of hA hM _ hto ?_; cbv)
    | (refine call_of hA hM _ hti ?_; cbv)
    | (refine call_of hA hM _ ki ?_; cbv)
    | (subst hA; exact flatR fun _ => flat_Row _)
    | (subst hA; exact flatR fun _ => flat_Pane _)
    | (subst hA; exact flatR fun _ => flat_Lat _)
    | (subst hA; exact flatR fun _ => flat_int _)
    | (refine inl_call hA _ _ _ ⟨fun _ => (by rw [← hM]; exact kx), (by cbv; repeat' first | apply And.intro | exact True.intro | rfl | exact .inr trivial | exact .inl trivial), ?_⟩; cbv)
    | (refine call_of2 hA hM _ (eq_Tsk y) (by (subst hA; first | rfl | (simp only [sub0r]; done) | (simp only [sub0r]; rfl))) ?_; cbv)
    | (refine call_of2 hA hM _ (eq_OpSt s) (by (subst hA; first | rfl | (simp only [sub0r]; done) | (simp only [sub0r]; rfl))) ?_; cbv)
    | (refine call_of2 hA hM _ (eq_IntS ms.n ms.hn ms.g) (by (subst hA; first | rfl | (simp only [sub0r]; done) | (simp only [sub0r]; rfl))) ?_; cbv)
    | (exfalso; rename_i h; subst hA; simp [real] at h; done)
    | fail
  refine stop_of hA ⟨[(13, .c (.d (eI 1))), (2, .c (.d (.sl 1 ms.n fun i => [eI (ms.g i)]))), (3, .c (.bp 192 1 0)), (4, .c (.bp 256 1 0)), (8, .c (.bp 512 1 0)), (11, .c (.bp 704 1 0))], [(192, 1, .box [.d (eI j.srcs), .d (eI j.tsks), .d (eI j.kind), .d (eI j.size), .d (eI j.step), .d (eI j.late), .d (eI j.tell), .d (eB j.piece), .d (eI j.least), .d (eI j.room)]), (256, 1, .box ((eOpSt s).map .d)), (512, 1, .box ((eTsk y).map .d)), (704, 1, .box [.nown 2496 y.ins.n 1, .d (eI y.op.mark), .own 2498 0 y.op.rows.n 1, .d (eI y.wall), .d (eI y.pend.n), .own 2501 0 y.pend.panes.n 1, .own 2502 0 y.pend.lates.n 1]), (2496, 1, .nest 3 y.ins.n (fun i => eTskIn (y.ins.g i)) none), (2498, 1, .arr 13 y.op.rows.n fun i => eRow (y.op.rows.g i)), (2501, 1, .arr 9 y.pend.panes.n fun i => ePane (y.pend.panes.g i)), (2502, 1, .arr 7 y.pend.lates.n fun i => eLat (y.pend.lates.g i))]⟩ (cov_of ?_ ?_ ?_) ?_
  · (subst hA; (repeat' first | exact True.intro | exact rfl | apply And.intro | (intro _ _; first | rfl | trivial) | (intro _ _ _; rfl)))
  · (subst hA; (repeat' first | exact True.intro | exact rfl | apply And.intro | (intro _ _; first | rfl | trivial) | (intro _ _ _; rfl)))
  · (subst hA; (repeat' first | exact True.intro | exact rfl | apply And.intro | (intro _ _; first | rfl | trivial) | (intro _ _ _; rfl) | exact .inl rfl | exact .inr (le_of_nble rfl)))
  cbv
  repeat' first
    | exact (hneg Qy.k4 Qy.b4.1 hA (by assumption)).elim
    | exact (nx hA (by assumption)).elim
    | apply And.intro
    | exact True.intro
    | with_reducible rfl
    | exact same_of hA rfl
    | refine br_of hA (fun _ => ?_) (fun _ => ?_)
    | exact imp_of hA id
    | (refine imp_of hA ?_; subst hA; simp only [real, Bool.true_and]; exact id)
    | (refine ind_of hA ?_; decide +kernel)
    | (refine call_of hA hM _ (to_Job j) ?_; cbv)
    | (refine call_of hA hM _ hto ?_; cbv)
    | (refine call_of hA hM _ hti ?_; cbv)
    | (subst hA; exact flatR fun _ => flat_Row _)
    | (subst hA; exact flatR fun _ => flat_Pane _)
    | (subst hA; exact flatR fun _ => flat_Lat _)
    | (subst hA; exact flatR fun _ => flat_int _)
    | (refine inl_call hA _ _ _ ⟨fun _ => (by rw [← hM]; exact kg), (by cbv; repeat' first | apply And.intro | exact True.intro | rfl | exact .inr trivial | exact .inl trivial), ?_⟩; cbv)
    | (refine call_of2 hA hM _ hh (by (subst hA; first | rfl | (simp only [sub0r]; done) | (simp only [sub0r]; rfl))) ?_; cbv)
    | (exfalso; rename_i h; subst hA; simp [real] at h; done)
    | fail
  refine stop_of hA ⟨[(2, .c (.d (.sl 1 ms.n fun i => [eI (ms.g i)]))), (3, .c (.bp 192 1 0)), (4, .c (.bp 256 1 0)), (8, .c (.bp 512 1 0)), (11, .c (.bp 704 1 0)), (13, .c (.d (eI Qy.k4)))], [(192, 1, .box [.d (eI j.srcs), .d (eI j.tsks), .d (eI j.kind), .d (eI j.size), .d (eI j.step), .d (eI j.late), .d (eI j.tell), .d (eB j.piece), .d (eI j.least), .d (eI j.room)]), (256, 1, .box ((eOpSt s).map .d)), (512, 1, .box ((eTsk y).map .d)), (704, 1, .box [.nown 2496 y.ins.n 1, .d (eI y.op.mark), .own 2498 0 y.op.rows.n 1, .d (eI y.wall), .d (eI y.pend.n), .own 2501 0 y.pend.panes.n 1, .own 2502 0 y.pend.lates.n 1]), (2496, 1, .nest 3 y.ins.n (fun i => eTskIn (Qy.f1 i)) none), (2498, 1, .arr 13 y.op.rows.n fun i => eRow (Qy.f2 i)), (2501, 1, .arr 9 y.pend.panes.n fun i => ePane (Qy.f3 i)), (2502, 1, .arr 7 y.pend.lates.n fun i => eLat (Qy.f4 i))]⟩ (cov_of ?_ ?_ ?_) ?_
  · (subst hA; (repeat' first | exact True.intro | exact rfl | apply And.intro | (intro _ _; first | rfl | trivial) | (intro _ _ _; rfl)))
  · (subst hA; (repeat' first | exact True.intro | exact rfl | apply And.intro | (intro _ _; first | rfl | trivial) | (intro _ _ _; rfl)))
  · (subst hA; (repeat' first | exact True.intro | exact rfl | apply And.intro | (intro _ _; first | rfl | trivial) | (intro _ _ _; rfl) | exact .inl rfl | exact .inr (le_of_nble rfl)))
  cbv
  repeat' first
    | exact (hneg Qy.k4 Qy.b4.1 hA (by assumption)).elim
    | exact (nx hA (by assumption)).elim
    | apply And.intro
    | exact True.intro
    | with_reducible rfl
    | exact same_of hA rfl
    | refine br_of hA (fun _ => ?_) (fun _ => ?_)
    | exact imp_of hA id
    | (refine imp_of hA ?_; subst hA; simp only [real, Bool.true_and]; exact id)
    | (refine ind_of hA ?_; decide +kernel)
    | (refine call_of hA hM _ (to_Job j) ?_; cbv)
    | (refine call_of hA hM _ hto ?_; cbv)
    | (refine call_of hA hM _ hti ?_; cbv)
    | (subst hA; exact flatR fun _ => flat_Row _)
    | (subst hA; exact flatR fun _ => flat_Pane _)
    | (subst hA; exact flatR fun _ => flat_Lat _)
    | (subst hA; exact flatR fun _ => flat_int _)
    | (refine call_of2 hA hM _ hI (by (subst hA; first | rfl | (simp only [sub0r]; done) | (simp only [sub0r]; rfl))) ?_; cbv)
    | (refine call_of2 hA hM _ (eq_Tsk y) (by (subst hA; first | rfl | (simp only [sub0r]; done) | (simp only [sub0r]; rfl))) ?_; cbv)
    | (refine call_of2 hA hM _ (eq_OpSt s) (by (subst hA; first | rfl | (simp only [sub0r]; done) | (simp only [sub0r]; rfl))) ?_; cbv)
    | (refine call_of2 hA hM _ (eq_IntS ms.n ms.hn ms.g) (by (subst hA; first | rfl | (simp only [sub0r]; done) | (simp only [sub0r]; rfl))) ?_; cbv)
    | (refine call_of2 hA hM _ hh (by (subst hA; first | rfl | (simp only [sub0r]; done) | (simp only [sub0r]; rfl))) ?_; cbv)
    | (exfalso; rename_i h; subst hA; simp [real] at h; done)
    | fail
  all_goals trace_state
end Go.Rk
