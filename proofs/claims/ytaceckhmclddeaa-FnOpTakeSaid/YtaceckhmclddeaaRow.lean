/- The walk over this seat's functions, part 11: what each of them answers, at all data. -/
import Derived.Test.YtaceckhmclddeaaM1
import Derived.Test.YtaceckhmclddeaaM2
import Derived.Test.YtaceckhmclddeaaM3
import Derived.Test.YtaceckhmclddeaaM4
import Derived.Test.YtaceckhmclddeaaM5
import Derived.Test.YtaceckhmclddeaaM6
import Derived.Test.YtaceckhmclddeaaM7
import Derived.Test.YtaceckhmclddeaaM8
import Derived.Test.YtaceckhmclddeaaM9
import Derived.Test.YtaceckhmclddeaaM10
import Derived.Test.YtaceckhmclddeaaRows
import Derived.WalkKit
import Derived.ProofKit
import Derived.OpenShut
import Derived.ShutString
import Derived.ChangeOld
import Derived.SizedLaws
import Derived.DataShut
/- FnOpTake answers true at every input, and its input reads as before: no condition. -/
namespace Go.Rk
set_option linter.unusedSimpArgs false
set_option linter.unusedVariables false
open Go.Proofs Go.ChangeShapes Go.WideShapes Go.ChangeAt Go.RowKit
set_option maxRecDepth 100000
set_option maxHeartbeats 2000000
def st_t1 (j : JobT) (s : OpStT) (m : ItmT) (mk : Int) (k : Nat) (G : Nat → RowT) (c : Nat) (P : Nat → PaneT) (d : Nat) (W : Nat → WinT) (nw : Nat) (wn : Nat → WinT) (i : Nat) (q : Int) : St := ⟨[(14, .c (.d (eI i))), (13, .c (.d (eI q))), (12, .c (.d (.sl 2 nw fun i => eWin (wn i)))), (8, .c (.d (.sl 7 d fun i => eLat ⟨m, W i⟩))), (7, .c (.d (.sl 9 c fun i => ePane (P i)))), (6, .c (.bp 384 1 0)), (5, .c (.bp 320 1 0)), (4, .c (.bp 256 1 0)), (3, .c (.bp 192 1 0))], [(384, 1, .box [.d (eI mk), .d (.sl 13 k fun i => eRow (G i))]), (320, 1, .box ((eItm m).map .d)), (256, 1, .box [.d (eI s.mark), .d (.sl 13 s.rows.n fun i => eRow (s.rows.g i))]), (192, 1, .box ((eJob j).map .d))]⟩
def st_t2 (j : JobT) (s : OpStT) (m : ItmT) (mk : Int) (k : Nat) (G : Nat → RowT) (c : Nat) (P : Nat → PaneT) (d : Nat) (W : Nat → WinT) (nw : Nat) (wn : Nat → WinT) (i : Nat) (q : Int) : St := ⟨[(15, .c (.d (eI i))), (13, .c (.d (eI q))), (12, .c (.d (.sl 2 nw fun i => eWin (wn i)))), (8, .c (.d (.sl 7 d fun i => eLat ⟨m, W i⟩))), (7, .c (.d (.sl 9 c fun i => ePane (P i)))), (6, .c (.bp 384 1 0)), (5, .c (.bp 320 1 0)), (4, .c (.bp 256 1 0)), (3, .c (.bp 192 1 0))], [(384, 1, .box [.d (eI mk), .d (.sl 13 k fun i => eRow (G i))]), (320, 1, .box ((eItm m).map .d)), (256, 1, .box [.d (eI s.mark), .d (.sl 13 s.rows.n fun i => eRow (s.rows.g i))]), (192, 1, .box ((eJob j).map .d))]⟩
def st_t3 (j : JobT) (s : OpStT) (m : ItmT) (mk : Int) (k : Nat) (G : Nat → RowT) (c : Nat) (P : Nat → PaneT) (d : Nat) (W : Nat → WinT) (nw : Nat) (wn : Nat → WinT) (i : Nat) (q : Int) : St := ⟨[(16, .c (.d (eI i))), (13, .c (.d (eI q))), (12, .c (.d (.sl 2 nw fun i => eWin (wn i)))), (8, .c (.d (.sl 7 d fun i => eLat ⟨m, W i⟩))), (7, .c (.d (.sl 9 c fun i => ePane (P i)))), (6, .c (.bp 384 1 0)), (5, .c (.bp 320 1 0)), (4, .c (.bp 256 1 0)), (3, .c (.bp 192 1 0))], [(384, 1, .box [.d (eI mk), .d (.sl 13 k fun i => eRow (G i))]), (320, 1, .box ((eItm m).map .d)), (256, 1, .box [.d (eI s.mark), .d (.sl 13 s.rows.n fun i => eRow (s.rows.g i))]), (192, 1, .box ((eJob j).map .d))]⟩
theorem m_law (M0 : Nat) (b : Nat → Int) (hb : ∀ i, 0 ≤ b i ∧ b i ≤ 255) : Meets Try.prog 12 [.c (.d (.sl 1 M0 fun i => [eU (b i)]))] ⟨.one (.c (.d (eB true))), [none]⟩ := by
  refine meets_of (H := []) (EX := EXA) ttok mixed Try.func12 rfl (by kernel_rfl) (by decide) ?_
  generalize hA : real = A
  generalize hM : MeetsB Try.prog = M
  cbv
  repeat' first
    | apply And.intro
    | exact True.intro
    | with_reducible rfl
    | exact same_of hA rfl
    | refine br_of hA (fun _ => ?_) (fun _ => ?_)
    | exact imp_of hA id
    | (refine imp_of hA ?_; subst hA; simp only [real, Bool.true_and]; exact id)
    | (refine ind_of hA ?_; decide +kernel)
    | (refine call_ex hA hM (x_drawTake M0 b hb) ?_; rintro ⟨j, s, m⟩ hs; dsimp only at hs; cbv)
  have hs : s.rows.n ≤ 261 := hs
  obtain ⟨x, hx⟩ : ∃ x, x = opTakeL j s m := ⟨_, rfl⟩
  obtain ⟨k, G, c, P, d, W, hG, hP, hQ, hks, hcs, hds, hz, hsum, hlate, hsame⟩ := take_told j s m x hx (by omega)
  have hsL : s.rows.n ≤ maxLen := s.rows.hn
  have hkL : k ≤ maxLen := Nat.le_trans hks (by decide)
  have hdL : d ≤ maxLen := Nat.le_trans hds (by decide)
  have hI : Meets Try.prog 48 [xd (eJob j), .agg [.d (eI s.mark), .d (.sl 13 s.rows.n fun i => eRow (s.rows.g i))], xd (eItm m)] ⟨.tup [.agg [.d (eI x.1), .d (.sl 13 k fun i => eRow (G i))], .c (.d (.sl 9 c fun i => ePane (P i))), .c (.d (.sl 7 d fun i => eLat ⟨m, W i⟩))], [none, none, none]⟩ := meets_frz (c_OpTake j s (by omega) m x hx k G hG c P hP d _ hQ) rfl
  have hS : Meets Try.prog 49 [xd (eJob j), .agg [.d (eI s.mark), .d (.sl 13 s.rows.n fun i => eRow (s.rows.g i))], xd (eItm m)] ⟨.tup [.agg [.d (eI x.1), .d (.sl 13 k fun i => eRow (G i))], .c (.d (.sl 9 c fun i => ePane (P i))), .c (.d (.sl 7 d fun i => eLat ⟨m, W i⟩))], [none, none, none]⟩ := c_sOpTake j s (by omega) m x hx k G hG c P hP d _ hQ
  have hF := c_frOp x.1 k hkL G
  have hPn := c_frPanes c (Nat.le_trans hcs (by decide)) P
  have hL := c_frLates d hdL fun i => ⟨m, W i⟩
  obtain ⟨bo, hbo, hO⟩ := c_sOpOk j s
  obtain ⟨bi, hbi, hItm⟩ := c_sItmOkP m
  have hbad : ∀ {A : Ar}, real = A → A.bite (A.bite (A.bnot bo) true (A.cmp .neq m.kind 1)) true (A.bnot bi) = true → ¬ (OpOkP j s ∧ RecP m) := fun hA h hn => by
    subst hA
    have h : (bif (bif (!bo) then true else (m.kind != 1)) then true else (!bi)) = true := h
    rw [hbo.2 hn.1, hbi.2 hn.2.2, hn.2.1] at h
    cases h
  have hgood : ∀ {A : Ar}, real = A → A.bite (A.bite (A.bnot bo) true (A.cmp .neq m.kind 1)) true (A.bnot bi) = false → OpOkP j s ∧ RecP m := fun hA h => by
    subst hA
    have h : (bif (bif (!bo) then true else (m.kind != 1)) then true else (!bi)) = false := h
    cases h1 : bo with
    | false => rw [h1] at h; cases h
    | true =>
      rw [h1] at h
      cases h2 : (m.kind != 1) with
      | true => rw [h2] at h; cases h
      | false =>
        rw [h2] at h
        cases h3 : bi with
        | false => rw [h3] at h; cases h
        | true => exact ⟨hbo.1 h1, by simpa using h2, hbi.1 h3⟩
  repeat' first
    | apply And.intro
    | exact True.intro
    | with_reducible rfl
    | exact same_of hA rfl
    | refine br_of hA (fun _ => ?_) (fun _ => ?_)
    | exact imp_of hA id
    | (refine imp_of hA ?_; subst hA; simp only [real, Bool.true_and]; exact id)
    | (refine ind_of hA ?_; decide +kernel)
    | (refine call_of hA hM _ hI ?_; cbv)
    | (refine call_of hA hM _ hS ?_; cbv)
    | (refine call_of hA hM _ hF ?_; cbv)
    | (refine call_of hA hM _ hPn ?_; cbv)
    | (refine call_of hA hM _ hL ?_; cbv)
    | (refine call_of hA hM _ hO ?_; cbv)
    | (refine call_of hA hM _ hItm ?_; cbv)
    | (refine call_of hA hM _ c_frOk ?_; cbv)
    | (exfalso; rename_i h; subst hA; simp [real] at h; done)
    | (obtain ⟨e1, e2⟩ := hz (hbad hA (by assumption)); refine call_of2 hA hM _ (c_frOp0 G) ?_ ?_; (focus (show [XT.agg [XV.d (eI x.1), XV.d (DV.sl 13 k fun i => eRow (G i))], XT.agg [XV.d (eI 0), XV.d (DV.v nilS)]] = _; rw [e1, e2])); cbv)
    | (focus (subst hA; exact rfl))
  obtain ⟨hok, hr⟩ := hgood hA (by assumption)
  obtain ⟨nw, hnw⟩ : ∃ nw, nw = (winsL j m.t).length := ⟨_, rfl⟩
  have hnw2 : nw ≤ 100 := by rw [hnw]; exact winsL_len j m.t
  have hsum := hsum hok hr
  have hsame := hsame hok hr
  rw [← hnw] at hsum hsame
  obtain ⟨wn, hwn⟩ : ∃ wn : Nat → WinT, wn = fun i => (winsL j m.t).getD i zWin := ⟨_, rfl⟩
  have hW := meets_frz (c_WinOf j m.t hok.1 (recP_t hr) nw wn ⟨hnw, fun _ _ => by rw [hwn]⟩) rfl
  repeat' first
    | apply And.intro
    | exact True.intro
    | with_reducible rfl
    | exact same_of hA rfl
    | refine br_of hA (fun _ => ?_) (fun _ => ?_)
    | exact imp_of hA id
    | (refine imp_of hA ?_; subst hA; simp only [real, Bool.true_and]; exact id)
    | (refine ind_of hA ?_; decide +kernel)
    | (refine call_of hA hM _ hW ?_; cbv)
  refine loop_of hA (α := { y : Nat × Int // y.1 ≤ s.rows.n ∧ y.2 = IntKind.i64.wrap ((nw : Int) - (d : Int) + preN s.rows.g y.1) }) (fun y => st_t1 j s m x.1 k G c P d W nw wn y.1.1 y.1.2) (fun y => s.rows.n - y.1.1) ⟨(0, IntKind.i64.wrap ((nw : Int) - (d : Int))), Nat.zero_le _, pre_add _ _⟩ ?_ ?_
  · refine cov_of ?_ ?_ ?_
    · (subst hA; (repeat' first | exact True.intro | exact rfl | apply And.intro))
    · (subst hA; (repeat' first | exact True.intro | exact rfl | apply And.intro | (intro _ _; first | rfl | trivial)))
    · (subst hA; (repeat' first | exact True.intro | exact rfl | apply And.intro | exact .inl rfl | exact .inr (le_of_nble rfl)))
  rintro ⟨⟨i, q⟩, hi, hq⟩
  have hi : i ≤ s.rows.n := hi
  have hq : q = IntKind.i64.wrap ((nw : Int) - (d : Int) + preN s.rows.g i) := hq
  cbv
  repeat' first
    | apply And.intro
    | exact True.intro
    | with_reducible rfl
    | exact same_of hA rfl
    | refine br_of hA (fun _ => ?_) (fun _ => ?_)
    | exact imp_of hA id
    | (refine imp_of hA ?_; subst hA; simp only [real, Bool.true_and]; exact id)
    | (refine ind_of hA ?_; decide +kernel)
    | (refine inb_lt hA ?_; first | exact lt2_of hA (by assumption) | exact lt_of hA (by assumption))
  · rename_i hlt
    have hlt' : i < s.rows.n := by first | exact lt2_of hA hlt | exact lt_of hA hlt
    obtain ⟨q2, hq2⟩ : ∃ v : Int, v = IntKind.i64.wrap (q + (s.rows.g i).all.n) := ⟨_, rfl⟩
    refine ⟨⟨(i + 1, q2), hlt', ?_⟩, by simp only; omega, cov_of ?_ ?_ ?_⟩
    · show q2 = IntKind.i64.wrap ((nw : Int) - (d : Int) + preN s.rows.g (i + 1))
      rw [hq2, hq, w64_add, preN_succ]
      rw [Int.add_assoc]
    · (subst hA; (repeat' first | exact True.intro | exact rfl | exact congrArg (fun x => DV.v (.int .i64 x)) (up64 hlt' hsL) | exact congrArg (fun x => DV.v (.int .i64 x)) hq2.symm | apply And.intro))
    · (subst hA; (repeat' first | exact True.intro | exact rfl | apply And.intro | (intro _ _; first | rfl | trivial)))
    · (subst hA; (repeat' first | exact True.intro | exact rfl | apply And.intro | exact .inl rfl | exact .inr (le_of_nble rfl)))
  rename_i hge
  have hni : s.rows.n ≤ i := by first | exact ge2_of hA hge | exact ge_of hA hge
  have hin : i = s.rows.n := Nat.le_antisymm hi hni
  refine loop_of hA (α := { y : Nat × Int // y.1 ≤ k ∧ y.2 = IntKind.i64.wrap ((nw : Int) - (d : Int) + preN s.rows.g s.rows.n - preN G y.1) }) (fun y => st_t2 j s m x.1 k G c P d W nw wn y.1.1 y.1.2) (fun y => k - y.1.1) ⟨(0, q), Nat.zero_le _, (hq.trans (by rw [hin]; exact pre_sub _ _))⟩ ?_ ?_
  · refine cov_of ?_ ?_ ?_
    · (subst hA; (repeat' first | exact True.intro | exact rfl | apply And.intro))
    · (subst hA; (repeat' first | exact True.intro | exact rfl | apply And.intro | (intro _ _; first | rfl | trivial)))
    · (subst hA; (repeat' first | exact True.intro | exact rfl | apply And.intro | exact .inl rfl | exact .inr (le_of_nble rfl)))
  rintro ⟨⟨i, q⟩, hi, hq⟩
  have hi : i ≤ k := hi
  have hq : q = IntKind.i64.wrap ((nw : Int) - (d : Int) + preN s.rows.g s.rows.n - preN G i) := hq
  cbv
  repeat' first
    | apply And.intro
    | exact True.intro
    | with_reducible rfl
    | exact same_of hA rfl
    | refine br_of hA (fun _ => ?_) (fun _ => ?_)
    | exact imp_of hA id
    | (refine imp_of hA ?_; subst hA; simp only [real, Bool.true_and]; exact id)
    | (refine ind_of hA ?_; decide +kernel)
    | (refine inb_lt hA ?_; first | exact lt2_of hA (by assumption) | exact lt_of hA (by assumption))
  · rename_i hlt
    have hlt' : i < k := by first | exact lt2_of hA hlt | exact lt_of hA hlt
    obtain ⟨q2, hq2⟩ : ∃ v : Int, v = IntKind.i64.wrap (q - (G i).all.n) := ⟨_, rfl⟩
    refine ⟨⟨(i + 1, q2), hlt', ?_⟩, by simp only; omega, cov_of ?_ ?_ ?_⟩
    · show q2 = IntKind.i64.wrap ((nw : Int) - (d : Int) + preN s.rows.g s.rows.n - preN G (i + 1))
      rw [hq2, hq, w64_sub, preN_succ]
      rw [Int.sub_sub]
    · (subst hA; (repeat' first | exact True.intro | exact rfl | exact congrArg (fun x => DV.v (.int .i64 x)) (up64 hlt' hkL) | exact congrArg (fun x => DV.v (.int .i64 x)) hq2.symm | apply And.intro))
    · (subst hA; (repeat' first | exact True.intro | exact rfl | apply And.intro | (intro _ _; first | rfl | trivial)))
    · (subst hA; (repeat' first | exact True.intro | exact rfl | apply And.intro | exact .inl rfl | exact .inr (le_of_nble rfl)))
  rename_i hge
  have hni : k ≤ i := by first | exact ge2_of hA hge | exact ge_of hA hge
  have hin : i = k := Nat.le_antisymm hi hni
  have hq0 : q = 0 := by
    rw [hq, hin]
    have e : (nw : Int) - (d : Int) + preN s.rows.g s.rows.n - preN G k = 0 := sum_zero hsum
    rw [e]; rfl
  clear hq
  subst hq0
  refine loop_of hA (α := { i : Nat // i ≤ d }) (fun y => st_t3 j s m x.1 k G c P d W nw wn y.1 0) (fun y => d - y.1) ⟨0, Nat.zero_le _⟩ ?_ ?_
  · refine cov_of ?_ ?_ ?_
    · (subst hA; (repeat' first | exact True.intro | exact rfl | apply And.intro))
    · (subst hA; (repeat' first | exact True.intro | exact rfl | apply And.intro | (intro _ _; first | rfl | trivial)))
    · (subst hA; (repeat' first | exact True.intro | exact rfl | apply And.intro | exact .inl rfl | exact .inr (le_of_nble rfl)))
  rintro ⟨i, hi⟩
  have hi : i ≤ d := hi
  cbv
  repeat' first
    | apply And.intro
    | exact True.intro
    | with_reducible rfl
    | exact same_of hA rfl
    | refine br_of hA (fun _ => ?_) (fun _ => ?_)
    | exact imp_of hA id
    | (refine imp_of hA ?_; subst hA; simp only [real, Bool.true_and]; exact id)
    | (refine ind_of hA ?_; decide +kernel)
    | (refine inb_lt hA ?_; first | exact lt2_of hA (by assumption) | exact lt_of hA (by assumption))
  · exfalso
    rename_i hlt h
    have hlt' : i < d := by first | exact lt2_of hA hlt | exact lt_of hA hlt
    subst hA
    simp [real] at h
    have h9 : w64 ((W i).e + j.late) ≤ s.mark := hlate i hlt' h.1
    exact absurd h.2 (Int.not_lt.2 h9)
  · rename_i hlt h
    have hlt' : i < d := by first | exact lt2_of hA hlt | exact lt_of hA hlt
    refine ⟨⟨i + 1, hlt'⟩, by simp only; omega, cov_of ?_ ?_ ?_⟩
    · (subst hA; (repeat' first | exact True.intro | exact rfl | exact congrArg (fun x => DV.v (.int .i64 x)) (up64 hlt' hdL) | apply And.intro))
    · (subst hA; (repeat' first | exact True.intro | exact rfl | apply And.intro | (intro _ _; first | rfl | trivial)))
    · (subst hA; (repeat' first | exact True.intro | exact rfl | apply And.intro | exact .inl rfl | exact .inr (le_of_nble rfl)))
  rename_i hge
  have hFg : nw ≤ d → Meets Try.prog 24 [.agg [.d (eI x.1), .d (.sl 13 k fun i => eRow (G i))], .agg [.d (eI s.mark), .d (.sl 13 s.rows.n fun i => eRow (s.rows.g i))]] ⟨.one (.c (.d (eB true))), [none, none]⟩ := fun h => by
    obtain ⟨a1, a2, a3, a4⟩ := hsame h
    rw [a1, a2, a3]
    exact c_frOp s.mark s.rows.n hsL s.rows.g
  have hgd : ∀ {A : Ar}, real = A → A.band (A.cmp .eql 0 0) (A.bnot (A.cmp .lss (A.int d) (A.int nw))) = true → nw ≤ d := fun hA h => by
    subst hA
    have h : (((0 : Int) == 0) && !(decide ((d : Int) < (nw : Int)))) = true := h
    simp at h
    omega
  repeat' first
    | apply And.intro
    | exact True.intro
    | with_reducible rfl
    | exact same_of hA rfl
    | refine br_of hA (fun _ => ?_) (fun _ => ?_)
    | exact imp_of hA id
    | (refine imp_of hA ?_; subst hA; simp only [real, Bool.true_and]; exact id)
    | (refine ind_of hA ?_; decide +kernel)
    | (refine call_g (f := 24) hA hM ⟨.one (.c (.d (eB true))), [none, none]⟩ (fun hg => ?_) ?_; (focus (exact hFg (hgd hA hg))); cbv)
  all_goals
    subst hA
    refine congrArg (fun b => XA.one (.c (.d (eB b)))) ?_
    show (bif ((0 : Int) == 0) then (bif decide ((d : Int) < (nw : Int)) then true else (bif true then ((c : Int) == 0) else false)) else false) = true
    by_cases h : (d : Int) < (nw : Int)
    · rw [decide_eq_true h]; rfl
    · rw [decide_eq_false h, (hsame (by omega)).2.2.2]; rfl
theorem sh_u8 {m : Nat} {l : List DV} (h : Shows TT (m + 1) 5 l) : ∃ x : Int, (0 ≤ x ∧ x ≤ 255) ∧ l = [eU x] := by
  obtain ⟨x, h, hw⟩ := h
  have h2 : IntKind.u8.min ≤ x ∧ x ≤ IntKind.u8.max := (Go.Lit.wf_int_iff _ _).1 hw
  have e1 : IntKind.u8.min = 0 := by decide
  have e2 : IntKind.u8.max = 255 := by decide
  rw [e1, e2] at h2
  exact ⟨x, h2, h⟩
theorem sh_bytes {m : Nat} {l : List DV} (h : Shows TT (m + 2) 22 l) : ∃ (n : Nat) (b : Nat → Int), (∀ i, 0 ≤ b i ∧ b i ≤ 255) ∧ l = [.sl 1 n fun i => [eU (b i)]] := by
  obtain ⟨sz, n, row, rfl, hsz, hn, hr⟩ := h
  cases hsz
  have hrow : ∀ i, ∃ x : Int, (0 ≤ x ∧ x ≤ 255) ∧ row i = [eU x] := fun i => sh_u8 (hr i)
  obtain ⟨rd, hrd⟩ : ∃ rd : Nat → Int, ∀ i, (0 ≤ rd i ∧ rd i ≤ 255) ∧ row i = [eU (rd i)] := ⟨fun i => Classical.choose (hrow i), fun i => Classical.choose_spec (hrow i)⟩
  have e : row = fun i => [eU (rd i)] := funext fun i => (hrd i).2
  subst e
  exact ⟨n, rd, fun i => (hrd i).1, rfl⟩
theorem lawRow (ls : List (List DV)) (h : ShowsL TT 2 [22] ls) : Meets Try.prog 12 (xtsIn TT [22] ls) ⟨.one (.c (.d (.v (.bool true)))), [none]⟩ := by
  rcases ls with _ | ⟨l0, _ | ⟨l1, ls⟩⟩
  · exact h.elim
  · obtain ⟨n0, b0, hb0, rfl⟩ := sh_bytes h.1
    exact m_law n0 b0 hb0
  · exact h.2.elim
theorem own : ownKnob Try.prog.godebug = none := by kernel_rfl
theorem laidOut : laidOutB Try.prog = true := by kernel_rfl
set_option maxRecDepth 100000 in
theorem lifted (os : Os) (started : os.Started) (H : Type) (enc : TypeId × Value → H) :
    ReturnsInHanded {} Try.checked os 12 .any (Ytaceckhmclddeaa.Rows.fnOpTakeSpec.pre6 enc Try.prog Try.f12 Ytaceckhmclddeaa.Rows.fnOpTakeRow.domain false)
      (Ytaceckhmclddeaa.Rows.fnOpTakeSpec.post enc Try.prog Try.f12 false true false false) := by
  refine returnsInHanded_of_change_sized (C := Try.checked) own started (by kernel_rfl) Try.func12
    (ChangeSpec.witness6 (enc := enc) (C := Try.checked) false ⟨#[], #[.slice none 0 0], []⟩ 8 (by kernel_rfl) (by kernel_rfl) (by kernel_rfl) (by kernel_rfl)) ?_
  intro W base args ds gs before hval0 hW hcnd hsz0 _
  refine law_contract (P := Try.prog) (T := TT) ttok (n := 2) (tb := 4) laidOut (by decide +kernel) (by kernel_rfl) rfl Try.underlying4 rfl ?_ ?_ W base args ds gs before hval0 hW
  · intro H ds hl
    match ds, hl with
    | [d0], _ => exact ⟨rfl, rfl, rfl⟩
  · rw [Try.params12]
    intro ls hls
    exact lawRow ls hls
theorem over : Ytaceckhmclddeaa.Rows.fnOpTakeRow.holds Ytaceckhmclddeaa.Try.pinned (OpenSpec.ofChange Ytaceckhmclddeaa.Rows.fnOpTakeSpec) :=
  OpenClaim.holds_of_wide 12 Try.f12 rfl rfl rfl rfl rfl rfl rfl ⟨rfl, rfl, rfl, rfl, rfl⟩ rfl rfl rfl rfl rfl (by kernel_rfl) Try.func12 (by kernel_rfl)
    (of_decide_eq_true (by kernel_rfl)) (by unfold Func.isWrapper; first | (rw [if_pos (by decide +kernel)]; kernel_rfl) | (rw [if_neg (by decide +kernel)]; exact ⟨rfl, rfl⟩))
    (fun os started H enc _ => lifted os started H enc)
end Go.Rk
namespace Go.Proofs.Ytaceckhmclddeaa
theorem fnOpTake_holds : Rows.FnOpTakeSaid := Go.Rk.over
#print axioms fnOpTake_holds
end Go.Proofs.Ytaceckhmclddeaa
