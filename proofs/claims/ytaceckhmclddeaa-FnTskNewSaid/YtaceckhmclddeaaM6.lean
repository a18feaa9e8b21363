/- The walk over this seat's functions, part 6: what each of them answers, at all data. -/
import Derived.Test.YtaceckhmclddeaaM1
import Derived.Test.YtaceckhmclddeaaM2
import Derived.Test.YtaceckhmclddeaaM3
import Derived.Test.YtaceckhmclddeaaM4
import Derived.Test.YtaceckhmclddeaaM5
import Derived.Shelf.Spec.SlicesInsertGrow
/- A record, as the reference takes it. -/
namespace Go.Rk
set_option linter.unusedSimpArgs false
set_option linter.unusedVariables false
open Go.Proofs
set_option maxRecDepth 100000
set_option maxHeartbeats 1000000
def st_lp (n : Nat) (g : Nat → RowT) (r : RowT) (i : Nat) (dn : Bool) (c : Nat) (G : Nat → RowT) : St := ⟨[(7, .c (.d (eI i))), (6, .c (.d (eB dn))), (5, .c (.own 576 0 c 1)), (0, .c (.d (.sl 13 n fun i => eRow (g i)))), (3, .c (.bp 192 1 0))], [(192, 1, .box ((eRow r).map .d)), (576, 1, .arr 13 c fun i => eRow (G i))]⟩
theorem c_l7Put (l : List RowT) (n : Nat) (g : Nat → RowT) (hl : Lst zRow l n g) (hn : n ≤ 1080000) (r : RowT) (n1 : Nat) (G1 : Nat → RowT) (h1 : Lst zRow (rPut r l) n1 G1) : Meets Try.prog 165 [.c (.d (.sl 13 n fun i => eRow (g i))), xd (eRow r)] ⟨.one (.c (.own 13 n1 fun i => eRow (G1 i))), [none, none]⟩ := by
  have hnL : n ≤ maxLen := Nat.le_trans hn (by decide)
  refine meets_of (H := [14]) (EX := EXA) ttok mixed Try.func165 rfl (by kernel_rfl) (by decide) ?_
  generalize hA : real = A
  generalize hM : MeetsB Try.prog = M
  cbv
  repeat' first
    | apply And.intro
    | exact True.intro
    | with_reducible rfl
    | exact same_of hA rfl
    | refine br_of hA (fun _ => ?_) (fun _ => ?_)
    | exact imp_of hA id
    | (refine imp_of hA ?_; subst hA; simp only [real, Bool.true_and]; exact id)
    | (refine ind_of hA ?_; decide +kernel)
  refine loop_of hA (α := { y : Nat × Bool × Nat × (Nat → RowT) // y.1 ≤ n ∧ ∃ out, PutAt r (l.take y.1) y.2.1 out ∧ Lst zRow out y.2.2.1 y.2.2.2 }) (fun y => st_lp n g r y.1.1 y.1.2.1 y.1.2.2.1 y.1.2.2.2) (fun y => n - y.1.1) ⟨(0, false, 0, fun _ => zRow), Nat.zero_le _, [], .inl ⟨rfl, rfl, fun q hq => by simp at hq⟩, rfl, fun k h => absurd h (Nat.not_lt_zero k)⟩ ?_ ?_
  · refine cov_of ?_ ?_ ?_
    · (subst hA; (repeat' first | exact True.intro | exact rfl | apply And.intro))
    · (subst hA; (repeat' first | exact True.intro | exact rfl | apply And.intro | (intro _ _; first | rfl | trivial) | (intro q hq; exact absurd hq (Nat.not_lt_zero q))))
    · (subst hA; (repeat' first | exact True.intro | exact rfl | apply And.intro | exact .inl rfl | exact .inr (le_of_nble rfl)))
  rintro ⟨⟨i, dn, c, G⟩, hi, out, hp, hG⟩
  have hi : i ≤ n := hi
  have hp : PutAt r (l.take i) dn out := hp
  have hG : Lst zRow out c G := hG
  have hcl : c ≤ i + 1 := by
    rw [hG.1]
    refine Nat.le_trans (putAt_len hp) ?_
    rw [List.length_take]; omega
  have eq0 : A.nat (Int.ofNat i) = i := by subst hA; exact Int.toNat_natCast i
  cbv
  repeat' first
    | apply And.intro
    | exact True.intro
    | with_reducible rfl
    | exact same_of hA rfl
    | refine br_of hA (fun _ => ?_) (fun _ => ?_)
    | exact imp_of hA id
    | (refine imp_of hA ?_; subst hA; simp only [real, Bool.true_and]; exact id)
    | (refine ind_of hA ?_; decide +kernel)
    | (refine call_ex hA hM (c_l5A _ _ _ _ _ _) (fun _ _ => ?_); cbv)
    | (refine inb_lt hA ?_; first | exact lt2_of hA (by assumption) | exact lt_of hA (by assumption))
    | exact room_add2 hA (by omega) (by decide)
    | exact room_add3 hA (by omega) (by decide)
    | exact flat_row hA _ _
  · rename_i hlt hs
    have hlt' : i < n := by first | exact lt2_of hA hlt | exact lt_of hA hlt
    have htk := lst_take hl hlt'
    have hsm : IsR r.key r.win (g i) := by
      rw [← eq0]
      subst hA
      simp only [real, bifA, Bool.and_eq_true, decide_eq_true_eq, beq_iff_eq] at hs
      unfold IsR
      simp_all
    refine ⟨⟨(i + 1, dn, c, G), hlt', out, by dsimp only; rw [htk]; exact putAt_same hp hsm, hG⟩, by dsimp only; omega, cov_of ?_ ?_ ?_⟩
    · (subst hA; (repeat' first | exact True.intro | exact rfl | apply And.intro | exact congrArg (fun x => DV.v (.int .i64 x)) (up64 hlt' hnL)))
    · (subst hA; (repeat' first | exact True.intro | exact rfl | apply And.intro | (intro _ _; first | rfl | trivial)))
    · (subst hA; (repeat' first | exact True.intro | exact rfl | apply And.intro | exact .inl rfl | exact .inr (le_of_nble rfl)))
  · rename_i hlt hs b hb hh
    have hlt' : i < n := by first | exact lt2_of hA hlt | exact lt_of hA hlt
    have htk := lst_take hl hlt'
    have hsm : ¬ IsR r.key r.win (g i) := by
      rw [← eq0]
      subst hA
      simp only [real, bifA, Bool.and_eq_true, Bool.and_eq_false_iff, decide_eq_false_iff_not, beq_eq_false_iff_ne, ne_eq] at hs
      intro hI
      unfold IsR at hI
      rcases hs with h | h | h | h <;> simp_all
    have hh2 : dn = false ∧ RA r (g i) := by
      rw [← eq0]
      subst hA
      have hh : (bif !dn then b else false) = true := hh
      cases dn with
      | true => cases hh
      | false => exact ⟨rfl, hb.1 hh⟩
    obtain ⟨hdn, hra⟩ := hh2
    subst hdn
    refine ⟨⟨(i + 1, true, c + 1 + 1, fun q => if q < c + 1 then (if q < c then G q else r) else g i), hlt', (out ++ [r]) ++ [g i], by dsimp only; rw [htk]; exact putAt_hit hp hsm hra, lst_snoc (lst_snoc hG)⟩, by dsimp only; omega, cov_of ?_ ?_ ?_⟩
    · (subst hA; (repeat' first | exact True.intro | exact rfl | apply And.intro | exact congrArg (fun x => DV.v (.int .i64 x)) (up64 hlt' hnL)))
    · (subst hA; (repeat' first | exact True.intro | exact rfl | apply And.intro | (intro _ _; first | rfl | trivial) | (intro q hq; exact push2_if eRow c G r (g i) (fun _ => eRow zRow) (fun _ => eRow zRow) q hq)))
    · (subst hA; (repeat' first | exact True.intro | exact rfl | apply And.intro | exact .inl rfl | exact .inr (le_of_nble rfl)))
  · rename_i hlt hs b hb hh
    have hlt' : i < n := by first | exact lt2_of hA hlt | exact lt_of hA hlt
    have htk := lst_take hl hlt'
    have hsm : ¬ IsR r.key r.win (g i) := by
      rw [← eq0]
      subst hA
      simp only [real, bifA, Bool.and_eq_true, Bool.and_eq_false_iff, decide_eq_false_iff_not, beq_eq_false_iff_ne, ne_eq] at hs
      intro hI
      unfold IsR at hI
      rcases hs with h | h | h | h <;> simp_all
    have hh2 : ¬ (dn = false ∧ RA r (g i)) := by
      rw [← eq0]
      subst hA
      have hh : (bif !dn then b else false) = false := hh
      rintro ⟨rfl, hr⟩
      have := hb.2 hr
      rw [this] at hh; cases hh
    refine ⟨⟨(i + 1, dn, c + 1, fun q => if q < c then G q else g i), hlt', out ++ [g i], by dsimp only; rw [htk]; exact putAt_on hp hsm hh2, lst_snoc hG⟩, by dsimp only; omega, cov_of ?_ ?_ ?_⟩
    · (subst hA; (repeat' first | exact True.intro | exact rfl | apply And.intro | exact congrArg (fun x => DV.v (.int .i64 x)) (up64 hlt' hnL)))
    · (subst hA; (repeat' first | exact True.intro | exact rfl | apply And.intro | (intro _ _; first | rfl | trivial) | (intro q hq; exact push_if (A := real) eRow rfl c G (g i) (fun _ => eRow zRow) q hq)))
    · (subst hA; (repeat' first | exact True.intro | exact rfl | apply And.intro | exact .inl rfl | exact .inr (le_of_nble rfl)))
  · rename_i hge hdd
    have hin : n = i := by first | (have := ge2_of hA hge; omega) | (have := ge_of hA hge; omega)
    have hp9 : PutAt r l dn out := by rw [← lst_all hl, hin]; exact hp
    have hG9 : Lst zRow out c G := hG
    have hd9 : dn = false := bnot_t hA hdd
    have he := putAt_end hp9
    rw [hd9] at he
    have he : rPut r l = out ++ [r] := he
    rw [he] at h1
    have hcc : c + 1 = n1 := by
      have := h1.1
      have := hG9.1
      simp at *
      omega
    subst hcc
    have hrow : ∀ q, q < c + 1 → (if q < c then G q else r) = G1 q := fun q hq => ((lst_snoc (x := r) hG9).2 q hq).trans (h1.2 q hq).symm
    refine stop_of hA ⟨[(5, .c (.own 576 0 (c + 1) 1))], [(576, 1, .arr 13 (c + 1) fun i => eRow (G1 i))]⟩ (cov_of ?_ ?_ ?_) ?_
    · (subst hA; (repeat' first | exact True.intro | exact rfl | apply And.intro))
    · (subst hA; (repeat' first | exact True.intro | exact rfl | apply And.intro | (intro _ _; first | rfl | trivial) | (intro q hq; exact (push_if (A := real) eRow rfl c G r (fun _ => eRow zRow) q hq).trans (congrArg eRow (hrow q hq)))))
    · (subst hA; (repeat' first | exact True.intro | exact rfl | apply And.intro | exact .inl rfl | exact .inr (le_of_nble rfl)))
    cbv
    repeat' first
      | apply And.intro
      | exact True.intro
      | with_reducible rfl
      | exact same_of hA rfl
      | refine br_of hA (fun _ => ?_) (fun _ => ?_)
      | exact imp_of hA id
      | (refine imp_of hA ?_; subst hA; simp only [real, Bool.true_and]; exact id)
      | (refine ind_of hA ?_; decide +kernel)
  · rename_i hge hdd
    have hin : n = i := by first | (have := ge2_of hA hge; omega) | (have := ge_of hA hge; omega)
    have hp9 : PutAt r l dn out := by rw [← lst_all hl, hin]; exact hp
    have hG9 : Lst zRow out c G := hG
    have hd9 : dn = true := bnot_f hA hdd
    have he := putAt_end hp9
    rw [hd9] at he
    have he : rPut r l = out := he
    rw [he] at h1
    have hcc : c = n1 := by
      have := h1.1
      have := hG9.1
      simp at *
      omega
    subst hcc
    have hrow : ∀ q, q < c → G q = G1 q := fun q hq => (hG9.2 q hq).trans (h1.2 q hq).symm
    refine stop_of hA ⟨[(5, .c (.own 576 0 (c) 1))], [(576, 1, .arr 13 (c) fun i => eRow (G1 i))]⟩ (cov_of ?_ ?_ ?_) ?_
    · (subst hA; (repeat' first | exact True.intro | exact rfl | apply And.intro))
    · (subst hA; (repeat' first | exact True.intro | exact rfl | apply And.intro | (intro _ _; first | rfl | trivial) | (intro q hq; exact congrArg eRow (hrow q hq))))
    · (subst hA; (repeat' first | exact True.intro | exact rfl | apply And.intro | exact .inl rfl | exact .inr (le_of_nble rfl)))
    cbv
    repeat' first
      | apply And.intro
      | exact True.intro
      | with_reducible rfl
      | exact same_of hA rfl
      | refine br_of hA (fun _ => ?_) (fun _ => ?_)
      | exact imp_of hA id
      | (refine imp_of hA ?_; subst hA; simp only [real, Bool.true_and]; exact id)
      | (refine ind_of hA ?_; decide +kernel)
end Go.Rk
/- A record, as the reference takes it: into a window. -/
namespace Go.Rk
set_option linter.unusedSimpArgs false
set_option linter.unusedVariables false
open Go.Proofs
set_option maxRecDepth 100000
set_option maxHeartbeats 1000000
def st_rf (mk : Int) (n : Nat) (g : Nat → RowT) (k : Int) (w : WinT) (i : Nat) : St := ⟨[(8, .c (.d (eI i))), (1, .c (.d (eI k))), (3, .c (.bp 192 1 0)), (5, .c (.bp 320 1 0)), (6, .c (.bp 384 1 0)), (7, .c (.d (eB false)))], [(192, 1, .box [.d (eI mk), .d (.sl 13 n fun i => eRow (g i))]), (320, 1, .box ((eWin w).map .d)), (384, 1, .box ((eRow zRow).map .d))]⟩
theorem c_sFindR (mk : Int) (l : List RowT) (n : Nat) (g : Nat → RowT) (hl : Lst zRow l n g) (hn : n ≤ 1080000) (k : Int) (w : WinT) (r : RowT) (hr : r = (rFind k w l).getD zRow) (b : Bool) (hb : b = (rFind k w l).isSome) : Meets Try.prog 28 [.agg [.d (eI mk), .d (.sl 13 n fun i => eRow (g i))], .c (.d (eI k)), xd (eWin w)] ⟨.tup [xd (eRow r), .c (.d (eB b))], [none, none, none]⟩ := by
  have hnL : n ≤ maxLen := Nat.le_trans hn (by decide)
  refine meets_of (H := []) (EX := EXA) ttok mixed Try.func28 rfl (by kernel_rfl) (by decide) ?_
  generalize hA : real = A
  generalize hM : MeetsB Try.prog = M
  cbv
  repeat' first
    | apply And.intro
    | exact True.intro
    | with_reducible rfl
    | exact same_of hA rfl
    | refine br_of hA (fun _ => ?_) (fun _ => ?_)
    | exact imp_of hA id
    | (refine imp_of hA ?_; subst hA; simp only [real, Bool.true_and]; exact id)
    | (refine ind_of hA ?_; decide +kernel)
  refine loop_of hA (α := { i : Nat // i ≤ n ∧ ∀ q, q < i → ¬ IsR k w (g q) }) (fun y => st_rf mk n g k w y.1) (fun y => n - y.1) ⟨0, Nat.zero_le _, fun q h => absurd h (Nat.not_lt_zero q)⟩ ?_ ?_
  · refine cov_of ?_ ?_ ?_
    · (subst hA; (repeat' first | exact True.intro | exact rfl | apply And.intro))
    · (subst hA; (repeat' first | exact True.intro | exact rfl | apply And.intro | (intro _ _; first | rfl | trivial)))
    · (subst hA; (repeat' first | exact True.intro | exact rfl | apply And.intro | exact .inl rfl | exact .inr (le_of_nble rfl)))
  rintro ⟨i, hi, hk⟩
  have hi : i ≤ n := hi
  have eq0 : A.nat (Int.ofNat i) = i := by subst hA; exact Int.toNat_natCast i
  cbv
  repeat' first
    | apply And.intro
    | exact True.intro
    | with_reducible rfl
    | exact same_of hA rfl
    | refine br_of hA (fun _ => ?_) (fun _ => ?_)
    | exact imp_of hA id
    | (refine imp_of hA ?_; subst hA; simp only [real, Bool.true_and]; exact id)
    | (refine ind_of hA ?_; decide +kernel)
    | (refine inb_lt hA ?_; first | exact lt2_of hA (by assumption) | exact lt_of hA (by assumption))
  · rename_i hlt hs
    have hlt' : i < n := by first | exact lt2_of hA hlt | exact lt_of hA hlt
    have hsm : IsR k w (g i) := by
      rw [← eq0]
      subst hA
      simp only [real, bifA, Bool.and_eq_true, decide_eq_true_eq, beq_iff_eq] at hs
      unfold IsR
      simp_all
    rw [rfind_some hl hlt' hsm hk] at hr hb
    have hr : r = g i := hr
    have hb : b = true := hb
    subst hr hb
    subst hA
    rfl
  · rename_i hlt hs
    have hlt' : i < n := by first | exact lt2_of hA hlt | exact lt_of hA hlt
    have hsm : ¬ IsR k w (g i) := by
      rw [← eq0]
      subst hA
      simp only [real, bifA, Bool.and_eq_true, Bool.and_eq_false_iff, decide_eq_false_iff_not, beq_eq_false_iff_ne, ne_eq] at hs
      intro hI
      unfold IsR at hI
      rcases hs with h | h | h | h <;> simp_all
    refine ⟨⟨i + 1, hlt', fun q hq => ?_⟩, by dsimp only; omega, cov_of ?_ ?_ ?_⟩
    · by_cases e : q = i
      · rw [e]; exact hsm
      · exact hk q (by have hq : q < i + 1 := hq; omega)
    · (subst hA; (repeat' first | exact True.intro | exact rfl | apply And.intro | exact congrArg (fun x => DV.v (.int .i64 x)) (up64 hlt' hnL)))
    · (subst hA; (repeat' first | exact True.intro | exact rfl | apply And.intro | (intro _ _; first | rfl | trivial)))
    · (subst hA; (repeat' first | exact True.intro | exact rfl | apply And.intro | exact .inl rfl | exact .inr (le_of_nble rfl)))
  · rename_i hge
    have hin : n = i := by first | (have := ge2_of hA hge; omega) | (have := ge_of hA hge; omega)
    rw [rfind_none hl fun q hq => hk q (by omega)] at hr hb
    have hr : r = zRow := hr
    have hb : b = false := hb
    subst hr hb
    rfl
theorem c_l7Tell (j : JobT) (mk : Int) (l : List RowT) (n : Nat) (g : Nat → RowT) (hl : Lst zRow l n g) (hn : n ≤ 1080000) (r : RowT) (t : RowT × List PaneT) (ht : t = tellS j mk r) (n1 : Nat) (G1 : Nat → RowT) (h1 : Lst zRow (rPut t.1 l) n1 G1) (c : Nat) (P : Nat → PaneT) (hP : Lst zPan t.2 c P) : Meets Try.prog 160 [xd (eJob j), .agg [.d (eI mk), .d (.sl 13 n fun i => eRow (g i))], xd (eRow r)] ⟨.tup [.agg [.d (eI mk), .own 13 n1 fun i => eRow (G1 i)], .c (.own 9 c fun i => ePane (P i))], [none, none, none]⟩ := by
  have cP := c_l7Put l n g hl hn t.1 n1 G1 h1
  unfold tellS at ht
  by_cases hm : mk < r.win.e
  · rw [if_pos hm] at ht
    subst ht
    have hc0 : c = 0 := hP.1
    subst hc0
    have cP : Meets Try.prog 165 [.c (.d (.sl 13 n fun i => eRow (g i))), xd (eRow r)] ⟨.one (.c (.own 13 n1 fun i => eRow (G1 i))), [none, none]⟩ := cP
    refine meets_up (res := .tup [.agg [.d (eI mk), .own 13 n1 fun i => eRow (G1 i)], .c (.own 9 0 (real.rep (ePane zPan)))]) ⟨⟨UpV.refl _, UpV.refl _, trivial⟩, UpV.row fun i hi => absurd hi (Nat.not_lt_zero i), trivial⟩ ?_
    have no : ∀ {A : Ar}, real = A → A.cmp .lss mk r.win.e = false → False := fun hA h => by
      subst hA
      exact of_decide_eq_false h hm
    refine meets_of (H := []) (EX := EXA) ttok mixed Try.func160 rfl (by kernel_rfl) (by decide) ?_
    generalize hA : real = A
    generalize hM : MeetsB Try.prog = M
    cbv
    repeat' first
      | exact (no hA (by assumption)).elim
      | apply And.intro
      | exact True.intro
      | with_reducible rfl
      | exact same_of hA rfl
      | refine br_of hA (fun _ => ?_) (fun _ => ?_)
      | exact imp_of hA id
      | (refine imp_of hA ?_; subst hA; simp only [real, Bool.true_and]; exact id)
      | (refine ind_of hA ?_; decide +kernel)
      | (refine call_of hA hM _ cP ?_; cbv)
      | exact flat_row hA _ _
    all_goals (subst hA; rfl)
  · rw [if_neg hm] at ht
    subst ht
    have hc1 : c = 1 := hP.1
    subst hc1
    have hP0 : P 0 = paneP j.piece r (kindT r) := hP.2 0 (by omega)
    have cP : Meets Try.prog 165 [.c (.d (.sl 13 n fun i => eRow (g i))), xd (eRow (toldR r))] ⟨.one (.c (.own 13 n1 fun i => eRow (G1 i))), [none, none]⟩ := cP
    obtain ⟨p, hp⟩ : ∃ p, p = paneP j.piece r (kindT r) := ⟨_, rfl⟩
    refine meets_up (res := .tup [.agg [.d (eI mk), .own 13 n1 fun i => eRow (G1 i)], .c (.own 9 1 (real.app 1 (real.rep (ePane p)) (real.rep (ePane zPan))))]) ⟨⟨UpV.refl _, UpV.refl _, trivial⟩, UpV.row fun i hi => (by rw [show i = 0 by omega, hP0, hp]; rfl), trivial⟩ ?_
    have no : ∀ {A : Ar}, real = A → A.cmp .lss mk r.win.e = true → False := fun hA h => by
      subst hA
      exact hm (of_decide_eq_true h)
    have cN2 := fun (h : r.timely = true) => c_l7Pane j r 2 p (by rw [hp, show kindT r = 2 from if_pos h])
    have cN1 := fun (h : ¬ r.timely = true) => c_l7Pane j r 1 p (by rw [hp, show kindT r = 1 from if_neg h])
    refine meets_of (H := []) (EX := EXA) ttok mixed Try.func160 rfl (by kernel_rfl) (by decide) ?_
    generalize hA : real = A
    generalize hM : MeetsB Try.prog = M
    cbv
    repeat' first
      | exact (no hA (by assumption)).elim
      | apply And.intro
      | exact True.intro
      | with_reducible rfl
      | exact same_of hA rfl
      | refine br_of hA (fun _ => ?_) (fun _ => ?_)
      | exact imp_of hA id
      | (refine imp_of hA ?_; subst hA; simp only [real, Bool.true_and]; exact id)
      | (refine ind_of hA ?_; decide +kernel)
      | (refine call_of2 hA hM _ cP (by subst hA; rfl) ?_; cbv)
      | exact flat_row hA _ _
    · rename_i h
      have h9 : ¬ r.timely = true := by rw [show r.timely = false from bnot_t hA h]; simp
      refine call_of hA hM _ (cN1 h9) ?_
      cbv
      repeat' first
        | apply And.intro
        | exact True.intro
        | with_reducible rfl
        | exact same_of hA rfl
        | refine br_of hA (fun _ => ?_) (fun _ => ?_)
        | exact imp_of hA id
        | (refine imp_of hA ?_; subst hA; simp only [real, Bool.true_and]; exact id)
        | (refine ind_of hA ?_; decide +kernel)
        | (refine call_of2 hA hM _ cP (by subst hA; rfl) ?_; cbv)
        | exact flat_row hA _ _
      all_goals (subst hA; rfl)
    · rename_i h
      have h9 : r.timely = true := bnot_f hA h
      refine call_of hA hM _ (cN2 h9) ?_
      cbv
      repeat' first
        | apply And.intro
        | exact True.intro
        | with_reducible rfl
        | exact same_of hA rfl
        | refine br_of hA (fun _ => ?_) (fun _ => ?_)
        | exact imp_of hA id
        | (refine imp_of hA ?_; subst hA; simp only [real, Bool.true_and]; exact id)
        | (refine ind_of hA ?_; decide +kernel)
        | (refine call_of2 hA hM _ cP (by subst hA; rfl) ?_; cbv)
        | exact flat_row hA _ _
      all_goals (subst hA; rfl)
theorem c_l7Into (j : JobT) (mk : Int) (l : List RowT) (n : Nat) (g : Nat → RowT) (hl : Lst zRow l n g) (hn : n ≤ 1080000) (x : ItmT) (w : WinT) :
    (∀ q, intoL j mk x.key x.v w l = some q → ∀ n1 G1, Lst zRow q.1 n1 G1 → ∀ c P, Lst zPan q.2 c P → Meets Try.prog 144 [xd (eJob j), .agg [.d (eI mk), .d (.sl 13 n fun i => eRow (g i))], xd (eItm x), xd (eWin w)] ⟨.tup [.agg [.d (eI mk), .d (.sl 13 n1 fun i => eRow (G1 i))], .c (.d (.sl 9 c fun i => ePane (P i))), .c (.d (eB true))], [none, none, none, none]⟩) ∧
    (intoL j mk x.key x.v w l = none → ∀ n1 G1, n1 = n → G1 = g → ∀ c P, c = 0 → P = (fun _ => zPan) → Meets Try.prog 144 [xd (eJob j), .agg [.d (eI mk), .d (.sl 13 n fun i => eRow (g i))], xd (eItm x), xd (eWin w)] ⟨.tup [.agg [.d (eI mk), .d (.sl 13 n1 fun i => eRow (G1 i))], .c (.d (.sl 9 c fun i => ePane (P i))), .c (.d (eB false))], [none, none, none, none]⟩) := by
  unfold intoL
  refine ⟨fun q hq n1 G1 h1 c P hP => ?_, fun hq n1 G1 e1 e2 c P e3 e4 => ?_⟩
  · split at hq
    · cases hq
    · rename_i hov
      obtain ⟨t, ht⟩ : ∃ t, t = tellS j mk (addR ((rFind x.key w l).getD (nrow x.key w)) x.v) := ⟨_, rfl⟩
      rw [← ht] at hq
      cases hq
      have h1 : Lst zRow (rPut t.1 l) n1 G1 := h1
      have hP : Lst zPan t.2 c P := hP
      obtain ⟨r0, hr0⟩ : ∃ r0, r0 = (rFind x.key w l).getD zRow := ⟨_, rfl⟩
      obtain ⟨b0, hb0⟩ : ∃ b0, b0 = (rFind x.key w l).isSome := ⟨_, rfl⟩
      have cF := c_sFindR mk l n g hl hn x.key w r0 hr0 b0 hb0
      obtain ⟨ra, hra⟩ : ∃ ra, ra = aggAdd r0.all x.v := ⟨_, rfl⟩
      obtain ⟨rb, hrb⟩ : ∃ ra, ra = aggAdd r0.fresh x.v := ⟨_, rfl⟩
      have cA := c_sAggAdd r0.all x.v ra hra
      have cB := c_sAggAdd r0.fresh x.v rb hrb
      have hrr : addR ((rFind x.key w l).getD (nrow x.key w)) x.v = ⟨x.key, w, ra, rb, r0.told, r0.timely⟩ := by
        cases h : rFind x.key w l with
        | none => rw [h] at hr0; rw [hra, hrb, hr0]; rfl
        | some r =>
          have his : IsR x.key w r := by have := getD_is (k := x.key) (w := w) (l := l); rw [h] at this; exact this
          rw [h] at hr0
          have e1 := (isR_eq his).1
          have e2 := (isR_eq his).2
          rw [hra, hrb, hr0, ← e1, ← e2]; rfl
      rw [hrr] at ht
      have cT := c_l7Tell j mk l n g hl hn ⟨x.key, w, ra, rb, r0.told, r0.timely⟩ t ht n1 G1 h1 c P hP
      have no : ∀ {A : Ar}, real = A → A.cmp .geq mk (A.ar .add .i64 w.e j.late) = true → False := fun hA h => by
        subst hA
        exact hov (of_decide_eq_true h)
      refine meets_frz (r := .tup [.agg [.d (eI mk), .own 13 n1 fun i => eRow (G1 i)], .c (.own 9 c fun i => ePane (P i)), .c (.d (eB true))]) ?_ rfl
      refine meets_of (H := []) (EX := EXA) ttok mixed Try.func144 rfl (by kernel_rfl) (by decide) ?_
      generalize hA : real = A
      generalize hM : MeetsB Try.prog = M
      cbv
      repeat' first
        | exact (no hA (by assumption)).elim
        | apply And.intro
        | exact True.intro
        | with_reducible rfl
        | exact same_of hA rfl
        | refine br_of hA (fun _ => ?_) (fun _ => ?_)
        | exact imp_of hA id
        | (refine imp_of hA ?_; subst hA; simp only [real, Bool.true_and]; exact id)
        | (refine ind_of hA ?_; decide +kernel)
        | (refine call_of hA hM _ cF ?_; cbv)
        | (refine call_of hA hM _ cA ?_; cbv)
        | (refine call_of hA hM _ cB ?_; cbv)
        | (refine call_of hA hM _ cT ?_; cbv)
        | exact flat_row hA _ _
        | exact flat_pane hA _ _
  · split at hq
    · rename_i hov
      subst e1 e2 e3 e4
      have no : ∀ {A : Ar}, real = A → A.cmp .geq mk (A.ar .add .i64 w.e j.late) = false → False := fun hA h => by
        subst hA
        exact of_decide_eq_false h hov
      refine meets_frz (r := .tup [.agg [.d (eI mk), .d (.sl 13 n1 fun i => eRow (G1 i))], .c (.own 9 0 fun i => ePane zPan), .c (.d (eB false))]) ?_ rfl
      refine meets_up (res := .tup [.agg [.d (eI mk), .d (.sl 13 n1 fun i => eRow (G1 i))], .c (.own 9 0 (real.rep (ePane zPan))), .c (.d (eB false))]) ⟨⟨UpV.refl _, UpV.refl _, trivial⟩, UpV.row fun i hi => absurd hi (Nat.not_lt_zero i), UpV.refl _, trivial⟩ ?_
      refine meets_of (H := []) (EX := EXA) ttok mixed Try.func144 rfl (by kernel_rfl) (by decide) ?_
      generalize hA : real = A
      generalize hM : MeetsB Try.prog = M
      cbv
      repeat' first
        | exact (no hA (by assumption)).elim
        | apply And.intro
        | exact True.intro
        | with_reducible rfl
        | exact same_of hA rfl
        | refine br_of hA (fun _ => ?_) (fun _ => ?_)
        | exact imp_of hA id
        | (refine imp_of hA ?_; subst hA; simp only [real, Bool.true_and]; exact id)
        | (refine ind_of hA ?_; decide +kernel)
      all_goals (subst hA; rfl)
    · cases hq
end Go.Rk
/- A record, as the reference takes it: into a session. -/
namespace Go.Rk
set_option linter.unusedSimpArgs false
set_option linter.unusedVariables false
open Go.Proofs
set_option maxRecDepth 100000
set_option maxHeartbeats 1000000
def st_ls1 (j : JobT) (mk : Int) (n : Nat) (g : Nat → RowT) (x : ItmT) (w : WinT) (i kr : Nat) (Gr : Nat → RowT) (ko : Nat) (Go : Nat → RowT) (sp : WinT) : St := ⟨[(14, .c (.d (eI i))), (7, .c (.bp 448 1 0)), (12, .c (.own 1920 0 kr 1)), (13, .c (.own 1984 0 ko 1)), (4, .c (.bp 256 1 0)), (5, .c (.bp 320 1 0)), (6, .c (.bp 384 1 0)), (8, .c (.bp 512 1 0)), (11, .c (.bp 704 1 0))], [(256, 1, .box ((eJob j).map .d)), (320, 1, .box [.d (eI mk), .d (.sl 13 n fun i => eRow (g i))]), (384, 1, .box ((eItm x).map .d)), (448, 1, .box ((eWin w).map .d)), (512, 1, .box [.d (eI 0), .d (.v nilS)]), (704, 1, .box ((eRow ⟨x.key, sp, agg1 x.v, agg1 x.v, 0, false⟩).map .d)), (1920, 1, .arr 13 kr fun i => eRow (Gr i)), (1984, 1, .arr 13 ko fun i => eRow (Go i))]⟩
def st_ls2 (j : JobT) (mk : Int) (n : Nat) (g : Nat → RowT) (x : ItmT) (w : WinT) (kr : Nat) (Gr : Nat → RowT) (ko : Nat) (Go : Nat → RowT) (sp : WinT) (i : Nat) (a : AggT) (c : Nat) (P : Nat → PaneT) : St := ⟨[(16, .c (.d (eI i))), (12, .c (.own 1920 0 kr 1)), (13, .c (.own 1984 0 ko 1)), (15, .c (.own 7424 0 c 1)), (4, .c (.bp 256 1 0)), (5, .c (.bp 320 1 0)), (6, .c (.bp 384 1 0)), (8, .c (.bp 512 1 0)), (11, .c (.bp 704 1 0))], [(256, 1, .box ((eJob j).map .d)), (320, 1, .box [.d (eI mk), .d (.sl 13 n fun i => eRow (g i))]), (384, 1, .box ((eItm x).map .d)), (448, 1, .box ((eWin w).map .d)), (512, 1, .box [.d (eI 0), .d (.v nilS)]), (704, 1, .box ((eRow ⟨x.key, sp, a, agg1 x.v, 0, false⟩).map .d)), (1920, 1, .arr 13 kr fun i => eRow (Gr i)), (1984, 1, .arr 13 ko fun i => eRow (Go i)), (7424, 1, .arr 9 c fun i => ePane (P i))]⟩
theorem m_lsG (j : JobT) (mk : Int) (l : List RowT) (n : Nat) (g : Nat → RowT) (hl : Lst zRow l n g) (hn : n ≤ 500000) (x : ItmT) (w : WinT) (sp : WinT) (hsp : sp = spanL w (oldL x.key w l)) (hov : w64 (sp.e + j.late) ≤ mk) (P : Nat → PaneT) : Meets Try.prog 143 [xd (eJob j), .agg [.d (eI mk), .d (.sl 13 n fun i => eRow (g i))], xd (eItm x), xd (eWin w)]
    ⟨.tup [.agg [.d (eI mk), .d (.sl 13 n fun i => eRow (g i))], .c (.d (.sl 9 0 fun i => ePane (P i))), .c (.d (eB false))], [none, none, none, none]⟩ := by
  have hnL : n ≤ maxLen := Nat.le_trans (show n ≤ 1080000 by omega) (by decide)
  have cA := c_sAggAdd zAgg x.v (agg1 x.v) rfl
  have no : ∀ {A : Ar}, real = A → A.cmp .geq mk (A.ar .add .i64 sp.e j.late) = false → False := fun hA h => by
    subst hA
    exact of_decide_eq_false h hov
  refine meets_frz (r := .tup [.agg [.d (eI mk), .d (.sl 13 n fun i => eRow (g i))], .c (.own 9 0 fun i => ePane (P i)), .c (.d (eB false))]) ?_ rfl
  refine meets_up (res := .tup [.agg [.d (eI mk), .d (.sl 13 n fun i => eRow (g i))], .c (.own 9 0 (real.rep (ePane zPan))), .c (.d (eB false))]) ⟨⟨UpV.refl _, UpV.refl _, trivial⟩, UpV.row fun i hi => absurd hi (Nat.not_lt_zero i), UpV.refl _, trivial⟩ ?_
  refine meets_of (H := [11]) (EX := EXA) ttok mixed Try.func143 rfl (by kernel_rfl) (by decide) ?_
  generalize hA : real = A
  generalize hM : MeetsB Try.prog = M
  cbv
  repeat' first
    | apply And.intro
    | exact True.intro
    | with_reducible rfl
    | exact same_of hA rfl
    | refine br_of hA (fun _ => ?_) (fun _ => ?_)
    | exact imp_of hA id
    | (refine imp_of hA ?_; subst hA; simp only [real, Bool.true_and]; exact id)
    | (refine ind_of hA ?_; decide +kernel)
    | (refine call_of hA hM _ cA ?_; cbv)
  refine loop_of hA (α := { y : Nat × (Nat × (Nat → RowT)) × (Nat × (Nat → RowT)) × WinT // y.1 ≤ n ∧ Lst zRow (restL x.key w (l.take y.1)) y.2.1.1 y.2.1.2 ∧ Lst zRow (oldL x.key w (l.take y.1)) y.2.2.1.1 y.2.2.1.2 ∧ y.2.2.2 = spanL w (oldL x.key w (l.take y.1)) }) (fun y => st_ls1 j mk n g x w y.1.1 y.1.2.1.1 y.1.2.1.2 y.1.2.2.1.1 y.1.2.2.1.2 y.1.2.2.2) (fun y => n - y.1.1) ⟨(0, (0, fun _ => zRow), (0, fun _ => zRow), w), Nat.zero_le _, ⟨rfl, fun k h => absurd h (Nat.not_lt_zero k)⟩, ⟨rfl, fun k h => absurd h (Nat.not_lt_zero k)⟩, rfl⟩ ?_ ?_
  · refine cov_of ?_ ?_ ?_
    · (subst hA; (repeat' first | exact True.intro | exact rfl | apply And.intro))
    · (subst hA; (repeat' first | exact True.intro | exact rfl | apply And.intro | (intro _ _; first | rfl | trivial) | (intro q hq; exact absurd hq (Nat.not_lt_zero q))))
    · (subst hA; (repeat' first | exact True.intro | exact rfl | apply And.intro | exact .inl rfl | exact .inr (le_of_nble rfl)))
  rintro ⟨⟨u, ⟨kr, Gr⟩, ⟨ko, Go⟩, s1⟩, hu, hr, ho, hs1⟩
  have hu : u ≤ n := hu
  have hr : Lst zRow (restL x.key w (l.take u)) kr Gr := hr
  have ho : Lst zRow (oldL x.key w (l.take u)) ko Go := ho
  have hs1 : s1 = spanL w (oldL x.key w (l.take u)) := hs1
  have hkr : kr ≤ u := by
    rw [hr.1]
    refine Nat.le_trans (restL_len _ _ _) ?_
    rw [List.length_take]; omega
  have hko : ko ≤ u := by
    rw [ho.1]
    refine Nat.le_trans (oldL_len _ _ _) ?_
    rw [List.length_take]; omega
  obtain ⟨s2, hs2⟩ : ∃ z, z = winSpan s1 (g u).win := ⟨_, rfl⟩
  have cS := fun q (e : q = u) => c_sWinSpan s1 (g q).win s2 (by rw [e]; exact hs2)
  have eq0 : A.nat (Int.ofNat u) = u := by subst hA; exact Int.toNat_natCast u
  have hso : u < n → oldL x.key w (l.take (u + 1)) = oldL x.key w (l.take u) ++ if tchR x.key w (g u) = true then [g u] else [] := fun h => by rw [lst_take hl h, oldL_snoc]
  have hsr : u < n → restL x.key w (l.take (u + 1)) = restL x.key w (l.take u) ++ if tchR x.key w (g u) = true then [] else [g u] := fun h => by rw [lst_take hl h, restL_snoc]
  cbv
  repeat' first
    | apply And.intro
    | exact True.intro
    | with_reducible rfl
    | exact same_of hA rfl
    | refine br_of hA (fun _ => ?_) (fun _ => ?_)
    | exact imp_of hA id
    | (refine imp_of hA ?_; subst hA; simp only [real, Bool.true_and]; exact id)
    | (refine ind_of hA ?_; decide +kernel)
    | (refine call_of hA hM _ (cS _ eq0) ?_; cbv)
    | (refine call_ex hA hM (c_sTouchP _ _ _ _) (fun _ _ => ?_); cbv)
    | (refine inb_lt hA ?_; first | exact lt2_of hA (by assumption) | exact lt_of hA (by assumption))
    | exact room_add2 hA (by omega) (by decide)
    | exact flat_row hA _ _
  · rename_i hlt b hb hc
    have hlt' : u < n := by first | exact lt2_of hA hlt | exact lt_of hA hlt
    have ht : tchR x.key w (g u) = true := by
      rw [← eq0]
      subst hA
      unfold tchR
      rw [decide_eq_true_eq]
      have hb : b = true ↔ ((g (real.nat (Int.ofNat u))).win.s < w.e ∧ w.s < (g (real.nat (Int.ofNat u))).win.e) := hb
      have hc : (bif ((g (real.nat (Int.ofNat u))).key == x.key) then b else false) = true := hc
      cases hk : ((g (real.nat (Int.ofNat u))).key == x.key) with
      | false => rw [hk] at hc; cases hc
      | true => rw [hk] at hc; exact ⟨by simpa using hk, hb.1 hc⟩
    refine ⟨⟨(u + 1, (kr, Gr), (ko + 1, fun q => if q < ko then Go q else g u), s2), hlt', ?_, ?_, ?_⟩, by dsimp only; omega, cov_of ?_ ?_ ?_⟩
    · dsimp only; rw [hsr hlt', if_pos ht, List.append_nil]; exact hr
    · dsimp only; rw [hso hlt', if_pos ht]; exact lst_snoc ho
    · dsimp only; rw [hso hlt', if_pos ht, spanL_app, ← hs1]; exact hs2
    · (subst hA; (repeat' first | exact True.intro | exact rfl | apply And.intro | exact congrArg (fun x => DV.v (.int .i64 x)) (up64 hlt' hnL)))
    · (subst hA; (repeat' first | exact True.intro | exact rfl | apply And.intro | (intro _ _; first | rfl | trivial) | (intro q hq; exact push_if (A := real) eRow rfl ko Go (g u) (fun _ => eRow zRow) q hq)))
    · (subst hA; (repeat' first | exact True.intro | exact rfl | apply And.intro | exact .inl rfl | exact .inr (le_of_nble rfl)))
  · rename_i hlt b hb hc
    have hlt' : u < n := by first | exact lt2_of hA hlt | exact lt_of hA hlt
    have ht : ¬ tchR x.key w (g u) = true := by
      rw [← eq0]
      subst hA
      unfold tchR
      rw [decide_eq_true_eq]
      have hb : b = true ↔ ((g (real.nat (Int.ofNat u))).win.s < w.e ∧ w.s < (g (real.nat (Int.ofNat u))).win.e) := hb
      have hc : (bif ((g (real.nat (Int.ofNat u))).key == x.key) then b else false) = false := hc
      rintro ⟨h1, h2⟩
      rw [hb.2 h2] at hc
      rw [h1] at hc
      simp at hc
    refine ⟨⟨(u + 1, (kr + 1, fun q => if q < kr then Gr q else g u), (ko, Go), s1), hlt', ?_, ?_, ?_⟩, by dsimp only; omega, cov_of ?_ ?_ ?_⟩
    · dsimp only; rw [hsr hlt', if_neg ht]; exact lst_snoc hr
    · dsimp only; rw [hso hlt', if_neg ht, List.append_nil]; exact ho
    · dsimp only; rw [hso hlt', if_neg ht, List.append_nil]; exact hs1
    · (subst hA; (repeat' first | exact True.intro | exact rfl | apply And.intro | exact congrArg (fun x => DV.v (.int .i64 x)) (up64 hlt' hnL)))
    · (subst hA; (repeat' first | exact True.intro | exact rfl | apply And.intro | (intro _ _; first | rfl | trivial) | (intro q hq; exact push_if (A := real) eRow rfl kr Gr (g u) (fun _ => eRow zRow) q hq)))
    · (subst hA; (repeat' first | exact True.intro | exact rfl | apply And.intro | exact .inl rfl | exact .inr (le_of_nble rfl)))
  rename_i hge
  have hun : n = u := by first | (have := ge2_of hA hge; omega) | (have := ge_of hA hge; omega)
  have hr : Lst zRow (restL x.key w l) kr Gr := by rw [← lst_all hl, hun]; exact hr
  have ho : Lst zRow (oldL x.key w l) ko Go := by rw [← lst_all hl, hun]; exact ho
  have hss : s1 = sp := by rw [hs1, hsp, ← hun, lst_all hl]
  subst hss
  refine stop_of hA ⟨[(7, .c (.bp 448 1 0)), (12, .c (.own 1920 0 kr 1)), (13, .c (.own 1984 0 ko 1)), (4, .c (.bp 256 1 0)), (5, .c (.bp 320 1 0)), (6, .c (.bp 384 1 0)), (8, .c (.bp 512 1 0)), (11, .c (.bp 704 1 0))], [(256, 1, .box ((eJob j).map .d)), (320, 1, .box [.d (eI mk), .d (.sl 13 n fun i => eRow (g i))]), (384, 1, .box ((eItm x).map .d)), (448, 1, .box ((eWin w).map .d)), (512, 1, .box [.d (eI 0), .d (.v nilS)]), (704, 1, .box ((eRow ⟨x.key, s1, agg1 x.v, agg1 x.v, 0, false⟩).map .d)), (1920, 1, .arr 13 kr fun i => eRow (Gr i)), (1984, 1, .arr 13 ko fun i => eRow (Go i))]⟩ (cov_of ?_ ?_ ?_) ?_
  · (subst hA; (repeat' first | exact True.intro | exact rfl | apply And.intro))
  · (subst hA; (repeat' first | exact True.intro | exact rfl | apply And.intro | (intro _ _; first | rfl | trivial)))
  · (subst hA; (repeat' first | exact True.intro | exact rfl | apply And.intro | exact .inl rfl | exact .inr (le_of_nble rfl)))
  cbv
  repeat' first
    | exact (no hA (by assumption)).elim
    | apply And.intro
    | exact True.intro
    | with_reducible rfl
    | exact same_of hA rfl
    | refine br_of hA (fun _ => ?_) (fun _ => ?_)
    | exact imp_of hA id
    | (refine imp_of hA ?_; subst hA; simp only [real, Bool.true_and]; exact id)
    | (refine ind_of hA ?_; decide +kernel)
  all_goals (subst hA; rfl)
theorem m_lsO (j : JobT) (mk : Int) (l : List RowT) (n : Nat) (g : Nat → RowT) (hl : Lst zRow l n g) (hn : n ≤ 500000) (x : ItmT) (w : WinT) (sp : WinT) (hsp : sp = spanL w (oldL x.key w l)) (hov : mk < w64 (sp.e + j.late)) (hone : oneB sp (oldL x.key w l) = true) (q : List RowT × List PaneT) (hq : intoL j mk x.key x.v sp l = some q) (n1 : Nat) (G1 : Nat → RowT) (h1 : Lst zRow q.1 n1 G1) (c : Nat) (P : Nat → PaneT) (hP : Lst zPan q.2 c P) : Meets Try.prog 143 [xd (eJob j), .agg [.d (eI mk), .d (.sl 13 n fun i => eRow (g i))], xd (eItm x), xd (eWin w)]
    ⟨.tup [.agg [.d (eI mk), .d (.sl 13 n1 fun i => eRow (G1 i))], .c (.d (.sl 9 c fun i => ePane (P i))), .c (.d (eB true))], [none, none, none, none]⟩ := by
  have hnL : n ≤ maxLen := Nat.le_trans (show n ≤ 1080000 by omega) (by decide)
  have cA := c_sAggAdd zAgg x.v (agg1 x.v) rfl
  have no : ∀ {A : Ar}, real = A → A.cmp .geq mk (A.ar .add .i64 sp.e j.late) = true → False := fun hA h => by
    subst hA
    exact absurd (of_decide_eq_true h) (Int.not_le.2 hov)
  have cI := (c_l7Into j mk l n g hl (by omega) x sp).1 q hq n1 G1 h1 c P hP
  refine meets_of (H := [11]) (EX := EXA) ttok mixed Try.func143 rfl (by kernel_rfl) (by decide) ?_
  generalize hA : real = A
  generalize hM : MeetsB Try.prog = M
  cbv
  repeat' first
    | apply And.intro
    | exact True.intro
    | with_reducible rfl
    | exact same_of hA rfl
    | refine br_of hA (fun _ => ?_) (fun _ => ?_)
    | exact imp_of hA id
    | (refine imp_of hA ?_; subst hA; simp only [real, Bool.true_and]; exact id)
    | (refine ind_of hA ?_; decide +kernel)
    | (refine call_of hA hM _ cA ?_; cbv)
  refine loop_of hA (α := { y : Nat × (Nat × (Nat → RowT)) × (Nat × (Nat → RowT)) × WinT // y.1 ≤ n ∧ Lst zRow (restL x.key w (l.take y.1)) y.2.1.1 y.2.1.2 ∧ Lst zRow (oldL x.key w (l.take y.1)) y.2.2.1.1 y.2.2.1.2 ∧ y.2.2.2 = spanL w (oldL x.key w (l.take y.1)) }) (fun y => st_ls1 j mk n g x w y.1.1 y.1.2.1.1 y.1.2.1.2 y.1.2.2.1.1 y.1.2.2.1.2 y.1.2.2.2) (fun y => n - y.1.1) ⟨(0, (0, fun _ => zRow), (0, fun _ => zRow), w), Nat.zero_le _, ⟨rfl, fun k h => absurd h (Nat.not_lt_zero k)⟩, ⟨rfl, fun k h => absurd h (Nat.not_lt_zero k)⟩, rfl⟩ ?_ ?_
  · refine cov_of ?_ ?_ ?_
    · (subst hA; (repeat' first | exact True.intro | exact rfl | apply And.intro))
    · (subst hA; (repeat' first | exact True.intro | exact rfl | apply And.intro | (intro _ _; first | rfl | trivial) | (intro q hq; exact absurd hq (Nat.not_lt_zero q))))
    · (subst hA; (repeat' first | exact True.intro | exact rfl | apply And.intro | exact .inl rfl | exact .inr (le_of_nble rfl)))
  rintro ⟨⟨u, ⟨kr, Gr⟩, ⟨ko, Go⟩, s1⟩, hu, hr, ho, hs1⟩
  have hu : u ≤ n := hu
  have hr : Lst zRow (restL x.key w (l.take u)) kr Gr := hr
  have ho : Lst zRow (oldL x.key w (l.take u)) ko Go := ho
  have hs1 : s1 = spanL w (oldL x.key w (l.take u)) := hs1
  have hkr : kr ≤ u := by
    rw [hr.1]
    refine Nat.le_trans (restL_len _ _ _) ?_
    rw [List.length_take]; omega
  have hko : ko ≤ u := by
    rw [ho.1]
    refine Nat.le_trans (oldL_len _ _ _) ?_
    rw [List.length_take]; omega
  obtain ⟨s2, hs2⟩ : ∃ z, z = winSpan s1 (g u).win := ⟨_, rfl⟩
  have cS := fun q (e : q = u) => c_sWinSpan s1 (g q).win s2 (by rw [e]; exact hs2)
  have eq0 : A.nat (Int.ofNat u) = u := by subst hA; exact Int.toNat_natCast u
  have hso : u < n → oldL x.key w (l.take (u + 1)) = oldL x.key w (l.take u) ++ if tchR x.key w (g u) = true then [g u] else [] := fun h => by rw [lst_take hl h, oldL_snoc]
  have hsr : u < n → restL x.key w (l.take (u + 1)) = restL x.key w (l.take u) ++ if tchR x.key w (g u) = true then [] else [g u] := fun h => by rw [lst_take hl h, restL_snoc]
  cbv
  repeat' first
    | apply And.intro
    | exact True.intro
    | with_reducible rfl
    | exact same_of hA rfl
    | refine br_of hA (fun _ => ?_) (fun _ => ?_)
    | exact imp_of hA id
    | (refine imp_of hA ?_; subst hA; simp only [real, Bool.true_and]; exact id)
    | (refine ind_of hA ?_; decide +kernel)
    | (refine call_of hA hM _ (cS _ eq0) ?_; cbv)
    | (refine call_ex hA hM (c_sTouchP _ _ _ _) (fun _ _ => ?_); cbv)
    | (refine inb_lt hA ?_; first | exact lt2_of hA (by assumption) | exact lt_of hA (by assumption))
    | exact room_add2 hA (by omega) (by decide)
    | exact flat_row hA _ _
  · rename_i hlt b hb hc
    have hlt' : u < n := by first | exact lt2_of hA hlt | exact lt_of hA hlt
    have ht : tchR x.key w (g u) = true := by
      rw [← eq0]
      subst hA
      unfold tchR
      rw [decide_eq_true_eq]
      have hb : b = true ↔ ((g (real.nat (Int.ofNat u))).win.s < w.e ∧ w.s < (g (real.nat (Int.ofNat u))).win.e) := hb
      have hc : (bif ((g (real.nat (Int.ofNat u))).key == x.key) then b else false) = true := hc
      cases hk : ((g (real.nat (Int.ofNat u))).key == x.key) with
      | false => rw [hk] at hc; cases hc
      | true => rw [hk] at hc; exact ⟨by simpa using hk, hb.1 hc⟩
    refine ⟨⟨(u + 1, (kr, Gr), (ko + 1, fun q => if q < ko then Go q else g u), s2), hlt', ?_, ?_, ?_⟩, by dsimp only; omega, cov_of ?_ ?_ ?_⟩
    · dsimp only; rw [hsr hlt', if_pos ht, List.append_nil]; exact hr
    · dsimp only; rw [hso hlt', if_pos ht]; exact lst_snoc ho
    · dsimp only; rw [hso hlt', if_pos ht, spanL_app, ← hs1]; exact hs2
    · (subst hA; (repeat' first | exact True.intro | exact rfl | apply And.intro | exact congrArg (fun x => DV.v (.int .i64 x)) (up64 hlt' hnL)))
    · (subst hA; (repeat' first | exact True.intro | exact rfl | apply And.intro | (intro _ _; first | rfl | trivial) | (intro q hq; exact push_if (A := real) eRow rfl ko Go (g u) (fun _ => eRow zRow) q hq)))
    · (subst hA; (repeat' first | exact True.intro | exact rfl | apply And.intro | exact .inl rfl | exact .inr (le_of_nble rfl)))
  · rename_i hlt b hb hc
    have hlt' : u < n := by first | exact lt2_of hA hlt | exact lt_of hA hlt
    have ht : ¬ tchR x.key w (g u) = true := by
      rw [← eq0]
      subst hA
      unfold tchR
      rw [decide_eq_true_eq]
      have hb : b = true ↔ ((g (real.nat (Int.ofNat u))).win.s < w.e ∧ w.s < (g (real.nat (Int.ofNat u))).win.e) := hb
      have hc : (bif ((g (real.nat (Int.ofNat u))).key == x.key) then b else false) = false := hc
      rintro ⟨h1, h2⟩
      rw [hb.2 h2] at hc
      rw [h1] at hc
      simp at hc
    refine ⟨⟨(u + 1, (kr + 1, fun q => if q < kr then Gr q else g u), (ko, Go), s1), hlt', ?_, ?_, ?_⟩, by dsimp only; omega, cov_of ?_ ?_ ?_⟩
    · dsimp only; rw [hsr hlt', if_neg ht]; exact lst_snoc hr
    · dsimp only; rw [hso hlt', if_neg ht, List.append_nil]; exact ho
    · dsimp only; rw [hso hlt', if_neg ht, List.append_nil]; exact hs1
    · (subst hA; (repeat' first | exact True.intro | exact rfl | apply And.intro | exact congrArg (fun x => DV.v (.int .i64 x)) (up64 hlt' hnL)))
    · (subst hA; (repeat' first | exact True.intro | exact rfl | apply And.intro | (intro _ _; first | rfl | trivial) | (intro q hq; exact push_if (A := real) eRow rfl kr Gr (g u) (fun _ => eRow zRow) q hq)))
    · (subst hA; (repeat' first | exact True.intro | exact rfl | apply And.intro | exact .inl rfl | exact .inr (le_of_nble rfl)))
  rename_i hge
  have hun : n = u := by first | (have := ge2_of hA hge; omega) | (have := ge_of hA hge; omega)
  have hr : Lst zRow (restL x.key w l) kr Gr := by rw [← lst_all hl, hun]; exact hr
  have ho : Lst zRow (oldL x.key w l) ko Go := by rw [← lst_all hl, hun]; exact ho
  have hss : s1 = sp := by rw [hs1, hsp, ← hun, lst_all hl]
  subst hss
  refine stop_of hA ⟨[(7, .c (.bp 448 1 0)), (12, .c (.own 1920 0 kr 1)), (13, .c (.own 1984 0 ko 1)), (4, .c (.bp 256 1 0)), (5, .c (.bp 320 1 0)), (6, .c (.bp 384 1 0)), (8, .c (.bp 512 1 0)), (11, .c (.bp 704 1 0))], [(256, 1, .box ((eJob j).map .d)), (320, 1, .box [.d (eI mk), .d (.sl 13 n fun i => eRow (g i))]), (384, 1, .box ((eItm x).map .d)), (448, 1, .box ((eWin w).map .d)), (512, 1, .box [.d (eI 0), .d (.v nilS)]), (704, 1, .box ((eRow ⟨x.key, s1, agg1 x.v, agg1 x.v, 0, false⟩).map .d)), (1920, 1, .arr 13 kr fun i => eRow (Gr i)), (1984, 1, .arr 13 ko fun i => eRow (Go i))]⟩ (cov_of ?_ ?_ ?_) ?_
  · (subst hA; (repeat' first | exact True.intro | exact rfl | apply And.intro))
  · (subst hA; (repeat' first | exact True.intro | exact rfl | apply And.intro | (intro _ _; first | rfl | trivial)))
  · (subst hA; (repeat' first | exact True.intro | exact rfl | apply And.intro | exact .inl rfl | exact .inr (le_of_nble rfl)))
  cbv
  obtain ⟨hk1, hg1, hg2⟩ := (one_iff ho).1 hone
  subst hk1
  repeat' first
    | exact (no hA (by assumption)).elim
    | (exfalso; rename_i h; subst hA; simp [real, hg1, hg2] at h; done)
    | apply And.intro
    | exact True.intro
    | with_reducible rfl
    | exact same_of hA rfl
    | refine br_of hA (fun _ => ?_) (fun _ => ?_)
    | exact imp_of hA id
    | (refine imp_of hA ?_; subst hA; simp only [real, Bool.true_and]; exact id)
    | (refine ind_of hA ?_; decide +kernel)
    | (refine inb_of hA fun _ => ?_; exact ⟨Int.le_refl 0, Int.one_pos⟩)
    | (refine call_of hA hM _ cI ?_; cbv)
    | exact flat_row hA _ _
theorem m_lsN (j : JobT) (mk : Int) (l : List RowT) (n : Nat) (g : Nat → RowT) (hl : Lst zRow l n g) (hn : n ≤ 500000) (x : ItmT) (w : WinT) (sp : WinT) (hsp : sp = spanL w (oldL x.key w l)) (hov : mk < w64 (sp.e + j.late)) (hone : oneB sp (oldL x.key w l) = false) (a : AggT) (ha : a = ((oldL x.key w l).map (·.all)).foldl aggB (agg1 x.v)) (t : RowT × List PaneT) (ht : t = tellS j mk ⟨x.key, sp, a, a, 0, false⟩) (n1 : Nat) (G1 : Nat → RowT) (h1 : Lst zRow (rPut t.1 (restL x.key w l)) n1 G1) (c : Nat) (P : Nat → PaneT) (hP : Lst zPan (goneL (oldL x.key w l) ++ t.2) c P) : Meets Try.prog 143 [xd (eJob j), .agg [.d (eI mk), .d (.sl 13 n fun i => eRow (g i))], xd (eItm x), xd (eWin w)]
    ⟨.tup [.agg [.d (eI mk), .d (.sl 13 n1 fun i => eRow (G1 i))], .c (.d (.sl 9 c fun i => ePane (P i))), .c (.d (eB true))], [none, none, none, none]⟩ := by
  have hnL : n ≤ maxLen := Nat.le_trans (show n ≤ 1080000 by omega) (by decide)
  have cA := c_sAggAdd zAgg x.v (agg1 x.v) rfl
  have no : ∀ {A : Ar}, real = A → A.cmp .geq mk (A.ar .add .i64 sp.e j.late) = true → False := fun hA h => by
    subst hA
    exact absurd (of_decide_eq_true h) (Int.not_le.2 hov)
  refine meets_frz (r := .tup [.agg [.d (eI mk), .own 13 n1 fun i => eRow (G1 i)], .c (.own 9 c fun i => ePane (P i)), .c (.d (eB true))]) ?_ rfl
  obtain ⟨cg, Pg, hPg⟩ := lst_ex zPan (goneL (oldL x.key w l))
  obtain ⟨ct, Pt, hPt⟩ := lst_ex zPan t.2
  have hct : ct ≤ 1 := by
    rw [hPt.1, ht]; unfold tellS; split <;> simp
  have hcc : c = cg + ct := by rw [hP.1, List.length_append, hPg.1, hPt.1]
  subst hcc
  refine meets_up (res := .tup [.agg [.d (eI mk), .own 13 n1 fun i => eRow (G1 i)], .c (.own 9 (real.add cg ct) (real.app cg (fun i => ePane (Pg i)) (real.sub 0 fun i => ePane (Pt i)))), .c (.d (eB true))]) ⟨⟨UpV.refl _, UpV.refl _, trivial⟩, UpV.row (fun i hi => (app_if ePane hPg hPt i hi).trans (congrArg ePane (hP.2 i hi).symm)), UpV.refl _, trivial⟩ ?_
  refine meets_of (H := [11, 22, 25]) (EX := EXA) ttok mixed Try.func143 rfl (by kernel_rfl) (by decide) ?_
  generalize hA : real = A
  generalize hM : MeetsB Try.prog = M
  cbv
  repeat' first
    | apply And.intro
    | exact True.intro
    | with_reducible rfl
    | exact same_of hA rfl
    | refine br_of hA (fun _ => ?_) (fun _ => ?_)
    | exact imp_of hA id
    | (refine imp_of hA ?_; subst hA; simp only [real, Bool.true_and]; exact id)
    | (refine ind_of hA ?_; decide +kernel)
    | (refine call_of hA hM _ cA ?_; cbv)
  refine loop_of hA (α := { y : Nat × (Nat × (Nat → RowT)) × (Nat × (Nat → RowT)) × WinT // y.1 ≤ n ∧ Lst zRow (restL x.key w (l.take y.1)) y.2.1.1 y.2.1.2 ∧ Lst zRow (oldL x.key w (l.take y.1)) y.2.2.1.1 y.2.2.1.2 ∧ y.2.2.2 = spanL w (oldL x.key w (l.take y.1)) }) (fun y => st_ls1 j mk n g x w y.1.1 y.1.2.1.1 y.1.2.1.2 y.1.2.2.1.1 y.1.2.2.1.2 y.1.2.2.2) (fun y => n - y.1.1) ⟨(0, (0, fun _ => zRow), (0, fun _ => zRow), w), Nat.zero_le _, ⟨rfl, fun k h => absurd h (Nat.not_lt_zero k)⟩, ⟨rfl, fun k h => absurd h (Nat.not_lt_zero k)⟩, rfl⟩ ?_ ?_
  · refine cov_of ?_ ?_ ?_
    · (subst hA; (repeat' first | exact True.intro | exact rfl | apply And.intro))
    · (subst hA; (repeat' first | exact True.intro | exact rfl | apply And.intro | (intro _ _; first | rfl | trivial) | (intro q hq; exact absurd hq (Nat.not_lt_zero q))))
    · (subst hA; (repeat' first | exact True.intro | exact rfl | apply And.intro | exact .inl rfl | exact .inr (le_of_nble rfl)))
  rintro ⟨⟨u, ⟨kr, Gr⟩, ⟨ko, Go⟩, s1⟩, hu, hr, ho, hs1⟩
  have hu : u ≤ n := hu
  have hr : Lst zRow (restL x.key w (l.take u)) kr Gr := hr
  have ho : Lst zRow (oldL x.key w (l.take u)) ko Go := ho
  have hs1 : s1 = spanL w (oldL x.key w (l.take u)) := hs1
  have hkr : kr ≤ u := by
    rw [hr.1]
    refine Nat.le_trans (restL_len _ _ _) ?_
    rw [List.length_take]; omega
  have hko : ko ≤ u := by
    rw [ho.1]
    refine Nat.le_trans (oldL_len _ _ _) ?_
    rw [List.length_take]; omega
  obtain ⟨s2, hs2⟩ : ∃ z, z = winSpan s1 (g u).win := ⟨_, rfl⟩
  have cS := fun q (e : q = u) => c_sWinSpan s1 (g q).win s2 (by rw [e]; exact hs2)
  have eq0 : A.nat (Int.ofNat u) = u := by subst hA; exact Int.toNat_natCast u
  have hso : u < n → oldL x.key w (l.take (u + 1)) = oldL x.key w (l.take u) ++ if tchR x.key w (g u) = true then [g u] else [] := fun h => by rw [lst_take hl h, oldL_snoc]
  have hsr : u < n → restL x.key w (l.take (u + 1)) = restL x.key w (l.take u) ++ if tchR x.key w (g u) = true then [] else [g u] := fun h => by rw [lst_take hl h, restL_snoc]
  cbv
  repeat' first
    | apply And.intro
    | exact True.intro
    | with_reducible rfl
    | exact same_of hA rfl
    | refine br_of hA (fun _ => ?_) (fun _ => ?_)
    | exact imp_of hA id
    | (refine imp_of hA ?_; subst hA; simp only [real, Bool.true_and]; exact id)
    | (refine ind_of hA ?_; decide +kernel)
    | (refine call_of hA hM _ (cS _ eq0) ?_; cbv)
    | (refine call_ex hA hM (c_sTouchP _ _ _ _) (fun _ _ => ?_); cbv)
    | (refine inb_lt hA ?_; first | exact lt2_of hA (by assumption) | exact lt_of hA (by assumption))
    | exact room_add2 hA (by omega) (by decide)
    | exact flat_row hA _ _
  · rename_i hlt b hb hc
    have hlt' : u < n := by first | exact lt2_of hA hlt | exact lt_of hA hlt
    have ht : tchR x.key w (g u) = true := by
      rw [← eq0]
      subst hA
      unfold tchR
      rw [decide_eq_true_eq]
      have hb : b = true ↔ ((g (real.nat (Int.ofNat u))).win.s < w.e ∧ w.s < (g (real.nat (Int.ofNat u))).win.e) := hb
      have hc : (bif ((g (real.nat (Int.ofNat u))).key == x.key) then b else false) = true := hc
      cases hk : ((g (real.nat (Int.ofNat u))).key == x.key) with
      | false => rw [hk] at hc; cases hc
      | true => rw [hk] at hc; exact ⟨by simpa using hk, hb.1 hc⟩
    refine ⟨⟨(u + 1, (kr, Gr), (ko + 1, fun q => if q < ko then Go q else g u), s2), hlt', ?_, ?_, ?_⟩, by dsimp only; omega, cov_of ?_ ?_ ?_⟩
    · dsimp only; rw [hsr hlt', if_pos ht, List.append_nil]; exact hr
    · dsimp only; rw [hso hlt', if_pos ht]; exact lst_snoc ho
    · dsimp only; rw [hso hlt', if_pos ht, spanL_app, ← hs1]; exact hs2
    · (subst hA; (repeat' first | exact True.intro | exact rfl | apply And.intro | exact congrArg (fun x => DV.v (.int .i64 x)) (up64 hlt' hnL)))
    · (subst hA; (repeat' first | exact True.intro | exact rfl | apply And.intro | (intro _ _; first | rfl | trivial) | (intro q hq; exact push_if (A := real) eRow rfl ko Go (g u) (fun _ => eRow zRow) q hq)))
    · (subst hA; (repeat' first | exact True.intro | exact rfl | apply And.intro | exact .inl rfl | exact .inr (le_of_nble rfl)))
  · rename_i hlt b hb hc
    have hlt' : u < n := by first | exact lt2_of hA hlt | exact lt_of hA hlt
    have ht : ¬ tchR x.key w (g u) = true := by
      rw [← eq0]
      subst hA
      unfold tchR
      rw [decide_eq_true_eq]
      have hb : b = true ↔ ((g (real.nat (Int.ofNat u))).win.s < w.e ∧ w.s < (g (real.nat (Int.ofNat u))).win.e) := hb
      have hc : (bif ((g (real.nat (Int.ofNat u))).key == x.key) then b else false) = false := hc
      rintro ⟨h1, h2⟩
      rw [hb.2 h2] at hc
      rw [h1] at hc
      simp at hc
    refine ⟨⟨(u + 1, (kr + 1, fun q => if q < kr then Gr q else g u), (ko, Go), s1), hlt', ?_, ?_, ?_⟩, by dsimp only; omega, cov_of ?_ ?_ ?_⟩
    · dsimp only; rw [hsr hlt', if_neg ht]; exact lst_snoc hr
    · dsimp only; rw [hso hlt', if_neg ht, List.append_nil]; exact ho
    · dsimp only; rw [hso hlt', if_neg ht, List.append_nil]; exact hs1
    · (subst hA; (repeat' first | exact True.intro | exact rfl | apply And.intro | exact congrArg (fun x => DV.v (.int .i64 x)) (up64 hlt' hnL)))
    · (subst hA; (repeat' first | exact True.intro | exact rfl | apply And.intro | (intro _ _; first | rfl | trivial) | (intro q hq; exact push_if (A := real) eRow rfl kr Gr (g u) (fun _ => eRow zRow) q hq)))
    · (subst hA; (repeat' first | exact True.intro | exact rfl | apply And.intro | exact .inl rfl | exact .inr (le_of_nble rfl)))
  rename_i hge
  have hun : n = u := by first | (have := ge2_of hA hge; omega) | (have := ge_of hA hge; omega)
  have hr : Lst zRow (restL x.key w l) kr Gr := by rw [← lst_all hl, hun]; exact hr
  have ho : Lst zRow (oldL x.key w l) ko Go := by rw [← lst_all hl, hun]; exact ho
  have hss : s1 = sp := by rw [hs1, hsp, ← hun, lst_all hl]
  subst hss
  refine stop_of hA ⟨[(7, .c (.bp 448 1 0)), (12, .c (.own 1920 0 kr 1)), (13, .c (.own 1984 0 ko 1)), (4, .c (.bp 256 1 0)), (5, .c (.bp 320 1 0)), (6, .c (.bp 384 1 0)), (8, .c (.bp 512 1 0)), (11, .c (.bp 704 1 0))], [(256, 1, .box ((eJob j).map .d)), (320, 1, .box [.d (eI mk), .d (.sl 13 n fun i => eRow (g i))]), (384, 1, .box ((eItm x).map .d)), (448, 1, .box ((eWin w).map .d)), (512, 1, .box [.d (eI 0), .d (.v nilS)]), (704, 1, .box ((eRow ⟨x.key, s1, agg1 x.v, agg1 x.v, 0, false⟩).map .d)), (1920, 1, .arr 13 kr fun i => eRow (Gr i)), (1984, 1, .arr 13 ko fun i => eRow (Go i))]⟩ (cov_of ?_ ?_ ?_) ?_
  · (subst hA; (repeat' first | exact True.intro | exact rfl | apply And.intro))
  · (subst hA; (repeat' first | exact True.intro | exact rfl | apply And.intro | (intro _ _; first | rfl | trivial)))
  · (subst hA; (repeat' first | exact True.intro | exact rfl | apply And.intro | exact .inl rfl | exact .inr (le_of_nble rfl)))
  cbv
  have hno : ¬ (ko = 1 ∧ (Go 0).win.s = s1.s ∧ (Go 0).win.e = s1.e) := fun h => by rw [(one_iff ho).2 h] at hone; cases hone
  obtain ⟨old, hold⟩ : ∃ old, old = oldL x.key w l := ⟨_, rfl⟩
  rw [← hold] at ho hP ha
  repeat' first
    | exact (no hA (by assumption)).elim
    | (exfalso; rename_i h; subst hA; simp [real] at h; exact hno ⟨by omega, h.2.1, h.2.2⟩)
    | apply And.intro
    | exact True.intro
    | with_reducible rfl
    | exact same_of hA rfl
    | refine br_of hA (fun _ => ?_) (fun _ => ?_)
    | exact imp_of hA id
    | (refine imp_of hA ?_; subst hA; simp only [real, Bool.true_and]; exact id)
    | (refine ind_of hA ?_; decide +kernel)
    | (refine inb_of hA fun h => ?_; subst hA; have h1 : ((ko : Nat) : Int) = 1 := of_decide_eq_true h; exact ⟨Int.le_refl 0, by omega⟩)
  have hoL : ko ≤ maxLen := Nat.le_trans (show ko ≤ 1080000 by omega) (by decide)
  refine loop_of hA (α := { y : Nat × AggT × Nat × (Nat → PaneT) // y.1 ≤ ko ∧ y.2.1 = ((old.take y.1).map (·.all)).foldl aggB (agg1 x.v) ∧ Lst zPan (goneL (old.take y.1)) y.2.2.1 y.2.2.2 }) (fun y => st_ls2 j mk n g x w kr Gr ko Go s1 y.1.1 y.1.2.1 y.1.2.2.1 y.1.2.2.2) (fun y => ko - y.1.1) ⟨(0, agg1 x.v, 0, fun _ => zPan), Nat.zero_le _, rfl, rfl, fun k h => absurd h (Nat.not_lt_zero k)⟩ ?_ ?_
  · refine cov_of ?_ ?_ ?_
    · (subst hA; (repeat' first | exact True.intro | exact rfl | apply And.intro))
    · (subst hA; (repeat' first | exact True.intro | exact rfl | apply And.intro | (intro _ _; first | rfl | trivial) | (intro q hq; exact absurd hq (Nat.not_lt_zero q))))
    · (subst hA; (repeat' first | exact True.intro | exact rfl | apply And.intro | exact .inl rfl | exact .inr (le_of_nble rfl)))
  rintro ⟨⟨u2, a1, c1, P1⟩, hu2, ha1, hP1⟩
  have hu2 : u2 ≤ ko := hu2
  have ha1 : a1 = ((old.take u2).map (·.all)).foldl aggB (agg1 x.v) := ha1
  have hP1 : Lst zPan (goneL (old.take u2)) c1 P1 := hP1
  have hc1 : c1 ≤ u2 := by
    rw [hP1.1]
    refine Nat.le_trans (gone_len _) ?_
    rw [List.length_take]; omega
  obtain ⟨a2, ha2⟩ : ∃ z, z = aggB a1 (Go u2).all := ⟨_, rfl⟩
  have eq2 : A.add 0 (A.nat (Int.ofNat u2)) = u2 := by subst hA; exact Nat.zero_add u2
  have cB := fun q (e : q = u2) => c_sAggBoth a1 (Go q).all a2 (by rw [e]; exact ha2)
  have hsa : u2 < ko → a2 = ((old.take (u2 + 1)).map (·.all)).foldl aggB (agg1 x.v) := fun h => by rw [lst_take ho h, List.map_append, List.foldl_append, ← ha1]; exact ha2
  cbv
  repeat' first
    | apply And.intro
    | exact True.intro
    | with_reducible rfl
    | exact same_of hA rfl
    | refine br_of hA (fun _ => ?_) (fun _ => ?_)
    | exact imp_of hA id
    | (refine imp_of hA ?_; subst hA; simp only [real, Bool.true_and]; exact id)
    | (refine ind_of hA ?_; decide +kernel)
    | (refine call_of hA hM _ (cB _ eq2) ?_; cbv)
    | (refine inb_lt hA ?_; first | exact lt2_of hA (by assumption) | exact lt_of hA (by assumption))
    | exact room_add2 hA (by omega) (by decide)
    | exact flat_row hA _ _
  · rename_i hlt hc3
    have hlt' : u2 < ko := by first | exact lt2_of hA hlt | exact lt_of hA hlt
    have hto : 0 < (Go u2).told := by
      rw [← eq2]
      subst hA
      exact of_decide_eq_true hc3
    have htk : goneL (old.take (u2 + 1)) = goneL (old.take u2) ++ [goneP (Go u2)] := by
      rw [lst_take ho hlt', goneL_snoc, if_pos hto]
    refine ⟨⟨(u2 + 1, a2, c1 + 1, fun q => if q < c1 then P1 q else goneP (Go u2)), hlt', hsa hlt', ?_⟩, by dsimp only; omega, cov_of ?_ ?_ ?_⟩
    · dsimp only; rw [htk]
      exact lst_snoc hP1
    · (subst hA; (repeat' first | exact True.intro | exact rfl | apply And.intro | exact congrArg (fun x => DV.v (.int .i64 x)) (up64 hlt' hoL)))
    · (subst hA; (repeat' first | exact True.intro | exact rfl | apply And.intro | (intro _ _; first | rfl | trivial) | (intro q hq; refine Eq.trans (push_if (A := real) ePane rfl c1 P1 (goneP (Go (0 + u2))) (fun _ => ePane zPan) q hq) (congrArg ePane (by rw [Nat.zero_add])))))
    · (subst hA; (repeat' first | exact True.intro | exact rfl | apply And.intro | exact .inl rfl | exact .inr (le_of_nble rfl)))
  · rename_i hlt hc3
    have hlt' : u2 < ko := by first | exact lt2_of hA hlt | exact lt_of hA hlt
    have hto : ¬ 0 < (Go u2).told := by
      rw [← eq2]
      subst hA
      exact of_decide_eq_false hc3
    have htk : goneL (old.take (u2 + 1)) = goneL (old.take u2) ++ [] := by
      rw [lst_take ho hlt', goneL_snoc, if_neg hto]
    refine ⟨⟨(u2 + 1, a2, c1, P1), hlt', hsa hlt', ?_⟩, by dsimp only; omega, cov_of ?_ ?_ ?_⟩
    · dsimp only; rw [htk]
      rw [List.append_nil]; exact hP1
    · (subst hA; (repeat' first | exact True.intro | exact rfl | apply And.intro | exact congrArg (fun x => DV.v (.int .i64 x)) (up64 hlt' hoL)))
    · (subst hA; (repeat' first | exact True.intro | exact rfl | apply And.intro | (intro _ _; first | rfl | trivial) | (intro q hq; refine Eq.trans (push_if (A := real) ePane rfl c1 P1 (goneP (Go (0 + u2))) (fun _ => ePane zPan) q hq) (congrArg ePane (by rw [Nat.zero_add])))))
    · (subst hA; (repeat' first | exact True.intro | exact rfl | apply And.intro | exact .inl rfl | exact .inr (le_of_nble rfl)))
  rename_i hge
  have hk2 : ko = u2 := by first | (have := ge2_of hA hge; omega) | (have := ge_of hA hge; omega)
  have ea : a1 = a := by rw [ha1, ha, ← hk2, lst_all ho]
  have hP9 : Lst zPan (goneL old) c1 P1 := by rw [← lst_all ho, hk2]; exact hP1
  subst ea
  rw [← hold] at hPg
  have hcg : c1 = cg := hP9.1.trans hPg.1.symm
  subst hcg
  have cT := c_l7Tell j mk (restL x.key w l) kr Gr hr (by omega) ⟨x.key, s1, a1, a1, 0, false⟩ t ht n1 G1 h1 ct Pt hPt
  refine stop_of hA ⟨[(12, .c (.own 1920 0 kr 1)), (15, .c (.own 7424 0 c1 1)), (4, .c (.bp 256 1 0)), (5, .c (.bp 320 1 0)), (6, .c (.bp 384 1 0)), (8, .c (.bp 512 1 0)), (11, .c (.bp 704 1 0))], [(256, 1, .box ((eJob j).map .d)), (320, 1, .box [.d (eI mk), .d (.sl 13 n fun i => eRow (g i))]), (384, 1, .box ((eItm x).map .d)), (448, 1, .box ((eWin w).map .d)), (512, 1, .box [.d (eI 0), .d (.v nilS)]), (704, 1, .box ((eRow ⟨x.key, s1, a1, agg1 x.v, 0, false⟩).map .d)), (1920, 1, .arr 13 kr fun i => eRow (Gr i)), (7424, 1, .arr 9 c1 fun i => ePane (Pg i))]⟩ (cov_of ?_ ?_ ?_) ?_
  · (subst hA; (repeat' first | exact True.intro | exact rfl | apply And.intro))
  · (subst hA; (repeat' first | exact True.intro | exact rfl | apply And.intro | (intro _ _; first | rfl | trivial) | (intro q hq; exact congrArg ePane ((hP9.2 q hq).trans (hPg.2 q hq).symm))))
  · (subst hA; (repeat' first | exact True.intro | exact rfl | apply And.intro | exact .inl rfl | exact .inr (le_of_nble rfl)))
  cbv
  repeat' first
    | apply And.intro
    | exact True.intro
    | with_reducible rfl
    | exact same_of hA rfl
    | refine br_of hA (fun _ => ?_) (fun _ => ?_)
    | exact imp_of hA id
    | (refine imp_of hA ?_; subst hA; simp only [real, Bool.true_and]; exact id)
    | (refine ind_of hA ?_; decide +kernel)
    | (refine call_of2 hA hM _ cT (by subst hA; first | rfl | (simp only [sub0r]; try rfl)) ?_; cbv)
    | exact flat_row hA _ _
    | exact flat_pane hA _ _
  refine stop_of hA ⟨[(15, .c (.own 7424 0 c1 1)), (17, .c (.own 10626 0 ct 1)), (5, .c (.bp 320 1 0)), (8, .c (.bp 512 1 0))], [(320, 1, .box [.d (eI mk), .own 10625 0 n1 1]), (512, 1, .box [.d (eI 0), .d (.v nilS)]), (10625, 1, .arr 13 n1 fun i => eRow (G1 i)), (10626, 1, .arr 9 ct fun i => ePane (Pt i)), (7424, 1, .arr 9 c1 fun i => ePane (Pg i))]⟩ (cov_of ?_ ?_ ?_) ?_
  · (subst hA; (repeat' first | exact True.intro | exact rfl | apply And.intro))
  · (subst hA; (repeat' first | exact True.intro | exact rfl | apply And.intro | (intro _ _; first | rfl | trivial)))
  · (subst hA; (repeat' first | exact True.intro | exact rfl | apply And.intro | exact .inl rfl | exact .inr (le_of_nble rfl)))
  cbv
  repeat' first
    | apply And.intro
    | exact True.intro
    | with_reducible rfl
    | exact same_of hA rfl
    | refine br_of hA (fun _ => ?_) (fun _ => ?_)
    | exact imp_of hA id
    | (refine imp_of hA ?_; subst hA; simp only [real, Bool.true_and]; exact id)
    | (refine ind_of hA ?_; decide +kernel)
    | exact room_add2 hA (by omega) (by decide)
  all_goals (subst hA; rfl)
end Go.Rk
/- A record, as the reference takes it. -/
namespace Go.Rk
set_option linter.unusedSimpArgs false
set_option linter.unusedVariables false
open Go.Proofs
set_option maxRecDepth 100000
set_option maxHeartbeats 1000000
theorem c_l7Session (j : JobT) (mk : Int) (l : List RowT) (n : Nat) (g : Nat → RowT) (hl : Lst zRow l n g) (hn : n ≤ 500000) (x : ItmT) (w : WinT) :
    (∀ q, sessL j mk x.key x.v w l = some q → ∀ n1 G1, Lst zRow q.1 n1 G1 → ∀ c P, Lst zPan q.2 c P → Meets Try.prog 143 [xd (eJob j), .agg [.d (eI mk), .d (.sl 13 n fun i => eRow (g i))], xd (eItm x), xd (eWin w)] ⟨.tup [.agg [.d (eI mk), .d (.sl 13 n1 fun i => eRow (G1 i))], .c (.d (.sl 9 c fun i => ePane (P i))), .c (.d (eB true))], [none, none, none, none]⟩) ∧
    (sessL j mk x.key x.v w l = none → ∀ n1 G1, n1 = n → G1 = g → ∀ c P, c = 0 → P = (fun _ => zPan) → Meets Try.prog 143 [xd (eJob j), .agg [.d (eI mk), .d (.sl 13 n fun i => eRow (g i))], xd (eItm x), xd (eWin w)] ⟨.tup [.agg [.d (eI mk), .d (.sl 13 n1 fun i => eRow (G1 i))], .c (.d (.sl 9 c fun i => ePane (P i))), .c (.d (eB false))], [none, none, none, none]⟩) := by
  obtain ⟨sp, hsp⟩ : ∃ sp, sp = spanL w (oldL x.key w l) := ⟨_, rfl⟩
  unfold sessL
  rw [← hsp]
  refine ⟨fun q hq n1 G1 h1 c P hP => ?_, fun hq n1 G1 e1 e2 c P e3 e4 => ?_⟩
  · split at hq
    · cases hq
    · rename_i hov
      have hov : mk < w64 (sp.e + j.late) := by omega
      split at hq
      · rename_i hone
        exact m_lsO j mk l n g hl hn x w sp hsp hov hone q hq n1 G1 h1 c P hP
      · rename_i hone
        have hone : oneB sp (oldL x.key w l) = false := by
          cases h : oneB sp (oldL x.key w l) with
          | true => exact absurd h hone
          | false => rfl
        cases hq
        exact m_lsN j mk l n g hl hn x w sp hsp hov hone _ rfl _ rfl n1 G1 h1 c P hP
  · split at hq
    · rename_i hov
      subst e1 e2 e3
      exact m_lsG j mk l n1 G1 hl hn x w sp hsp hov P
    · rename_i hov
      have hov : mk < w64 (sp.e + j.late) := by omega
      split at hq
      · rename_i hone
        unfold intoL at hq
        rw [if_neg (by omega)] at hq; cases hq
      · cases hq
def st_lt (j : JobT) (mk : Int) (x : ItmT) (nw : Nat) (g : Nat → WinT) (u n : Nat) (R : Nat → RowT) (c : Nat) (P : Nat → PaneT) (d : Nat) (Q : Nat → LatT) : St := ⟨[(12, .c (.d (eI u))), (11, .c (.own 1280 0 nw 1)), (9, .c (.own 960 0 c 1)), (10, .c (.own 1024 0 d 1)), (3, .c (.bp 192 1 0)), (4, .c (.bp 256 1 0)), (5, .c (.bp 320 1 0)), (6, .c (.bp 384 1 0))], [(192, 1, .box ((eJob j).map .d)), (256, 1, .box [.d (eI mk), .d (.sl 13 n fun i => eRow (R i))]), (320, 1, .box ((eItm x).map .d)), (384, 1, .box [.d (eI 0), .d (.v nilS)]), (960, 1, .arr 9 c fun i => ePane (P i)), (1024, 1, .arr 7 d fun i => eLat (Q i)), (1280, 1, .arr 2 nw fun i => eWin (g i))]⟩
theorem c_l7Take (j : JobT) (mk : Int) (L0 : List RowT) (n0 : Nat) (g0 : Nat → RowT) (hl0 : Lst zRow L0 n0 g0) (hn0 : n0 ≤ 1000) (x : ItmT) (hjob : JobOkP j) (hx : 0 ≤ x.t ∧ x.t ≤ 60) (k : Nat) (G : Nat → RowT) (hG : Lst zRow (takeL j mk x (winsL j x.t) L0).1 k G) (cz : Nat) (Pz : Nat → PaneT) (hPz : Lst zPan (takeL j mk x (winsL j x.t) L0).2.1 cz Pz) (dz : Nat) (Qz : Nat → LatT) (hQz : Lst zLat (takeL j mk x (winsL j x.t) L0).2.2 dz Qz) :
    Meets Try.prog 107 [xd (eJob j), .agg [.d (eI mk), .d (.sl 13 n0 fun i => eRow (g0 i))], xd (eItm x)] ⟨.tup [.agg [.d (eI mk), .d (.sl 13 k fun i => eRow (G i))], .c (.d (.sl 9 cz fun i => ePane (Pz i))), .c (.d (.sl 7 dz fun i => eLat (Qz i)))], [none, none, none]⟩ := by
  obtain ⟨ws, hws⟩ : ∃ ws, ws = winsL j x.t := ⟨_, rfl⟩
  rw [← hws] at hG hPz hQz
  obtain ⟨nw, g, hg⟩ := lst_ex zWin ws
  have hnw : nw ≤ 100 := by rw [hg.1, hws]; exact winsL_len _ _
  have hnw2 : nw ≤ maxLen := Nat.le_trans hnw (by decide)
  have cW := c_l4Of j x.t hjob hx nw g (by rw [← hws]; exact lst_tells eWin hg)
  refine meets_frz (r := .tup [.agg [.d (eI mk), .d (.sl 13 k fun i => eRow (G i))], .c (.own 9 cz fun i => ePane (Pz i)), .c (.own 7 dz fun i => eLat (Qz i))]) ?_ rfl
  refine meets_of (H := [15]) (EX := EXA) ttok mixed Try.func107 rfl (by kernel_rfl) (by decide) ?_
  generalize hA : real = A
  generalize hM : MeetsB Try.prog = M
  cbv
  repeat' first
    | apply And.intro
    | exact True.intro
    | with_reducible rfl
    | exact same_of hA rfl
    | refine br_of hA (fun _ => ?_) (fun _ => ?_)
    | exact imp_of hA id
    | (refine imp_of hA ?_; subst hA; simp only [real, Bool.true_and]; exact id)
    | (refine ind_of hA ?_; decide +kernel)
    | (refine call_of hA hM _ cW ?_; cbv)
  refine loop_of hA (α := { y : Nat × (Nat × (Nat → RowT)) × (Nat × (Nat → PaneT)) × (Nat × (Nat → LatT)) // y.1 ≤ nw ∧ Lst zRow (takeL j mk x (ws.take y.1) L0).1 y.2.1.1 y.2.1.2 ∧ Lst zPan (takeL j mk x (ws.take y.1) L0).2.1 y.2.2.1.1 y.2.2.1.2 ∧ Lst zLat (takeL j mk x (ws.take y.1) L0).2.2 y.2.2.2.1 y.2.2.2.2 }) (fun y => st_lt j mk x nw g y.1.1 y.1.2.1.1 y.1.2.1.2 y.1.2.2.1.1 y.1.2.2.1.2 y.1.2.2.2.1 y.1.2.2.2.2) (fun y => nw - y.1.1) ⟨(0, (n0, g0), (0, fun _ => zPan), (0, fun _ => zLat)), Nat.zero_le _, hl0, ⟨rfl, fun k h => absurd h (Nat.not_lt_zero k)⟩, ⟨rfl, fun k h => absurd h (Nat.not_lt_zero k)⟩⟩ ?_ ?_
  · refine cov_of ?_ ?_ ?_
    · (subst hA; (repeat' first | exact True.intro | exact rfl | apply And.intro))
    · (subst hA; (repeat' first | exact True.intro | exact rfl | apply And.intro | (intro _ _; first | rfl | trivial) | (intro q hq; exact absurd hq (Nat.not_lt_zero q))))
    · (subst hA; (repeat' first | exact True.intro | exact rfl | apply And.intro | exact .inl rfl | exact .inr (le_of_nble rfl)))
  rintro ⟨⟨u, ⟨n, R⟩, ⟨c, P⟩, ⟨d, Q⟩⟩, hu, hR, hP, hQ⟩
  have hu : u ≤ nw := hu
  obtain ⟨T, hT⟩ : ∃ T, T = takeL j mk x (ws.take u) L0 := ⟨_, rfl⟩
  have hR : Lst zRow T.1 n R := by rw [hT]; exact hR
  have hP : Lst zPan T.2.1 c P := by rw [hT]; exact hP
  have hQ : Lst zLat T.2.2 d Q := by rw [hT]; exact hQ
  have hlen := takeL_len (j := j) (m := mk) (x := x) (l := L0) (ws.take u)
  have hul : (ws.take u).length = u := by rw [List.length_take, ← hg.1]; omega
  rw [← hT, hul, ← hl0.1, ← hR.1, ← hP.1, ← hQ.1] at hlen
  obtain ⟨hn1, hc1, hd1⟩ := hlen
  have hc2 : c ≤ 200000 := by
    have h1 : u * (n0 + u + 1) ≤ 100 * 1200 := Nat.mul_le_mul (by omega) (by omega)
    omega
  have hnext : ∀ (hlt : u < nw) (T' : List RowT × List PaneT × List LatT), takeS j mk x T (g u) = T' → takeL j mk x (ws.take (u + 1)) L0 = T' := fun hlt T' h => by rw [lst_take hg hlt, takeL_snoc, ← hT]; exact h
  have eq0 : A.add 0 (A.nat (Int.ofNat u)) = u := by subst hA; exact Nat.zero_add u
  have cI := c_l7Into j mk T.1 n R hR (by omega) x (g u)
  have cS := c_l7Session j mk T.1 n R hR (by omega) x (g u)
  cbv
  repeat' first
    | apply And.intro
    | exact True.intro
    | with_reducible rfl
    | exact same_of hA rfl
    | refine br_of hA (fun _ => ?_) (fun _ => ?_)
    | exact imp_of hA id
    | (refine imp_of hA ?_; subst hA; simp only [real, Bool.true_and]; exact id)
    | (refine ind_of hA ?_; decide +kernel)
    | (refine inb_lt hA ?_; first | exact lt2_of hA (by assumption) | exact lt_of hA (by assumption))
    | exact room_add2 hA (by omega) (by decide)
  · rename_i hlt hkd
    have hlt' : u < nw := by first | exact lt2_of hA hlt | exact lt_of hA hlt
    have hkd : j.kind = 3 := eq_of hA hkd
    have hstep : stepT j mk x (g u) T.1 = sessL j mk x.key x.v (g u) T.1 := by unfold stepT; rw [if_pos hkd]
    cases hq : sessL j mk x.key x.v (g u) T.1 with
    | none =>
      have hs := takeS_none (hstep.trans hq)
      have cN := fun q (e : q = u) => meets_at (P := Try.prog) (f := 143) (F := fun q => [xd (eJob j), .agg [.d (eI mk), .d (.sl 13 n fun i => eRow (R i))], xd (eItm x), xd (eWin (g q))]) e (cS.2 hq n R rfl rfl 0 _ rfl rfl)
      refine call_of hA hM _ (cN _ eq0) ?_
      cbv
      repeat' first
        | (exfalso; rename_i h; subst hA; simp [real] at h; done)
        | apply And.intro
        | exact True.intro
        | with_reducible rfl
        | exact same_of hA rfl
        | refine br_of hA (fun _ => ?_) (fun _ => ?_)
        | exact imp_of hA id
        | (refine imp_of hA ?_; subst hA; simp only [real, Bool.true_and]; exact id)
        | (refine ind_of hA ?_; decide +kernel)
        | (refine inb_lt hA ?_; first | exact lt2_of hA (by assumption) | exact lt_of hA (by assumption))
        | (refine inb_of hA fun _ => ?_; exact ⟨Int.natCast_nonneg _, Int.ofNat_lt.2 hlt'⟩)
        | exact room_add2 hA (by omega) (by decide)
      refine ⟨⟨(u + 1, (n, R), (c, P), (d + 1, fun z => if z < d then Q z else ⟨x, g u⟩)), hlt', ?_, ?_, ?_⟩, by dsimp only; omega, cov_of ?_ ?_ ?_⟩
      · dsimp only; rw [hnext hlt' _ hs]; exact hR
      · dsimp only; rw [hnext hlt' _ hs]; exact hP
      · dsimp only; rw [hnext hlt' _ hs]; exact lst_snoc hQ
      · (subst hA; (repeat' first | exact True.intro | exact rfl | apply And.intro | exact congrArg (fun x => DV.v (.int .i64 x)) (up64 hlt' hnw2)))
      · (subst hA; (repeat' first | exact True.intro | exact rfl | apply And.intro | (intro _ _; first | rfl | trivial) | (intro q hq; refine Eq.trans (push_if (A := real) eLat rfl d Q ⟨x, g (0 + u)⟩ (fun _ => [eI 0, eI 0, eI 0, eI 0, eI 0, eI 0, eI 0]) q hq) (congrArg eLat (by rw [Nat.zero_add]))) | (intro q hq; exact (if_pos hq))))
      · (subst hA; (repeat' first | exact True.intro | exact rfl | apply And.intro | exact .inl rfl | exact .inr (le_of_nble rfl)))
    | some r =>
      have hs := takeS_some (hstep.trans hq)
      obtain ⟨n1, R1, h1⟩ := lst_ex zRow r.1
      obtain ⟨c3, P3, h3⟩ := lst_ex zPan r.2
      have hrl : c3 ≤ n + 1 := by
        have := sess_len hq
        rw [← hR.1] at this
        rw [h3.1]; omega
      have cN := fun q (e : q = u) => meets_at (P := Try.prog) (f := 143) (F := fun q => [xd (eJob j), .agg [.d (eI mk), .d (.sl 13 n fun i => eRow (R i))], xd (eItm x), xd (eWin (g q))]) e (cS.1 r hq n1 R1 h1 c3 P3 h3)
      refine call_of hA hM _ (cN _ eq0) ?_
      cbv
      repeat' first
        | (exfalso; rename_i h; subst hA; simp [real] at h; done)
        | apply And.intro
        | exact True.intro
        | with_reducible rfl
        | exact same_of hA rfl
        | refine br_of hA (fun _ => ?_) (fun _ => ?_)
        | exact imp_of hA id
        | (refine imp_of hA ?_; subst hA; simp only [real, Bool.true_and]; exact id)
        | (refine ind_of hA ?_; decide +kernel)
        | (refine inb_lt hA ?_; first | exact lt2_of hA (by assumption) | exact lt_of hA (by assumption))
        | exact room_add2 hA (by omega) (by decide)
      refine ⟨⟨(u + 1, (n1, R1), (c + c3, fun z => if z < c then P z else P3 (z - c)), (d, Q)), hlt', ?_, ?_, ?_⟩, by dsimp only; omega, cov_of ?_ ?_ ?_⟩
      · dsimp only; rw [hnext hlt' _ hs]; exact h1
      · dsimp only; rw [hnext hlt' _ hs]; exact lst_app hP h3
      · dsimp only; rw [hnext hlt' _ hs]; exact hQ
      · (subst hA; (repeat' first | exact True.intro | exact rfl | apply And.intro | exact congrArg (fun x => DV.v (.int .i64 x)) (up64 hlt' hnw2)))
      · (subst hA; (repeat' first | exact True.intro | exact rfl | apply And.intro | (intro _ _; first | rfl | trivial) | (intro q hq; exact app_if2 ePane q)))
      · (subst hA; (repeat' first | exact True.intro | exact rfl | apply And.intro | exact .inl rfl | exact .inr (le_of_nble rfl)))
  · rename_i hlt hkd
    have hlt' : u < nw := by first | exact lt2_of hA hlt | exact lt_of hA hlt
    have hkd : ¬ j.kind = 3 := ne_of hA hkd
    have hstep : stepT j mk x (g u) T.1 = intoL j mk x.key x.v (g u) T.1 := by unfold stepT; rw [if_neg hkd]
    cases hq : intoL j mk x.key x.v (g u) T.1 with
    | none =>
      have hs := takeS_none (hstep.trans hq)
      have cN := fun q (e : q = u) => meets_at (P := Try.prog) (f := 144) (F := fun q => [xd (eJob j), .agg [.d (eI mk), .d (.sl 13 n fun i => eRow (R i))], xd (eItm x), xd (eWin (g q))]) e (cI.2 hq n R rfl rfl 0 _ rfl rfl)
      refine call_of hA hM _ (cN _ eq0) ?_
      cbv
      repeat' first
        | (exfalso; rename_i h; subst hA; simp [real] at h; done)
        | apply And.intro
        | exact True.intro
        | with_reducible rfl
        | exact same_of hA rfl
        | refine br_of hA (fun _ => ?_) (fun _ => ?_)
        | exact imp_of hA id
        | (refine imp_of hA ?_; subst hA; simp only [real, Bool.true_and]; exact id)
        | (refine ind_of hA ?_; decide +kernel)
        | (refine inb_lt hA ?_; first | exact lt2_of hA (by assumption) | exact lt_of hA (by assumption))
        | (refine inb_of hA fun _ => ?_; exact ⟨Int.natCast_nonneg _, Int.ofNat_lt.2 hlt'⟩)
        | exact room_add2 hA (by omega) (by decide)
      refine ⟨⟨(u + 1, (n, R), (c, P), (d + 1, fun z => if z < d then Q z else ⟨x, g u⟩)), hlt', ?_, ?_, ?_⟩, by dsimp only; omega, cov_of ?_ ?_ ?_⟩
      · dsimp only; rw [hnext hlt' _ hs]; exact hR
      · dsimp only; rw [hnext hlt' _ hs]; exact hP
      · dsimp only; rw [hnext hlt' _ hs]; exact lst_snoc hQ
      · (subst hA; (repeat' first | exact True.intro | exact rfl | apply And.intro | exact congrArg (fun x => DV.v (.int .i64 x)) (up64 hlt' hnw2)))
      · (subst hA; (repeat' first | exact True.intro | exact rfl | apply And.intro | (intro _ _; first | rfl | trivial) | (intro q hq; refine Eq.trans (push_if (A := real) eLat rfl d Q ⟨x, g (0 + u)⟩ (fun _ => [eI 0, eI 0, eI 0, eI 0, eI 0, eI 0, eI 0]) q hq) (congrArg eLat (by rw [Nat.zero_add]))) | (intro q hq; exact (if_pos hq))))
      · (subst hA; (repeat' first | exact True.intro | exact rfl | apply And.intro | exact .inl rfl | exact .inr (le_of_nble rfl)))
    | some r =>
      have hs := takeS_some (hstep.trans hq)
      obtain ⟨n1, R1, h1⟩ := lst_ex zRow r.1
      obtain ⟨c3, P3, h3⟩ := lst_ex zPan r.2
      have hrl : c3 ≤ n + 1 := by
        have := into_len hq
        rw [← hR.1] at this
        rw [h3.1]; omega
      have cN := fun q (e : q = u) => meets_at (P := Try.prog) (f := 144) (F := fun q => [xd (eJob j), .agg [.d (eI mk), .d (.sl 13 n fun i => eRow (R i))], xd (eItm x), xd (eWin (g q))]) e (cI.1 r hq n1 R1 h1 c3 P3 h3)
      refine call_of hA hM _ (cN _ eq0) ?_
      cbv
      repeat' first
        | (exfalso; rename_i h; subst hA; simp [real] at h; done)
        | apply And.intro
        | exact True.intro
        | with_reducible rfl
        | exact same_of hA rfl
        | refine br_of hA (fun _ => ?_) (fun _ => ?_)
        | exact imp_of hA id
        | (refine imp_of hA ?_; subst hA; simp only [real, Bool.true_and]; exact id)
        | (refine ind_of hA ?_; decide +kernel)
        | (refine inb_lt hA ?_; first | exact lt2_of hA (by assumption) | exact lt_of hA (by assumption))
        | exact room_add2 hA (by omega) (by decide)
      refine ⟨⟨(u + 1, (n1, R1), (c + c3, fun z => if z < c then P z else P3 (z - c)), (d, Q)), hlt', ?_, ?_, ?_⟩, by dsimp only; omega, cov_of ?_ ?_ ?_⟩
      · dsimp only; rw [hnext hlt' _ hs]; exact h1
      · dsimp only; rw [hnext hlt' _ hs]; exact lst_app hP h3
      · dsimp only; rw [hnext hlt' _ hs]; exact hQ
      · (subst hA; (repeat' first | exact True.intro | exact rfl | apply And.intro | exact congrArg (fun x => DV.v (.int .i64 x)) (up64 hlt' hnw2)))
      · (subst hA; (repeat' first | exact True.intro | exact rfl | apply And.intro | (intro _ _; first | rfl | trivial) | (intro q hq; exact app_if2 ePane q)))
      · (subst hA; (repeat' first | exact True.intro | exact rfl | apply And.intro | exact .inl rfl | exact .inr (le_of_nble rfl)))
  rename_i hge
  have hun : nw = u := by first | (have := ge2_of hA hge; omega) | (have := ge_of hA hge; omega)
  have hR9 : Lst zRow (takeL j mk x ws L0).1 n R := by rw [← lst_all hg, hun, ← hT]; exact hR
  have hP9 : Lst zPan (takeL j mk x ws L0).2.1 c P := by rw [← lst_all hg, hun, ← hT]; exact hP
  have hQ9 : Lst zLat (takeL j mk x ws L0).2.2 d Q := by rw [← lst_all hg, hun, ← hT]; exact hQ
  have e1 : n = k := hR9.1.trans hG.1.symm
  have e2 : c = cz := hP9.1.trans hPz.1.symm
  have e3 : d = dz := hQ9.1.trans hQz.1.symm
  subst e1 e2 e3
  refine stop_of hA ⟨[(9, .c (.own 960 0 c 1)), (10, .c (.own 1024 0 d 1)), (3, .c (.bp 192 1 0)), (4, .c (.bp 256 1 0)), (5, .c (.bp 320 1 0)), (6, .c (.bp 384 1 0))], [(192, 1, .box ((eJob j).map .d)), (256, 1, .box [.d (eI mk), .d (.sl 13 n fun i => eRow (G i))]), (320, 1, .box ((eItm x).map .d)), (384, 1, .box [.d (eI 0), .d (.v nilS)]), (960, 1, .arr 9 c fun i => ePane (Pz i)), (1024, 1, .arr 7 d fun i => eLat (Qz i))]⟩ (cov_dB 256 13 (fun i => eRow (R i)) (fun i => eRow (G i)) [.d (eI mk)] [] rfl (fun q hq => congrArg eRow ((hR9.2 q hq).trans (hG.2 q hq).symm)) (cov_of ?_ ?_ ?_)) ?_
  · (subst hA; (repeat' first | exact True.intro | exact rfl | apply And.intro))
  · (subst hA; (repeat' first | exact True.intro | exact rfl | apply And.intro | (intro _ _; first | rfl | trivial) | (intro q hq; exact congrArg ePane ((hP9.2 q hq).trans (hPz.2 q hq).symm)) | (intro q hq; exact congrArg eLat ((hQ9.2 q hq).trans (hQz.2 q hq).symm))))
  · (subst hA; (repeat' first | exact True.intro | exact rfl | apply And.intro | exact .inl rfl | exact .inr (le_of_nble rfl)))
  cbv
  repeat' first
    | apply And.intro
    | exact True.intro
    | with_reducible rfl
    | exact same_of hA rfl
    | refine br_of hA (fun _ => ?_) (fun _ => ?_)
    | exact imp_of hA id
    | (refine imp_of hA ?_; subst hA; simp only [real, Bool.true_and]; exact id)
    | (refine ind_of hA ?_; decide +kernel)
def EXST : FuncId → List Nat × Bool := fun f => bif nbeq f 107 then ([], true) else ([], false)
theorem c_sOpTake (j : JobT) (s : OpStT) (hn : s.rows.n ≤ 1080000) (x : ItmT) (y : Int × List RowT × List PaneT × List LatT) (hy : y = opTakeL j s x) (k : Nat) (G : Nat → RowT) (hG : Lst zRow y.2.1 k G) (c : Nat) (P : Nat → PaneT) (hP : Lst zPan y.2.2.1 c P) (d : Nat) (Q : Nat → LatT) (hQ : Lst zLat y.2.2.2 d Q) :
    Meets Try.prog 49 [xd (eJob j), .agg [.d (eI s.mark), .d (.sl 13 s.rows.n fun i => eRow (s.rows.g i))], xd (eItm x)] ⟨.tup [.agg [.d (eI y.1), .d (.sl 13 k fun i => eRow (G i))], .c (.d (.sl 9 c fun i => ePane (P i))), .c (.d (.sl 7 d fun i => eLat (Q i)))], [none, none, none]⟩ := by
  unfold opTakeL at hy
  obtain ⟨b1, hb1, cO⟩ := c_sOpOk j s
  obtain ⟨b2, hb2, cR⟩ := c_sItmOkP x
  by_cases hok : OpOkP j s ∧ RecP x ∧ s.rows.n ≤ 280
  · rw [if_pos hok] at hy
    subst hy
    obtain ⟨h1, h2, h3⟩ := hok
    have hx : 0 ≤ x.t ∧ x.t ≤ 60 := by have h4 := h2.1; have h5 := h2.2; unfold ItmOkP at h5; omega
    have cT := c_l7Take j s.mark (rowsL s) s.rows.n s.rows.g (lst_of zRow _ _) (by omega) x h1.1 hx k G hG c P hP d Q hQ
    obtain ⟨mk, n, g, hnL⟩ := s
    have h3 : n ≤ 280 := h3
    have hb1' : b1 = true := hb1.2 h1
    have hb2' : b2 = true := hb2.2 h2.2
    subst hb1' hb2'
    have cC := c_sCopy mk n (by omega) g
    have no : ∀ {A : Ar}, real = A → A.bite (A.bite (A.bite (A.bnot true) true (A.cmp .neq x.kind 1)) true (A.bnot true)) true (A.cmp .gtr (A.ar .add .i64 (A.int n) 20) 300) = true → False := fun hA h => by
      subst hA
      have hk : x.kind = 1 := h2.1
      have hw : IntKind.i64.wrap ((n : Int) + 20) = (n : Int) + 20 := IntWalk.i64_in _ (by omega)
      have h : (bif (bif (bif !true then true else (x.kind != 1)) then true else !true) then true else decide (IntKind.i64.wrap ((n : Int) + 20) > 300)) = true := h
      rw [hk, hw] at h
      simp at h
      omega
    show Meets Try.prog 49 [xd (eJob j), .agg [.d (eI mk), .d (.sl 13 n fun i => eRow (g i))], xd (eItm x)] ⟨.tup [.agg [.d (eI mk), .d (.sl 13 k fun i => eRow (G i))], .c (.d (.sl 9 c fun i => ePane (P i))), .c (.d (.sl 7 d fun i => eLat (Q i)))], [none, none, none]⟩
    refine meets_of (H := [3]) (EX := EXST) ttok mixed Try.func49 rfl (by kernel_rfl) (by decide) ?_
    generalize hA : real = A
    generalize hM : MeetsB Try.prog = M
    cbv
    repeat' first
      | exact (no hA (by assumption)).elim
      | apply And.intro
      | exact True.intro
      | with_reducible rfl
      | exact same_of hA rfl
      | refine br_of hA (fun _ => ?_) (fun _ => ?_)
      | exact imp_of hA id
      | (refine imp_of hA ?_; subst hA; simp only [real, Bool.true_and]; exact id)
      | (refine ind_of hA ?_; decide +kernel)
      | (refine call_of hA hM _ cO ?_; cbv)
      | (refine call_of hA hM _ cR ?_; cbv)
    refine stop_of hA ⟨[(3, .c (.bp 192 1 0)), (4, .c (.bp 256 1 0)), (5, .c (.bp 320 1 0)), (6, .c (.bp 384 1 0))], [(192, 1, .box ((eJob j).map .d)), (256, 1, .box [.d (eI mk), .d (.sl 13 n fun i => eRow (g i))]), (320, 1, .box ((eItm x).map .d)), (384, 1, .box [.d (eI 0), .d (.v nilS)])]⟩ (cov_of ?_ ?_ ?_) ?_
    · (subst hA; (repeat' first | exact True.intro | exact rfl | apply And.intro))
    · (subst hA; (repeat' first | exact True.intro | exact rfl | apply And.intro | (intro _ _; first | rfl | trivial)))
    · (subst hA; (repeat' first | exact True.intro | exact rfl | apply And.intro | exact .inl rfl | exact .inr (le_of_nble rfl)))
    cbv
    repeat' first
      | apply And.intro
      | exact True.intro
      | with_reducible rfl
      | exact same_of hA rfl
      | refine br_of hA (fun _ => ?_) (fun _ => ?_)
      | exact imp_of hA id
      | (refine imp_of hA ?_; subst hA; simp only [real, Bool.true_and]; exact id)
      | (refine ind_of hA ?_; decide +kernel)
      | (refine call_of hA hM _ cC ?_; cbv)
      | (refine call_of2 hA hM _ cT (by subst hA; first | rfl | (simp only [sub0r]; try rfl)) ?_; cbv)
      | exact flat_row hA _ _
  · rw [if_neg hok] at hy
    subst hy
    have hk0 : k = 0 := hG.1
    have hc0 : c = 0 := hP.1
    have hd0 : d = 0 := hQ.1
    subst hk0 hc0 hd0
    obtain ⟨mk, n, g, hnL⟩ := s
    have hn : n ≤ 1080000 := hn
    refine meets_frz (r := .tup [.agg [.d (eI 0), .own 13 0 fun i => eRow (G i)], .c (.own 9 0 fun i => ePane (P i)), .c (.own 7 0 fun i => eLat (Q i))]) ?_ rfl
    refine meets_up (res := .tup [.agg [.d (eI 0), .d (.v nilS)], .c (.own 9 0 (real.rep (ePane zPan))), .c (.own 7 0 (real.rep (eLat zLat)))]) ⟨⟨UpV.refl _, UpV.nil 13 fun i => eRow (G i), trivial⟩, UpV.row fun i hi => absurd hi (Nat.not_lt_zero i), UpV.row fun i hi => absurd hi (Nat.not_lt_zero i), trivial⟩ ?_
    have no3 : ∀ {A : Ar}, real = A → A.bite (A.bite (A.bite (A.bnot b1) true (A.cmp .neq x.kind 1)) true (A.bnot b2)) true (A.cmp .gtr (A.ar .add .i64 (A.int n) 20) 300) = false → False := fun hA h => by
      subst hA
      have hw : IntKind.i64.wrap ((n : Int) + 20) = (n : Int) + 20 := IntWalk.i64_in _ (by omega)
      have h : (bif (bif (bif !b1 then true else (x.kind != 1)) then true else !b2) then true else decide (IntKind.i64.wrap ((n : Int) + 20) > 300)) = false := h
      rw [hw] at h
      apply hok
      cases b1 with
      | false => cases h
      | true => cases b2 with
        | false => by_cases hk : x.kind = 1 <;> simp [hk] at h
        | true =>
          have hk : x.kind = 1 := by
            by_cases hk : x.kind = 1
            · exact hk
            · simp [hk] at h
          rw [hk] at h
          simp at h
          exact ⟨hb1.1 rfl, ⟨hk, hb2.1 rfl⟩, by show n ≤ 280; omega⟩
    refine meets_of (H := []) (EX := EXA) ttok mixed Try.func49 rfl (by kernel_rfl) (by decide) ?_
    generalize hA : real = A
    generalize hM : MeetsB Try.prog = M
    cbv
    repeat' first
      | exact (no3 hA (by assumption)).elim
      | apply And.intro
      | exact True.intro
      | with_reducible rfl
      | exact same_of hA rfl
      | refine br_of hA (fun _ => ?_) (fun _ => ?_)
      | exact imp_of hA id
      | (refine imp_of hA ?_; subst hA; simp only [real, Bool.true_and]; exact id)
      | (refine ind_of hA ?_; decide +kernel)
      | (refine call_of hA hM _ cO ?_; cbv)
      | (refine call_of hA hM _ cR ?_; cbv)
    all_goals (subst hA; rfl)
end Go.Rk
/- Draws: pick. -/
namespace Go.Rk
set_option linter.unusedSimpArgs false
set_option linter.unusedVariables false
open Go.Proofs
set_option maxRecDepth 100000
set_option maxHeartbeats 1000000
set_option maxRecDepth 100000 in
theorem m_open (M0 : Nat) (b : Nat → Int) (m : Nat) (hm : m = if 2000 < M0 then 2000 else M0) : Meets Try.prog 53 [.c (.d (.sl 1 M0 fun i => [eU (b i)]))] ⟨.one (.c (.box [.d (.sl 1 m fun i => [eU (b i)]), .d (eI 0)])), [none]⟩ := by
  refine meets_of (H := []) (EX := EXA) ttok mixed Try.func53 rfl (by kernel_rfl) (by decide) ?_
  generalize hA : real = A
  generalize hM : MeetsB Try.prog = M
  cbv
  repeat' first
    | apply And.intro
    | exact True.intro
    | with_reducible rfl
    | exact same_of hA rfl
    | refine br_of hA (fun _ => ?_) (fun _ => ?_)
    | exact imp_of hA id
    | (refine imp_of hA ?_; subst hA; simp only [real, Bool.true_and]; exact id)
    | (refine ind_of hA ?_; decide +kernel)
    | (refine cut_of hA ?_; rename_i h; subst hA; have h9 : decide ((M0 : Int) > 2000) = true := h; have := of_decide_eq_true h9; exact ⟨Int.le_refl _, (by decide), (show (2000 : Int) ≤ (M0 : Int) by omega)⟩)
  · rename_i h
    subst hA
    have h9 : decide ((M0 : Int) > 2000) = true := h
    have h8 := of_decide_eq_true h9
    have e : m = 2000 := by rw [hm]; exact if_pos (by omega)
    subst e
    have e2 : (fun i => (fun i => [eU (b i)]) (0 + i)) = fun i => [eU (b i)] := by funext i; rw [Nat.zero_add]
    exact congrArg (fun f => XA.one (XT.c (.box [.d (.sl 1 2000 f), .d (eI 0)]))) e2
  · rename_i h
    subst hA
    have h9 : decide ((M0 : Int) > 2000) = false := h
    have h8 := of_decide_eq_false h9
    have e : m = M0 := by rw [hm]; exact if_neg (by omega)
    subst e
    rfl
set_option maxRecDepth 100000 in
theorem m_pick (m : Nat) (hm : m ≤ 2000) (b : Nat → Int) (hb : ∀ i, 0 ≤ b i ∧ b i ≤ 255) (p : Int) (hp : 0 ≤ p ∧ p ≤ 1000000) (n : Int) (hn : 1 ≤ n ∧ n ≤ 1000000) (x : Int) (hx : x = pickV m b p n) (q : Int) (hq : q = p + 1) : Meets Try.prog 56 [.c (.box [.d (.sl 1 m fun i => [eU (b i)]), .d (eI p)]), .c (.d (eI n))] ⟨.one (.c (.d (eI x))), [some (.box [.d (.sl 1 m fun i => [eU (b i)]), .d (eI q)]), none]⟩ := by
  have w1 : IntKind.i64.wrap (p + 1) = q := by rw [IntWalk.i64_in _ (by omega)]; omega
  have w2 : IntKind.i64.wrap (q - 1) = p := by rw [IntWalk.i64_in _ (by omega)]; omega
  have w7 : IntKind.i64.wrap (p * 7) = p * 7 := IntWalk.i64_in _ (by omega)
  have w73 : IntKind.i64.wrap (p * 7 + 3) = p * 7 + 3 := IntWalk.i64_in _ (by omega)
  have mpos : real.bite (real.cmp .lss n 1) true (real.cmp .eql (real.int m) 0) = false → 1 ≤ m := fun h => by
    have h : (bif decide (n < 1) then true else ((m : Int) == 0)) = false := h
    rw [decide_eq_false (by omega)] at h
    have h : ((m : Int) == 0) = false := h
    have h : ¬ (m : Int) = 0 := by simpa using h
    omega
  refine meets_of (H := []) (EX := EXA) ttok mixed Try.func56 rfl (by kernel_rfl) (by decide) ?_
  generalize hA : real = A
  generalize hM : MeetsB Try.prog = M
  cbv
  repeat' first
    | apply And.intro
    | exact True.intro
    | with_reducible rfl
    | exact same_of hA rfl
    | refine br_of hA (fun _ => ?_) (fun _ => ?_)
    | exact imp_of hA id
    | (refine imp_of hA ?_; subst hA; simp only [real, Bool.true_and]; exact id)
    | (refine ind_of hA ?_; decide +kernel)
    | (refine nz_of hA ?_; first | (show n ≠ 0; omega) | (show (64 : Int) ≠ 0; decide) | (rename_i h1 h2; subst hA; have h3 := mpos h1; show (m : Int) ≠ 0; omega))
  · rename_i hbad
    subst hA
    have h : (bif decide (n < 1) then true else ((m : Int) == 0)) = true := hbad
    rw [decide_eq_false (by omega)] at h
    have h : ((m : Int) == 0) = true := h
    have h : (m : Int) = 0 := by simpa using h
    refine congrArg (fun z => XA.one (.c (.d (eI z)))) ?_
    rw [hx]; unfold pickV; rw [if_pos (by omega)]
  · rename_i hbad
    subst hA
    exact congrArg (fun z => [some (XV.box [XC.d (DV.sl 1 m fun i => [eU (b i)]), XC.d (eI z)]), none]) w1
  · rename_i hg hlt
    refine inb_of hA fun _ => ?_
    subst hA
    have hlt : decide (IntKind.i64.wrap (IntKind.i64.wrap (p + 1) - 1) < (m : Int)) = true := hlt
    have hlt := of_decide_eq_true hlt
    show 0 ≤ IntKind.i64.wrap (IntKind.i64.wrap (p + 1) - 1) ∧ IntKind.i64.wrap (IntKind.i64.wrap (p + 1) - 1) < (m : Int)
    rw [w1, w2] at hlt ⊢
    exact ⟨hp.1, hlt⟩
  · rename_i hg hlt
    subst hA
    have hlt : decide (IntKind.i64.wrap (IntKind.i64.wrap (p + 1) - 1) < (m : Int)) = true := hlt
    have hlt := of_decide_eq_true hlt
    rw [w1, w2] at hlt
    refine congrArg (fun z => XA.one (.c (.d (eI z)))) ?_
    have h1 := mpos hg
    show (IntKind.i64.wrap (b (IntKind.i64.wrap (IntKind.i64.wrap (p + 1) - 1)).toNat)).tmod n = x
    have hbb := hb p.toNat
    rw [w1, w2, IntWalk.i64_in _ (by omega), hx]
    unfold pickV
    rw [if_neg (by omega), if_pos hlt]
  · rename_i hg hlt
    subst hA
    exact congrArg (fun z => [some (XV.box [XC.d (DV.sl 1 m fun i => [eU (b i)]), XC.d (eI z)]), none]) w1
  · rename_i hg hlt
    refine inb_of hA fun _ => ?_
    subst hA
    have h1 := mpos hg
    show 0 ≤ (IntKind.i64.wrap (IntKind.i64.wrap (p + 1) - 1)).tmod (m : Int) ∧ (IntKind.i64.wrap (IntKind.i64.wrap (p + 1) - 1)).tmod (m : Int) < (m : Int)
    rw [w1, w2]
    exact tmod_in hp.1 (Int.ofNat_le.2 h1)
  · rename_i hg hlt
    refine inb_of hA fun _ => ?_
    subst hA
    have h1 := mpos hg
    show 0 ≤ (IntKind.i64.wrap (IntKind.i64.wrap (IntKind.i64.wrap (IntKind.i64.wrap (p + 1) - 1) * 7) + 3)).tmod (m : Int) ∧ (IntKind.i64.wrap (IntKind.i64.wrap (IntKind.i64.wrap (IntKind.i64.wrap (p + 1) - 1) * 7) + 3)).tmod (m : Int) < (m : Int)
    rw [w1, w2, w7, w73]
    exact tmod_in (by omega) (Int.ofNat_le.2 h1)
  · rename_i hg hlt
    subst hA
    have hlt : decide (IntKind.i64.wrap (IntKind.i64.wrap (p + 1) - 1) < (m : Int)) = false := hlt
    have hlt := of_decide_eq_false hlt
    rw [w1, w2] at hlt
    have h1 := mpos hg
    refine congrArg (fun z => XA.one (.c (.d (eI z)))) ?_
    rw [hx]; unfold pickV
    rw [if_neg (by omega), if_neg hlt]
    have hy := pickY_in (m := m) (p := p) (b := b) h1 hb hp
    obtain ⟨W, hW⟩ : ∃ W, W = IntKind.i64.wrap (IntKind.i64.wrap (p + 1) - 1) := ⟨_, rfl⟩
    have hWp : W = p := by rw [hW, w1, w2]
    obtain ⟨Y, hY⟩ : ∃ Y, Y = IntKind.i64.wrap (IntKind.i64.wrap (IntKind.i64.wrap (IntKind.i64.wrap (IntKind.i64.wrap (b (W.tmod (m : Int)).toNat) * 131) + IntKind.i64.wrap (IntKind.i64.wrap (b ((IntKind.i64.wrap (IntKind.i64.wrap (W * 7) + 3)).tmod (m : Int)).toNat) * 1117)) + IntKind.i64.wrap (W * 29)) + IntKind.i64.wrap (IntKind.i64.wrap (W.tdiv (m : Int)) * 53)) := ⟨_, rfl⟩
    have hYp : Y = pickY m b p := by
      rw [hY, hWp, w7, w73]
      unfold pickY
      have b1 := hb (p.tmod (m : Int)).toNat
      have b2 := hb ((p * 7 + 3).tmod (m : Int)).toNat
      have d1 : 0 ≤ p.tdiv (m : Int) := Int.tdiv_nonneg hp.1 (Int.natCast_nonneg m)
      have d2 : p.tdiv (m : Int) ≤ p := Int.tdiv_le_self (m : Int) hp.1
      generalize b (p.tmod (m : Int)).toNat = c1 at b1 ⊢
      generalize b ((p * 7 + 3).tmod (m : Int)).toNat = c2 at b2 ⊢
      generalize p.tdiv (m : Int) = d at d1 d2 ⊢
      rw [IntWalk.i64_in c1 (by omega), IntWalk.i64_in c2 (by omega), IntWalk.i64_in d (by omega), IntWalk.i64_in (c1 * 131) (by omega), IntWalk.i64_in (c2 * 1117) (by omega), IntWalk.i64_in (p * 29) (by omega), IntWalk.i64_in (d * 53) (by omega), IntWalk.i64_in (c1 * 131 + c2 * 1117) (by omega), IntWalk.i64_in (c1 * 131 + c2 * 1117 + p * 29) (by omega), IntWalk.i64_in _ (by omega)]
    have q1 : 0 ≤ (pickY m b p).tdiv 64 := Int.tdiv_nonneg hy.1 (by decide)
    have q2 : (pickY m b p).tdiv 64 ≤ pickY m b p := Int.tdiv_le_self 64 hy.1
    have key : (IntKind.i64.wrap (BitVec.ofInt 64 Y ^^^ BitVec.ofInt 64 (IntKind.i64.wrap (Y.tdiv 64))).toNat).tmod n = (pickX (pickY m b p)).tmod n := by
      rw [hYp, IntWalk.i64_in ((pickY m b p).tdiv 64) (by omega)]; rfl
    rw [← key, hY, hW]
    rfl
  · rename_i hg hlt
    subst hA
    exact congrArg (fun z => [some (XV.box [XC.d (DV.sl 1 m fun i => [eU (b i)]), XC.d (eI z)]), none]) w1
end Go.Rk
/- Draws: small. -/
namespace Go.Rk
set_option linter.unusedSimpArgs false
set_option linter.unusedVariables false
open Go.Proofs
set_option maxRecDepth 100000
set_option maxHeartbeats 1000000
def EXD : FuncId → List Nat × Bool := fun f => ([], nbeq f 0)
theorem x_pick (m : Nat) (hm : m ≤ 2000) (b : Nat → Int) (hb : ∀ i, 0 ≤ b i ∧ b i ≤ 255) (p : Int) (hp : 0 ≤ p ∧ p ≤ 1000000) (n : Int) (hn : 1 ≤ n ∧ n ≤ 1000000) : ∃ y : Int × Int, (0 ≤ y.1 ∧ y.1 < n ∧ y.2 = p + 1) ∧ Meets Try.prog 56 [.c (.box [.d (.sl 1 m fun i => [eU (b i)]), .d (eI p)]), .c (.d (eI n))] ⟨.one (.c (.d (eI y.1))), [some (.box [.d (.sl 1 m fun i => [eU (b i)]), .d (eI y.2)]), none]⟩ :=
  ⟨(pickV m b p n, p + 1), ⟨(pickV_in hb hp hn.1).1, (pickV_in hb hp hn.1).2, rfl⟩, m_pick m hm b hb p hp n hn _ rfl _ rfl⟩
theorem x_rec (m : Nat) (hm : m ≤ 2000) (b : Nat → Int) (hb : ∀ i, 0 ≤ b i ∧ b i ≤ 255) (p : Int) (hp : 0 ≤ p ∧ p ≤ 200000)  : ∃ y : ItmT × Int, (p ≤ y.2 ∧ y.2 ≤ p + 4) ∧ Meets Try.prog 102 [.c (.box [.d (.sl 1 m fun i => [eU (b i)]), .d (eI p)])] ⟨.one (xd (eItm y.1)), [some (.box [.d (.sl 1 m fun i => [eU (b i)]), .d (eI y.2)])]⟩ := by
  refine meets_ex (H := []) (EX := EXD) ttok mixed ([some (.box [.d (.sl 1 m fun i => [eU (b i)]), .d (eI 0)])]) Try.func102 rfl (by kernel_rfl) (by decide) (fun _ => rfl) ?_
  generalize hA : real = A
  generalize hM : MeetsB Try.prog = M
  cbv
  repeat' first
    | apply And.intro
    | exact True.intro
    | with_reducible rfl
    | exact same_of hA rfl
    | refine br_of hA (fun _ => ?_) (fun _ => ?_)
    | exact imp_of hA id
    | (refine imp_of hA ?_; subst hA; simp only [real, Bool.true_and]; exact id)
    | (refine ind_of hA ?_; decide +kernel)
    | (refine call_ex hA hM (x_pick m hm b hb _ (by omega) _ (by omega)) ?_; rintro ⟨x, q⟩ ⟨hx0, hx1, hq⟩; dsimp only at hx0 hx1 hq; cbv)
    | (refine inb_of hA (fun _ => ?_); (first | omega | (constructor <;> omega)))
    | (refine fin_of hA ⟨⟨⟨_, _, _, _, _⟩, _⟩, ?_, rfl, rfl⟩; simp only; omega)
theorem x_job (m : Nat) (hm : m ≤ 2000) (b : Nat → Int) (hb : ∀ i, 0 ≤ b i ∧ b i ≤ 255) (p : Int) (hp : 0 ≤ p ∧ p ≤ 150000)  : ∃ y : JobT × Int, (p ≤ y.2 ∧ y.2 ≤ p + 20) ∧ Meets Try.prog 54 [.c (.box [.d (.sl 1 m fun i => [eU (b i)]), .d (eI p)])] ⟨.one (xd (eJob y.1)), [some (.box [.d (.sl 1 m fun i => [eU (b i)]), .d (eI y.2)])]⟩ := by
  refine meets_ex (H := []) (EX := EXD) ttok mixed ([some (.box [.d (.sl 1 m fun i => [eU (b i)]), .d (eI 0)])]) Try.func54 rfl (by kernel_rfl) (by decide) (fun _ => rfl) ?_
  generalize hA : real = A
  generalize hM : MeetsB Try.prog = M
  cbv
  repeat' first
    | apply And.intro
    | exact True.intro
    | with_reducible rfl
    | exact same_of hA rfl
    | refine br_of hA (fun _ => ?_) (fun _ => ?_)
    | exact imp_of hA id
    | (refine imp_of hA ?_; subst hA; simp only [real, Bool.true_and]; exact id)
    | (refine ind_of hA ?_; decide +kernel)
    | (refine call_ex hA hM (x_pick m hm b hb _ (by omega) _ (by omega)) ?_; rintro ⟨x, q⟩ ⟨hx0, hx1, hq⟩; dsimp only at hx0 hx1 hq; cbv)
    | (refine inb_of hA (fun _ => ?_); (first | omega | (constructor <;> omega)))
    | (refine nz_of hA ?_; first | (show (2 : Int) ≠ 0; decide) | (subst hA; show IntKind.i64.wrap (1 + x) ≠ 0; rw [IntWalk.i64_in _ (by omega)]; omega))
    | (refine fin_of hA ⟨⟨⟨_, _, _, _, _, _, _, _, _, _⟩, _⟩, ?_, rfl, rfl⟩; simp only; omega)
theorem x_anyJob (m : Nat) (hm : m ≤ 2000) (b : Nat → Int) (hb : ∀ i, 0 ≤ b i ∧ b i ≤ 255) (p : Int) (hp : 0 ≤ p ∧ p ≤ 100000) (n : Int) (hn : 1 ≤ n ∧ n ≤ 100) : ∃ y : JobT × Int, (p ≤ y.2 ∧ y.2 ≤ p + 40) ∧ Meets Try.prog 117 [.c (.box [.d (.sl 1 m fun i => [eU (b i)]), .d (eI p)]), .c (.d (eI n))] ⟨.one (xd (eJob y.1)), [some (.box [.d (.sl 1 m fun i => [eU (b i)]), .d (eI y.2)]), none]⟩ := by
  refine meets_ex (H := []) (EX := EXD) ttok mixed ([some (.box [.d (.sl 1 m fun i => [eU (b i)]), .d (eI 0)]), none]) Try.func117 rfl (by kernel_rfl) (by decide) (fun _ => rfl) ?_
  generalize hA : real = A
  generalize hM : MeetsB Try.prog = M
  cbv
  repeat' first
    | apply And.intro
    | exact True.intro
    | with_reducible rfl
    | exact same_of hA rfl
    | refine br_of hA (fun _ => ?_) (fun _ => ?_)
    | exact imp_of hA id
    | (refine imp_of hA ?_; subst hA; simp only [real, Bool.true_and]; exact id)
    | (refine ind_of hA ?_; decide +kernel)
    | (refine call_ex hA hM (x_job m hm b hb _ (by omega)) ?_; rintro ⟨j, q⟩ ⟨hq0, hq1⟩; dsimp only at hq0 hq1; cbv)
    | (refine call_ex hA hM (x_pick m hm b hb _ (by omega) _ (by omega)) ?_; rintro ⟨x, q⟩ ⟨hx0, hx1, hq⟩; dsimp only at hx0 hx1 hq; cbv)
    | (refine inb_of hA (fun _ => ?_); (first | omega | (constructor <;> omega)))
    | (refine fin_of hA ⟨⟨⟨_, _, _, _, _, _, _, _, _, _⟩, _⟩, ?_, rfl, rfl⟩; simp only; omega)
end Go.Rk
/- Draws: values. -/
namespace Go.Rk
set_option linter.unusedSimpArgs false
set_option linter.unusedVariables false
open Go.Proofs
set_option maxRecDepth 100000
set_option maxHeartbeats 1000000
theorem x_add (a : AggT) (v : Int) : ∃ c : AggT, True ∧ Meets Try.prog 157 [xd (eAgg a), .c (.d (eI v))] ⟨.one (xd (eAgg c)), [none, none]⟩ := ⟨_, trivial, c_sAggAdd a v _ rfl⟩
def st_xa (m : Nat) (b : Nat → Int) (n : Int) (k q : Int) (a : AggT) : St := ⟨[(6, .c (.d (eI k))), (5, .c (.bp 320 1 0)), (4, .c (.bp 256 1 0)), (1, .c (.d (eI n))), (0, .c (.bp 0 1 0))], [(320, 1, .box ((eAgg a).map .d)), (256, 1, .box ((eAgg zAgg).map .d)), (0, 1, .box [.d (.sl 1 m fun i => [eU (b i)]), .d (eI q)])]⟩
theorem x_agg (m : Nat) (hm : m ≤ 2000) (b : Nat → Int) (hb : ∀ i, 0 ≤ b i ∧ b i ≤ 255) (p : Int) (hp : 0 ≤ p ∧ p ≤ 60000) (n : Int) (hn : 1 ≤ n ∧ n ≤ 100) : ∃ y : AggT × Int, (p ≤ y.2 ∧ y.2 ≤ p + 20) ∧ Meets Try.prog 148 [.c (.box [.d (.sl 1 m fun i => [eU (b i)]), .d (eI p)]), .c (.d (eI n))] ⟨.one (xd (eAgg y.1)), [some (.box [.d (.sl 1 m fun i => [eU (b i)]), .d (eI y.2)]), none]⟩ := by
  refine meets_ex (H := []) (EX := EXD) ttok mixed ([some (.box [.d (.sl 1 m fun i => [eU (b i)]), .d (eI 0)]), none]) Try.func148 rfl (by kernel_rfl) (by decide) (fun _ => rfl) ?_
  generalize hA : real = A
  generalize hM : MeetsB Try.prog = M
  cbv
  repeat' first
    | apply And.intro
    | exact True.intro
    | with_reducible rfl
    | exact same_of hA rfl
    | refine br_of hA (fun _ => ?_) (fun _ => ?_)
    | exact imp_of hA id
    | (refine imp_of hA ?_; subst hA; simp only [real, Bool.true_and]; exact id)
    | (refine ind_of hA ?_; decide +kernel)
    | (refine call_ex hA hM (x_pick m hm b hb _ (by omega) _ (by omega)) ?_; rintro ⟨x, q⟩ ⟨hx0, hx1, hq⟩; dsimp only at hx0 hx1 hq; cbv)
  refine loop_of hA (α := { y : Int × Int × AggT // 0 ≤ y.1 ∧ y.1 ≤ 5 ∧ p ≤ y.2.1 ∧ y.2.1 + y.1 ≤ p + 10 }) (fun y => st_xa m b n y.1.1 y.1.2.1 y.1.2.2) (fun y => y.1.1.toNat) ⟨(x, q, zAgg), hx0, by simp only; omega, by simp only; omega, by simp only; omega⟩ ?_ ?_
  · refine cov_of ?_ ?_ ?_
    · cbv; try (subst hA; repeat' first | apply And.intro | exact True.intro | rfl | fail)
    · cbv; try (subst hA; repeat' first | apply And.intro | exact True.intro | rfl | (intro _ _; rfl) | (intro k hk; exact absurd hk (Nat.not_lt_zero k)) | fail)
    · cbv; try (subst hA; repeat' first | apply And.intro | exact True.intro | rfl | exact .inr trivial | exact .inl trivial)
  rintro ⟨⟨k, q1, a⟩, hk0, hk1, hq0, hq1⟩
  have hk0 : 0 ≤ k := hk0
  have hk1 : k ≤ 5 := hk1
  have hq0 : p ≤ q1 := hq0
  have hq1 : q1 + k ≤ p + 10 := hq1
  cbv
  repeat' first
    | apply And.intro
    | exact True.intro
    | with_reducible rfl
    | exact same_of hA rfl
    | refine br_of hA (fun _ => ?_) (fun _ => ?_)
    | exact imp_of hA id
    | (refine imp_of hA ?_; subst hA; simp only [real, Bool.true_and]; exact id)
    | (refine ind_of hA ?_; decide +kernel)
    | (refine call_ex hA hM (x_pick m hm b hb _ (by omega) _ (by omega)) ?_; rintro ⟨x, q⟩ ⟨hx0, hx1, hq⟩; dsimp only at hx0 hx1 hq; cbv)
    | (refine call_ex hA hM (x_add _ _) ?_; rintro c -; cbv)
    | (refine inb_of hA (fun _ => ?_); (first | omega | (constructor <;> omega)))
    | (refine fin_of hA ⟨⟨⟨_, _, _, _⟩, _⟩, ?_, rfl, rfl⟩; simp only; omega)
  rename_i hgt
  have hgt : k > 0 := by subst hA; exact of_decide_eq_true hgt
  obtain ⟨k', hk'⟩ : ∃ z, z = k - 1 := ⟨_, rfl⟩
  refine ⟨⟨(k', q, c), show 0 ≤ k' by omega, show k' ≤ 5 by omega, show p ≤ q by omega, show q + k' ≤ p + 10 by omega⟩, by simp only; omega, cov_of ?_ ?_ ?_⟩
  · cbv; subst hA
    have hw : IntKind.i64.wrap (k - 1) = k' := by rw [IntWalk.i64_in _ (by omega), hk']
    repeat' first | apply And.intro | exact True.intro | exact congrArg (fun x => DV.v (.int .i64 x)) hw | rfl
  · cbv; try (subst hA; repeat' first | apply And.intro | exact True.intro | rfl)
  · cbv; try (subst hA; repeat' first | apply And.intro | exact True.intro | rfl | exact .inr trivial | exact .inl trivial | exact .inr (Nat.le_refl _))
theorem x_win (m : Nat) (hm : m ≤ 2000) (b : Nat → Int) (hb : ∀ i, 0 ≤ b i ∧ b i ≤ 255) (p : Int) (hp : 0 ≤ p ∧ p ≤ 60000) (n : Int) (hn : 1 ≤ n ∧ n ≤ 100) : ∃ y : WinT × Int, (p ≤ y.2 ∧ y.2 ≤ p + 10) ∧ Meets Try.prog 147 [.c (.box [.d (.sl 1 m fun i => [eU (b i)]), .d (eI p)]), .c (.d (eI n))] ⟨.one (xd (eWin y.1)), [some (.box [.d (.sl 1 m fun i => [eU (b i)]), .d (eI y.2)]), none]⟩ := by
  refine meets_ex (H := []) (EX := EXD) ttok mixed ([some (.box [.d (.sl 1 m fun i => [eU (b i)]), .d (eI 0)]), none]) Try.func147 rfl (by kernel_rfl) (by decide) (fun _ => rfl) ?_
  generalize hA : real = A
  generalize hM : MeetsB Try.prog = M
  cbv
  repeat' first
    | apply And.intro
    | exact True.intro
    | with_reducible rfl
    | exact same_of hA rfl
    | refine br_of hA (fun _ => ?_) (fun _ => ?_)
    | exact imp_of hA id
    | (refine imp_of hA ?_; subst hA; simp only [real, Bool.true_and]; exact id)
    | (refine ind_of hA ?_; decide +kernel)
    | (refine call_ex hA hM (x_pick m hm b hb _ (by omega) _ (by omega)) ?_; rintro ⟨x, q⟩ ⟨hx0, hx1, hq⟩; dsimp only at hx0 hx1 hq; cbv)
    | (refine inb_of hA (fun _ => ?_); (first | omega | (constructor <;> omega)))
    | (refine fin_of hA ⟨⟨⟨_, _⟩, _⟩, ?_, rfl, rfl⟩; simp only; omega)
end Go.Rk
/- How much a step adds. -/
namespace Go.Rk
set_option linter.unusedSimpArgs false
set_option linter.unusedVariables false
theorem slideF_len2 {size step t : Int} (hs : 1 ≤ step) : ∀ (k : Nat) (f : Int), (slideF size step t k f).length ≤ size.toNat ∧ (slideF size step t k f).length ≤ (t - f + 1).toNat
  | 0, f => by unfold slideF; exact ⟨Nat.zero_le _, Nat.zero_le _⟩
  | k + 1, f => by
    have ih := slideF_len2 (size := size) (t := t) hs k (f + step)
    unfold slideF
    split
    · rw [List.length_append]
      split
      · simp only [List.length_singleton]; omega
      · simp only [List.length_nil]; omega
    · exact ⟨Nat.zero_le _, Nat.zero_le _⟩
theorem winsL_len20 {j : JobT} (hj : JobOkP j) (t : Int) : (winsL j t).length ≤ 20 := by
  have hs : 1 ≤ winStep j := by
    unfold JobOkP at hj
    unfold winStep
    split
    · omega
    · split <;> omega
  have h := (slideF_len2 (size := j.size) (t := t) hs 100 (winFrom j t)).1
  unfold JobOkP at hj
  unfold winsL
  omega
theorem opTakeL_rows (j : JobT) (s : OpStT) (x : ItmT) : (opTakeL j s x).2.1.length ≤ s.rows.n + 20 := by
  unfold opTakeL
  split
  · rename_i hc
    have h := (takeL_len (j := j) (m := s.mark) (x := x) (l := rowsL s) (winsL j x.t)).1
    have h2 := winsL_len20 hc.1.1 x.t
    have h3 : (rowsL s).length = s.rows.n := by unfold rowsL; simp
    show (takeL j s.mark x (winsL j x.t) (rowsL s)).1.length ≤ _
    omega
  · exact Nat.zero_le _
end Go.Rk
/- Draws: op. -/
namespace Go.Rk
set_option linter.unusedSimpArgs false
set_option linter.unusedVariables false
open Go.Proofs
set_option maxRecDepth 100000
set_option maxHeartbeats 1000000
theorem x_sMark (j : JobT) (s : OpStT) (hn : s.rows.n ≤ 400) (m : Int) : ∃ y : OpStT × Nat × (Nat → PaneT), (y.1.rows.n ≤ s.rows.n) ∧ Meets Try.prog 23 [xd (eJob j), .agg [.d (eI s.mark), .d (.sl 13 s.rows.n fun i => eRow (s.rows.g i))], .c (.d (eI m))] ⟨.tup [.agg [.d (eI y.1.mark), .d (.sl 13 y.1.rows.n fun i => eRow (y.1.rows.g i))], .c (.d (.sl 9 y.2.1 fun i => ePane (y.2.2 i)))], [none, none, none]⟩ := by
  obtain ⟨x, hx⟩ : ∃ x, x = opMarkL j s m := ⟨_, rfl⟩
  have hl := opMarkL_len j s m
  rw [← hx] at hl
  obtain ⟨k, G, hG⟩ := lst_ex zRow x.2.1
  obtain ⟨c, P, hP⟩ := lst_ex zPan x.2.2
  have hk : k ≤ s.rows.n := by rw [hG.1]; exact hl.1
  have hI := meets_frz (c_sOpMark j s (by omega) m x hx k G hG c P hP) rfl
  exact ⟨(⟨x.1, ⟨k, G, Nat.le_trans hk s.rows.hn⟩⟩, c, P), hk, hI⟩
theorem x_sTake (j : JobT) (s : OpStT) (hn : s.rows.n ≤ 400) (m : ItmT) : ∃ y : OpStT × (Nat × (Nat → PaneT)) × Nat × (Nat → LatT), (y.1.rows.n ≤ s.rows.n + 20) ∧ Meets Try.prog 49 [xd (eJob j), .agg [.d (eI s.mark), .d (.sl 13 s.rows.n fun i => eRow (s.rows.g i))], xd (eItm m)] ⟨.tup [.agg [.d (eI y.1.mark), .d (.sl 13 y.1.rows.n fun i => eRow (y.1.rows.g i))], .c (.d (.sl 9 y.2.1.1 fun i => ePane (y.2.1.2 i))), .c (.d (.sl 7 y.2.2.1 fun i => eLat (y.2.2.2 i)))], [none, none, none]⟩ := by
  obtain ⟨x, hx⟩ : ∃ x, x = opTakeL j s m := ⟨_, rfl⟩
  have hl := opTakeL_rows j s m
  rw [← hx] at hl
  obtain ⟨k, G, hG⟩ := lst_ex zRow x.2.1
  obtain ⟨c, P, hP⟩ := lst_ex zPan x.2.2.1
  obtain ⟨d, Q, hQ⟩ := lst_ex zLat x.2.2.2
  have hk : k ≤ s.rows.n + 20 := by rw [hG.1]; exact hl
  exact ⟨(⟨x.1, ⟨k, G, Nat.le_trans (show k ≤ 420 by omega) (by decide)⟩⟩, (c, P), (d, Q)), hk, c_sOpTake j s (by omega) m x hx k G hG c P hP d Q hQ⟩
theorem bound_step {a b : Nat} {k k' : Int} (h : a ≤ b + 20) (h2 : (b : Int) + 20 * k ≤ 260) (h3 : k' = k - 1) : (a : Int) + 20 * k' ≤ 260 := by omega
theorem bound_end {a : Nat} {k : Int} (h : (a : Int) + 20 * k ≤ 260) (h2 : 0 ≤ k) : a ≤ 260 := by omega
def zOp : OpStT := ⟨0, ⟨0, fun _ => zRow, Nat.zero_le _⟩⟩
def st_xop (m : Nat) (b : Nat → Int) (j : JobT) (k q mk : Int) (s : OpStT) : St := ⟨[(7, .c (.d (eI k))), (6, .c (.d (eI mk))), (5, .c (.bp 320 1 0)), (4, .c (.bp 256 1 0)), (3, .c (.bp 192 1 0)), (0, .c (.bp 0 1 0))], [(320, 1, .box [.d (eI s.mark), .d (.sl 13 s.rows.n fun i => eRow (s.rows.g i))]), (256, 1, .box [.d (eI 0), .d (.v nilS)]), (192, 1, .box ((eJob j).map .d)), (0, 1, .box [.d (.sl 1 m fun i => [eU (b i)]), .d (eI q)])]⟩
theorem x_op (m : Nat) (hm : m ≤ 2000) (b : Nat → Int) (hb : ∀ i, 0 ≤ b i ∧ b i ≤ 255) (p : Int) (hp : 0 ≤ p ∧ p ≤ 60000) (j : JobT) : ∃ y : OpStT × Int, (p ≤ y.2 ∧ y.2 ≤ p + 200 ∧ y.1.rows.n ≤ 260) ∧ Meets Try.prog 116 [.c (.box [.d (.sl 1 m fun i => [eU (b i)]), .d (eI p)]), xd (eJob j)] ⟨.one (.agg [.d (eI y.1.mark), .d (.sl 13 y.1.rows.n fun i => eRow (y.1.rows.g i))]), [some (.box [.d (.sl 1 m fun i => [eU (b i)]), .d (eI y.2)]), none]⟩ := by
  obtain ⟨bj, _, cJ⟩ := c_sJobOkP j
  refine meets_ex (H := [14]) (EX := EXD) ttok mixed ([some (.box [.d (.sl 1 m fun i => [eU (b i)]), .d (eI 0)]), none]) Try.func116 rfl (by kernel_rfl) (by decide) (fun _ => rfl) ?_
  generalize hA : real = A
  generalize hM : MeetsB Try.prog = M
  cbv
  repeat' first
    | apply And.intro
    | exact True.intro
    | with_reducible rfl
    | exact same_of hA rfl
    | refine br_of hA (fun _ => ?_) (fun _ => ?_)
    | exact imp_of hA id
    | (refine imp_of hA ?_; subst hA; simp only [real, Bool.true_and]; exact id)
    | (refine ind_of hA ?_; decide +kernel)
    | (refine call_ex hA hM (x_pick m hm b hb _ (by omega) _ (by omega)) ?_; rintro ⟨x, q⟩ ⟨hx0, hx1, hq⟩; dsimp only at hx0 hx1 hq; cbv)
  refine loop_of hA (α := { y : Int × Int × Int × OpStT // 0 ≤ y.1 ∧ y.1 ≤ 13 ∧ p ≤ y.2.1 ∧ y.2.1 + 10 * y.1 ≤ p + 140 ∧ (y.2.2.2.rows.n : Int) + 20 * y.1 ≤ 260 }) (fun y => st_xop m b j y.1.1 y.1.2.1 y.1.2.2.1 y.1.2.2.2) (fun y => y.1.1.toNat) ⟨(x, q, 0, zOp), hx0, by simp only; omega, by simp only; omega, by simp only; omega, by (show ((0 : Nat) : Int) + 20 * x ≤ 260); omega⟩ ?_ ?_
  · refine cov_nB 320 13 (fun i => eRow (zOp.rows.g i)) [.d (eI 0)] [] rfl (cov_of ?_ ?_ ?_)
    · cbv; try (subst hA; repeat' first | apply And.intro | exact True.intro | rfl | fail)
    · cbv; try (subst hA; repeat' first | apply And.intro | exact True.intro | rfl | (intro _ _; rfl) | (intro k hk; exact absurd hk (Nat.not_lt_zero k)) | fail)
    · cbv; try (subst hA; repeat' first | apply And.intro | exact True.intro | rfl | exact .inr trivial | exact .inl trivial)
  rintro ⟨⟨k, q1, mk, s⟩, hk0, hk1, hq0, hq1, hs⟩
  have hk0 : 0 ≤ k := hk0
  have hk1 : k ≤ 13 := hk1
  have hq0 : p ≤ q1 := hq0
  have hq1 : q1 + 10 * k ≤ p + 140 := hq1
  have hs : (s.rows.n : Int) + 20 * k ≤ 260 := hs
  have hs4 : s.rows.n ≤ 400 := by omega
  have hsI : (s.rows.n : Int) + 20 * k ≤ 260 := hs
  have hkk : ∀ {A : Ar}, real = A → A.bite (A.cmp .gtr k 0) bj false = true → 0 < k := fun hA h => by
    subst hA
    have h : (bif decide (k > 0) then bj else false) = true := h
    by_cases g : k > 0
    · exact g
    · rw [decide_eq_false g] at h; cases h
  cbv
  repeat' first
    | apply And.intro
    | exact True.intro
    | with_reducible rfl
    | exact same_of hA rfl
    | refine br_of hA (fun _ => ?_) (fun _ => ?_)
    | exact imp_of hA id
    | (refine imp_of hA ?_; subst hA; simp only [real, Bool.true_and]; exact id)
    | (refine ind_of hA ?_; decide +kernel)
    | (refine call_of hA hM _ cJ ?_; cbv)
    | (refine call_ex hA hM (c_l1In _ _ _) (fun _ _ => ?_); cbv)
    | (refine call_ex hA hM (x_pick m hm b hb _ (by omega) _ (by omega)) ?_; rintro ⟨x, q⟩ ⟨hx0, hx1, hq⟩; dsimp only at hx0 hx1 hq; cbv)
    | (refine call_ex hA hM (x_rec m hm b hb _ (by omega)) ?_; rintro ⟨it, q⟩ ⟨hr0, hr1⟩; dsimp only at hr0 hr1; cbv)
    | (refine call_ex hA hM (x_sMark j s hs4 _) ?_; rintro ⟨s2, c, P⟩ hs2; dsimp only at hs2; cbv)
    | (refine call_ex hA hM (x_sTake j s hs4 ⟨_, _, _, _, _⟩) ?_; rintro ⟨s2, ⟨c, P⟩, d, Q⟩ hs2; dsimp only at hs2; cbv)
  · obtain ⟨k', hk'⟩ : ∃ z, z = k - 1 := ⟨_, rfl⟩
    have hgt : 0 < k := hkk hA (by assumption)
    have hw : IntKind.i64.wrap (k - 1) = k' := by rw [IntWalk.i64_in _ (by omega), hk']
    refine ⟨⟨(k', q, real.ar .add .i64 mk x, s2), show 0 ≤ k' by omega, show k' ≤ 13 by omega, show p ≤ q by omega, show q + 10 * k' ≤ p + 140 by omega, (bound_step (Nat.le_trans hs2 (Nat.le_add_right s.rows.n 20)) hsI hk' : (s2.rows.n : Int) + 20 * k' ≤ 260)⟩, by simp only; omega, cov_of ?_ ?_ ?_⟩
    · subst hA; repeat' first | exact True.intro | exact rfl | exact congrArg (fun x => DV.v (.int .i64 x)) hw | apply And.intro
    · subst hA; repeat' first | exact True.intro | exact rfl | apply And.intro | (intro _ _; first | rfl | trivial)
    · subst hA; repeat' first | exact True.intro | exact rfl | apply And.intro | exact .inl rfl | exact .inr (le_of_nble rfl)
  · obtain ⟨k', hk'⟩ : ∃ z, z = k - 1 := ⟨_, rfl⟩
    have hgt : 0 < k := hkk hA (by assumption)
    have hw : IntKind.i64.wrap (k - 1) = k' := by rw [IntWalk.i64_in _ (by omega), hk']
    refine ⟨⟨(k', q, mk, s2), show 0 ≤ k' by omega, show k' ≤ 13 by omega, show p ≤ q by omega, show q + 10 * k' ≤ p + 140 by omega, (bound_step hs2 hsI hk' : (s2.rows.n : Int) + 20 * k' ≤ 260)⟩, by simp only; omega, cov_of ?_ ?_ ?_⟩
    · subst hA; repeat' first | exact True.intro | exact rfl | exact congrArg (fun x => DV.v (.int .i64 x)) hw | apply And.intro
    · subst hA; repeat' first | exact True.intro | exact rfl | apply And.intro | (intro _ _; first | rfl | trivial)
    · subst hA; repeat' first | exact True.intro | exact rfl | apply And.intro | exact .inl rfl | exact .inr (le_of_nble rfl)
  · obtain ⟨k', hk'⟩ : ∃ z, z = k - 1 := ⟨_, rfl⟩
    have hgt : 0 < k := hkk hA (by assumption)
    have hw : IntKind.i64.wrap (k - 1) = k' := by rw [IntWalk.i64_in _ (by omega), hk']
    refine ⟨⟨(k', q, mk, s), show 0 ≤ k' by omega, show k' ≤ 13 by omega, show p ≤ q by omega, show q + 10 * k' ≤ p + 140 by omega, (bound_step (Nat.le_add_right s.rows.n 20) hsI hk' : (s.rows.n : Int) + 20 * k' ≤ 260)⟩, by simp only; omega, cov_of ?_ ?_ ?_⟩
    · subst hA; repeat' first | exact True.intro | exact rfl | exact congrArg (fun x => DV.v (.int .i64 x)) hw | apply And.intro
    · subst hA; repeat' first | exact True.intro | exact rfl | apply And.intro | (intro _ _; first | rfl | trivial)
    · subst hA; repeat' first | exact True.intro | exact rfl | apply And.intro | exact .inl rfl | exact .inr (le_of_nble rfl)
  · refine stop_of hA ⟨[(5, .c (.bp 320 1 0)), (4, .c (.bp 256 1 0)), (0, .c (.bp 0 1 0))], [(320, 1, .box [.d (eI s.mark), .d (.sl 13 s.rows.n fun i => eRow (s.rows.g i))]), (256, 1, .box [.d (eI 0), .d (.v nilS)]), (0, 1, .box [.d (.sl 1 m fun i => [eU (b i)]), .d (eI q1)])]⟩ (cov_of ?_ ?_ ?_) ?_
    · cbv; try (subst hA; repeat' first | apply And.intro | exact True.intro | rfl | fail)
    · cbv; try (subst hA; repeat' first | apply And.intro | exact True.intro | rfl | (intro _ _; rfl) | (intro k hk; exact absurd hk (Nat.not_lt_zero k)) | fail)
    · cbv; try (subst hA; repeat' first | apply And.intro | exact True.intro | rfl | exact .inr trivial | exact .inl trivial)
    cbv
    repeat' first
      | apply And.intro
      | exact True.intro
      | with_reducible rfl
      | exact same_of hA rfl
      | refine br_of hA (fun _ => ?_) (fun _ => ?_)
      | exact imp_of hA id
      | (refine imp_of hA ?_; subst hA; simp only [real, Bool.true_and]; exact id)
      | (refine ind_of hA ?_; decide +kernel)
      | (refine fin_of hA ⟨⟨s, _⟩, ?_, rfl, rfl⟩; exact ⟨hq0, by simp only; omega, bound_end hsI hk0⟩)
end Go.Rk
/- Draws: bad. -/
namespace Go.Rk
set_option linter.unusedSimpArgs false
set_option linter.unusedVariables false
open Go.Proofs
set_option maxRecDepth 100000
set_option maxHeartbeats 1000000
theorem x_bad (m : Nat) (hm : m ≤ 2000) (b : Nat → Int) (hb : ∀ i, 0 ≤ b i ∧ b i ≤ 255) (p : Int) (hp : 0 ≤ p ∧ p ≤ 50000) (s : OpStT) (hs : s.rows.n ≤ 260) : ∃ y : OpStT × Int, (p ≤ y.2 ∧ y.2 ≤ p + 60 ∧ y.1.rows.n ≤ 261) ∧ Meets Try.prog 118 [.c (.box [.d (.sl 1 m fun i => [eU (b i)]), .d (eI p)]), .agg [.d (eI s.mark), .d (.sl 13 s.rows.n fun i => eRow (s.rows.g i))]] ⟨.one (.agg [.d (eI y.1.mark), .own 13 y.1.rows.n fun i => eRow (y.1.rows.g i)]), [some (.box [.d (.sl 1 m fun i => [eU (b i)]), .d (eI y.2)]), none]⟩ := by
  obtain ⟨mk, n, g, hnL⟩ := s
  have hs : n ≤ 260 := hs
  have cC := c_sCopy mk n (by omega) g
  have hpos : ∀ {A : Ar} {v : Bool}, real = A → A.bite (A.cmp .eql (A.int n) 0) true v = false → (1 : Int) ≤ n ∧ (n : Int) ≤ 1000000 := fun {A v} hA h => by
    subst hA
    have h : (bif ((n : Int) == 0) then true else v) = false := h
    by_cases g : n = 0
    · subst g; cases h
    · omega
  refine meets_ex (H := [20]) (EX := EXD) ttok mixed ([some (.box [.d (.sl 1 m fun i => [eU (b i)]), .d (eI 0)]), none]) Try.func118 rfl (by kernel_rfl) (by decide) (fun _ => rfl) ?_
  generalize hA : real = A
  generalize hM : MeetsB Try.prog = M
  cbv
  repeat' first
    | apply And.intro
    | exact True.intro
    | with_reducible rfl
    | exact same_of hA rfl
    | refine br_of hA (fun _ => ?_) (fun _ => ?_)
    | exact imp_of hA id
    | (refine imp_of hA ?_; subst hA; simp only [real, Bool.true_and]; exact id)
    | (refine ind_of hA ?_; decide +kernel)
    | (refine call_of hA hM _ cC ?_; cbv)
    | (have hp9 := hpos hA (by assumption); refine call_ex2 hA hM (x_pick m hm b hb q (by omega) (n : Int) hp9) ?_ ?_; (focus (subst hA; rfl)); rintro ⟨ix, q⟩ ⟨hx0, hx1, hq⟩; dsimp only at hx0 hx1 hq; obtain ⟨i, rfl⟩ := Int.eq_ofNat_of_zero_le hx0; have hin : i < n := Int.ofNat_lt.1 hx1; cbv)
    | (have hp9 := hpos hA (by assumption); refine call_ex2 hA hM (x_pick m hm b hb p (by omega) (n : Int) hp9) ?_ ?_; (focus (subst hA; rfl)); rintro ⟨ix, q⟩ ⟨hx0, hx1, hq⟩; dsimp only at hx0 hx1 hq; obtain ⟨i, rfl⟩ := Int.eq_ofNat_of_zero_le hx0; have hin : i < n := Int.ofNat_lt.1 hx1; cbv)
    | (refine call_ex hA hM (x_pick m hm b hb _ (by omega) _ (by omega)) ?_; rintro ⟨x, q⟩ ⟨hx0, hx1, hq⟩; dsimp only at hx0 hx1 hq; cbv)
    | (refine call_ex hA hM (x_agg m hm b hb _ (by omega) _ (by omega)) ?_; rintro ⟨ag, q⟩ ⟨hq0, hq1⟩; dsimp only at hq0 hq1; cbv)
    | (refine call_ex hA hM (x_win m hm b hb _ (by omega) _ (by omega)) ?_; rintro ⟨wi, q⟩ ⟨hq0, hq1⟩; dsimp only at hq0 hq1; cbv)
    | (refine inb_of hA (fun _ => ?_); first | exact ⟨Int.natCast_nonneg i, Int.ofNat_lt.2 hin⟩ | omega | (constructor <;> omega))
    | exact room_add2 hA (by omega) (by decide)
    | (refine fin_of hA ⟨⟨⟨_, ⟨n, g, hnL⟩⟩, _⟩, ?_, rfl, rfl⟩; exact ⟨by simp only; omega, by simp only; omega, show n ≤ 261 by omega⟩)
  · obtain ⟨R, hR⟩ : ∃ r : Nat → RowT, r = fun q => if q = i then { g q with key := real.sel [-1, 4] (real.add 0 (real.nat x)) } else g q := ⟨_, rfl⟩
    refine stop_of hA ⟨[(4, .c (.bp 256 1 0)), (3, .c (.bp 192 1 0)), (0, .c (.bp 0 1 0))], [(449, 1, .arr 13 n fun q => eRow (R q)), (256, 1, .box [.d (eI 0), .d (.v nilS)]), (192, 1, .box [.d (eI mk), .own 449 0 n 1]), (0, 1, .box [.d (.sl 1 m fun i => [eU (b i)]), .d (eI q)])]⟩ (cov_of ?_ ?_ ?_) ?_
    · subst hA; repeat' first | exact True.intro | exact rfl | apply And.intro
    · subst hA
      repeat' first | exact True.intro | exact rfl | apply And.intro | (intro _ _; first | rfl | trivial)
      all_goals
        intro q hq9
        subst hR
        by_cases e : q = i
        · subst e; simp [real]; try rfl
        · simp [real, e]
    · subst hA; repeat' first | exact True.intro | exact rfl | apply And.intro | exact .inl rfl | exact .inr (le_of_nble rfl)
    cbv
    repeat' first
      | apply And.intro
      | exact True.intro
      | with_reducible rfl
      | exact same_of hA rfl
      | refine br_of hA (fun _ => ?_) (fun _ => ?_)
      | exact imp_of hA id
      | (refine imp_of hA ?_; subst hA; simp only [real, Bool.true_and]; exact id)
      | (refine ind_of hA ?_; decide +kernel)
      | (refine fin_of hA ⟨⟨⟨_, ⟨n, R, hnL⟩⟩, _⟩, ?_, rfl, rfl⟩; exact ⟨by simp only; omega, by simp only; omega, show n ≤ 261 by omega⟩)
  · obtain ⟨R, hR⟩ : ∃ r : Nat → RowT, r = fun q => if q = i then { g q with win := wi } else g q := ⟨_, rfl⟩
    refine stop_of hA ⟨[(4, .c (.bp 256 1 0)), (3, .c (.bp 192 1 0)), (0, .c (.bp 0 1 0))], [(449, 1, .arr 13 n fun q => eRow (R q)), (256, 1, .box [.d (eI 0), .d (.v nilS)]), (192, 1, .box [.d (eI mk), .own 449 0 n 1]), (0, 1, .box [.d (.sl 1 m fun i => [eU (b i)]), .d (eI q)])]⟩ (cov_of ?_ ?_ ?_) ?_
    · subst hA; repeat' first | exact True.intro | exact rfl | apply And.intro
    · subst hA
      repeat' first | exact True.intro | exact rfl | apply And.intro | (intro _ _; first | rfl | trivial)
      all_goals
        intro q hq9
        subst hR
        by_cases e : q = i
        · subst e; simp [real]; try rfl
        · simp [real, e]
    · subst hA; repeat' first | exact True.intro | exact rfl | apply And.intro | exact .inl rfl | exact .inr (le_of_nble rfl)
    cbv
    repeat' first
      | apply And.intro
      | exact True.intro
      | with_reducible rfl
      | exact same_of hA rfl
      | refine br_of hA (fun _ => ?_) (fun _ => ?_)
      | exact imp_of hA id
      | (refine imp_of hA ?_; subst hA; simp only [real, Bool.true_and]; exact id)
      | (refine ind_of hA ?_; decide +kernel)
      | (refine fin_of hA ⟨⟨⟨_, ⟨n, R, hnL⟩⟩, _⟩, ?_, rfl, rfl⟩; exact ⟨by simp only; omega, by simp only; omega, show n ≤ 261 by omega⟩)
  · obtain ⟨R, hR⟩ : ∃ r : Nat → RowT, r = fun q => if q = i then { g q with all := ag } else g q := ⟨_, rfl⟩
    refine stop_of hA ⟨[(4, .c (.bp 256 1 0)), (3, .c (.bp 192 1 0)), (0, .c (.bp 0 1 0))], [(449, 1, .arr 13 n fun q => eRow (R q)), (256, 1, .box [.d (eI 0), .d (.v nilS)]), (192, 1, .box [.d (eI mk), .own 449 0 n 1]), (0, 1, .box [.d (.sl 1 m fun i => [eU (b i)]), .d (eI q)])]⟩ (cov_of ?_ ?_ ?_) ?_
    · subst hA; repeat' first | exact True.intro | exact rfl | apply And.intro
    · subst hA
      repeat' first | exact True.intro | exact rfl | apply And.intro | (intro _ _; first | rfl | trivial)
      all_goals
        intro q hq9
        subst hR
        by_cases e : q = i
        · subst e; simp [real]; try rfl
        · simp [real, e]
    · subst hA; repeat' first | exact True.intro | exact rfl | apply And.intro | exact .inl rfl | exact .inr (le_of_nble rfl)
    cbv
    repeat' first
      | apply And.intro
      | exact True.intro
      | with_reducible rfl
      | exact same_of hA rfl
      | refine br_of hA (fun _ => ?_) (fun _ => ?_)
      | exact imp_of hA id
      | (refine imp_of hA ?_; subst hA; simp only [real, Bool.true_and]; exact id)
      | (refine ind_of hA ?_; decide +kernel)
      | (refine fin_of hA ⟨⟨⟨_, ⟨n, R, hnL⟩⟩, _⟩, ?_, rfl, rfl⟩; exact ⟨by simp only; omega, by simp only; omega, show n ≤ 261 by omega⟩)
  · obtain ⟨R, hR⟩ : ∃ r : Nat → RowT, r = fun q => if q = i then { g q with fresh := ag } else g q := ⟨_, rfl⟩
    refine stop_of hA ⟨[(4, .c (.bp 256 1 0)), (3, .c (.bp 192 1 0)), (0, .c (.bp 0 1 0))], [(449, 1, .arr 13 n fun q => eRow (R q)), (256, 1, .box [.d (eI 0), .d (.v nilS)]), (192, 1, .box [.d (eI mk), .own 449 0 n 1]), (0, 1, .box [.d (.sl 1 m fun i => [eU (b i)]), .d (eI q)])]⟩ (cov_of ?_ ?_ ?_) ?_
    · subst hA; repeat' first | exact True.intro | exact rfl | apply And.intro
    · subst hA
      repeat' first | exact True.intro | exact rfl | apply And.intro | (intro _ _; first | rfl | trivial)
      all_goals
        intro q hq9
        subst hR
        by_cases e : q = i
        · subst e; simp [real]; try rfl
        · simp [real, e]
    · subst hA; repeat' first | exact True.intro | exact rfl | apply And.intro | exact .inl rfl | exact .inr (le_of_nble rfl)
    cbv
    repeat' first
      | apply And.intro
      | exact True.intro
      | with_reducible rfl
      | exact same_of hA rfl
      | refine br_of hA (fun _ => ?_) (fun _ => ?_)
      | exact imp_of hA id
      | (refine imp_of hA ?_; subst hA; simp only [real, Bool.true_and]; exact id)
      | (refine ind_of hA ?_; decide +kernel)
      | (refine fin_of hA ⟨⟨⟨_, ⟨n, R, hnL⟩⟩, _⟩, ?_, rfl, rfl⟩; exact ⟨by simp only; omega, by simp only; omega, show n ≤ 261 by omega⟩)
  · obtain ⟨R, hR⟩ : ∃ r : Nat → RowT, r = fun q => if q = i then { g q with told := real.sel [-1, 0, 1, 1501] (real.add 0 (real.nat x)) } else g q := ⟨_, rfl⟩
    refine stop_of hA ⟨[(4, .c (.bp 256 1 0)), (3, .c (.bp 192 1 0)), (0, .c (.bp 0 1 0))], [(449, 1, .arr 13 n fun q => eRow (R q)), (256, 1, .box [.d (eI 0), .d (.v nilS)]), (192, 1, .box [.d (eI mk), .own 449 0 n 1]), (0, 1, .box [.d (.sl 1 m fun i => [eU (b i)]), .d (eI q)])]⟩ (cov_of ?_ ?_ ?_) ?_
    · subst hA; repeat' first | exact True.intro | exact rfl | apply And.intro
    · subst hA
      repeat' first | exact True.intro | exact rfl | apply And.intro | (intro _ _; first | rfl | trivial)
      all_goals
        intro q hq9
        subst hR
        by_cases e : q = i
        · subst e; simp [real]; try rfl
        · simp [real, e]
    · subst hA; repeat' first | exact True.intro | exact rfl | apply And.intro | exact .inl rfl | exact .inr (le_of_nble rfl)
    cbv
    repeat' first
      | apply And.intro
      | exact True.intro
      | with_reducible rfl
      | exact same_of hA rfl
      | refine br_of hA (fun _ => ?_) (fun _ => ?_)
      | exact imp_of hA id
      | (refine imp_of hA ?_; subst hA; simp only [real, Bool.true_and]; exact id)
      | (refine ind_of hA ?_; decide +kernel)
      | (refine fin_of hA ⟨⟨⟨_, ⟨n, R, hnL⟩⟩, _⟩, ?_, rfl, rfl⟩; exact ⟨by simp only; omega, by simp only; omega, show n ≤ 261 by omega⟩)
  · obtain ⟨R, hR⟩ : ∃ r : Nat → RowT, r = fun q => if q = i then { g q with timely := real.bnot (g q).timely } else g q := ⟨_, rfl⟩
    refine stop_of hA ⟨[(4, .c (.bp 256 1 0)), (3, .c (.bp 192 1 0)), (0, .c (.bp 0 1 0))], [(449, 1, .arr 13 n fun q => eRow (R q)), (256, 1, .box [.d (eI 0), .d (.v nilS)]), (192, 1, .box [.d (eI mk), .own 449 0 n 1]), (0, 1, .box [.d (.sl 1 m fun i => [eU (b i)]), .d (eI q)])]⟩ (cov_of ?_ ?_ ?_) ?_
    · subst hA; repeat' first | exact True.intro | exact rfl | apply And.intro
    · subst hA
      repeat' first | exact True.intro | exact rfl | apply And.intro | (intro _ _; first | rfl | trivial)
      all_goals
        intro q hq9
        subst hR
        by_cases e : q = i
        · subst e; simp [real]; try rfl
        · simp [real, e]
    · subst hA; repeat' first | exact True.intro | exact rfl | apply And.intro | exact .inl rfl | exact .inr (le_of_nble rfl)
    cbv
    repeat' first
      | apply And.intro
      | exact True.intro
      | with_reducible rfl
      | exact same_of hA rfl
      | refine br_of hA (fun _ => ?_) (fun _ => ?_)
      | exact imp_of hA id
      | (refine imp_of hA ?_; subst hA; simp only [real, Bool.true_and]; exact id)
      | (refine ind_of hA ?_; decide +kernel)
      | (refine fin_of hA ⟨⟨⟨_, ⟨n, R, hnL⟩⟩, _⟩, ?_, rfl, rfl⟩; exact ⟨by simp only; omega, by simp only; omega, show n ≤ 261 by omega⟩)
  · obtain ⟨R, hR⟩ : ∃ r : Nat → RowT, r = fun q => if q < n then g q else g i := ⟨_, rfl⟩
    refine stop_of hA ⟨[(4, .c (.bp 256 1 0)), (3, .c (.bp 192 1 0)), (0, .c (.bp 0 1 0))], [(449, 2, .arr 13 (n + 1) fun q => eRow (R q)), (256, 1, .box [.d (eI 0), .d (.v nilS)]), (192, 1, .box [.d (eI mk), .own 449 0 (n + 1) 2]), (0, 1, .box [.d (.sl 1 m fun i => [eU (b i)]), .d (eI q)])]⟩ (cov_of ?_ ?_ ?_) ?_
    · subst hA; repeat' first | exact True.intro | exact rfl | apply And.intro
    · subst hA
      repeat' first | exact True.intro | exact rfl | apply And.intro | (intro _ _; first | rfl | trivial)
      all_goals
        intro q hq9
        subst hR
        have e0 : real.add 0 (real.nat (Int.ofNat i)) = i := Nat.zero_add i
        refine (push_if eRow rfl n g (g (real.add 0 (real.nat (Int.ofNat i)))) _ q hq9).trans ?_
        rw [e0]
    · subst hA; repeat' first | exact True.intro | exact rfl | apply And.intro | exact .inl rfl | exact .inr (le_of_nble rfl)
    cbv
    repeat' first
      | apply And.intro
      | exact True.intro
      | with_reducible rfl
      | exact same_of hA rfl
      | refine br_of hA (fun _ => ?_) (fun _ => ?_)
      | exact imp_of hA id
      | (refine imp_of hA ?_; subst hA; simp only [real, Bool.true_and]; exact id)
      | (refine ind_of hA ?_; decide +kernel)
      | (refine fin_of hA ⟨⟨⟨_, ⟨n + 1, R, Nat.le_trans (show n + 1 ≤ 261 by omega) (by decide)⟩⟩, _⟩, ?_, rfl, rfl⟩; exact ⟨by simp only; omega, by simp only; omega, show n + 1 ≤ 261 by omega⟩)
  · obtain ⟨R, hR⟩ : ∃ r : Nat → RowT, r = fun q => if q = i then { g q with key := real.sel [-1, 4] (real.add 0 (real.nat x)) } else g q := ⟨_, rfl⟩
    refine stop_of hA ⟨[(4, .c (.bp 256 1 0)), (3, .c (.bp 192 1 0)), (0, .c (.bp 0 1 0))], [(449, 1, .arr 13 n fun q => eRow (R q)), (256, 1, .box [.d (eI 0), .d (.v nilS)]), (192, 1, .box [.d (eI mk), .own 449 0 n 1]), (0, 1, .box [.d (.sl 1 m fun i => [eU (b i)]), .d (eI q)])]⟩ (cov_of ?_ ?_ ?_) ?_
    · subst hA; repeat' first | exact True.intro | exact rfl | apply And.intro
    · subst hA
      repeat' first | exact True.intro | exact rfl | apply And.intro | (intro _ _; first | rfl | trivial)
      all_goals
        intro q hq9
        subst hR
        by_cases e : q = i
        · subst e; simp [real]; try rfl
        · simp [real, e]
    · subst hA; repeat' first | exact True.intro | exact rfl | apply And.intro | exact .inl rfl | exact .inr (le_of_nble rfl)
    cbv
    repeat' first
      | apply And.intro
      | exact True.intro
      | with_reducible rfl
      | exact same_of hA rfl
      | refine br_of hA (fun _ => ?_) (fun _ => ?_)
      | exact imp_of hA id
      | (refine imp_of hA ?_; subst hA; simp only [real, Bool.true_and]; exact id)
      | (refine ind_of hA ?_; decide +kernel)
      | (refine fin_of hA ⟨⟨⟨_, ⟨n, R, hnL⟩⟩, _⟩, ?_, rfl, rfl⟩; exact ⟨by simp only; omega, by simp only; omega, show n ≤ 261 by omega⟩)
  · obtain ⟨R, hR⟩ : ∃ r : Nat → RowT, r = fun q => if q = i then { g q with win := wi } else g q := ⟨_, rfl⟩
    refine stop_of hA ⟨[(4, .c (.bp 256 1 0)), (3, .c (.bp 192 1 0)), (0, .c (.bp 0 1 0))], [(449, 1, .arr 13 n fun q => eRow (R q)), (256, 1, .box [.d (eI 0), .d (.v nilS)]), (192, 1, .box [.d (eI mk), .own 449 0 n 1]), (0, 1, .box [.d (.sl 1 m fun i => [eU (b i)]), .d (eI q)])]⟩ (cov_of ?_ ?_ ?_) ?_
    · subst hA; repeat' first | exact True.intro | exact rfl | apply And.intro
    · subst hA
      repeat' first | exact True.intro | exact rfl | apply And.intro | (intro _ _; first | rfl | trivial)
      all_goals
        intro q hq9
        subst hR
        by_cases e : q = i
        · subst e; simp [real]; try rfl
        · simp [real, e]
    · subst hA; repeat' first | exact True.intro | exact rfl | apply And.intro | exact .inl rfl | exact .inr (le_of_nble rfl)
    cbv
    repeat' first
      | apply And.intro
      | exact True.intro
      | with_reducible rfl
      | exact same_of hA rfl
      | refine br_of hA (fun _ => ?_) (fun _ => ?_)
      | exact imp_of hA id
      | (refine imp_of hA ?_; subst hA; simp only [real, Bool.true_and]; exact id)
      | (refine ind_of hA ?_; decide +kernel)
      | (refine fin_of hA ⟨⟨⟨_, ⟨n, R, hnL⟩⟩, _⟩, ?_, rfl, rfl⟩; exact ⟨by simp only; omega, by simp only; omega, show n ≤ 261 by omega⟩)
  · obtain ⟨R, hR⟩ : ∃ r : Nat → RowT, r = fun q => if q = i then { g q with all := ag } else g q := ⟨_, rfl⟩
    refine stop_of hA ⟨[(4, .c (.bp 256 1 0)), (3, .c (.bp 192 1 0)), (0, .c (.bp 0 1 0))], [(449, 1, .arr 13 n fun q => eRow (R q)), (256, 1, .box [.d (eI 0), .d (.v nilS)]), (192, 1, .box [.d (eI mk), .own 449 0 n 1]), (0, 1, .box [.d (.sl 1 m fun i => [eU (b i)]), .d (eI q)])]⟩ (cov_of ?_ ?_ ?_) ?_
    · subst hA; repeat' first | exact True.intro | exact rfl | apply And.intro
    · subst hA
      repeat' first | exact True.intro | exact rfl | apply And.intro | (intro _ _; first | rfl | trivial)
      all_goals
        intro q hq9
        subst hR
        by_cases e : q = i
        · subst e; simp [real]; try rfl
        · simp [real, e]
    · subst hA; repeat' first | exact True.intro | exact rfl | apply And.intro | exact .inl rfl | exact .inr (le_of_nble rfl)
    cbv
    repeat' first
      | apply And.intro
      | exact True.intro
      | with_reducible rfl
      | exact same_of hA rfl
      | refine br_of hA (fun _ => ?_) (fun _ => ?_)
      | exact imp_of hA id
      | (refine imp_of hA ?_; subst hA; simp only [real, Bool.true_and]; exact id)
      | (refine ind_of hA ?_; decide +kernel)
      | (refine fin_of hA ⟨⟨⟨_, ⟨n, R, hnL⟩⟩, _⟩, ?_, rfl, rfl⟩; exact ⟨by simp only; omega, by simp only; omega, show n ≤ 261 by omega⟩)
  · obtain ⟨R, hR⟩ : ∃ r : Nat → RowT, r = fun q => if q = i then { g q with fresh := ag } else g q := ⟨_, rfl⟩
    refine stop_of hA ⟨[(4, .c (.bp 256 1 0)), (3, .c (.bp 192 1 0)), (0, .c (.bp 0 1 0))], [(449, 1, .arr 13 n fun q => eRow (R q)), (256, 1, .box [.d (eI 0), .d (.v nilS)]), (192, 1, .box [.d (eI mk), .own 449 0 n 1]), (0, 1, .box [.d (.sl 1 m fun i => [eU (b i)]), .d (eI q)])]⟩ (cov_of ?_ ?_ ?_) ?_
    · subst hA; repeat' first | exact True.intro | exact rfl | apply And.intro
    · subst hA
      repeat' first | exact True.intro | exact rfl | apply And.intro | (intro _ _; first | rfl | trivial)
      all_goals
        intro q hq9
        subst hR
        by_cases e : q = i
        · subst e; simp [real]; try rfl
        · simp [real, e]
    · subst hA; repeat' first | exact True.intro | exact rfl | apply And.intro | exact .inl rfl | exact .inr (le_of_nble rfl)
    cbv
    repeat' first
      | apply And.intro
      | exact True.intro
      | with_reducible rfl
      | exact same_of hA rfl
      | refine br_of hA (fun _ => ?_) (fun _ => ?_)
      | exact imp_of hA id
      | (refine imp_of hA ?_; subst hA; simp only [real, Bool.true_and]; exact id)
      | (refine ind_of hA ?_; decide +kernel)
      | (refine fin_of hA ⟨⟨⟨_, ⟨n, R, hnL⟩⟩, _⟩, ?_, rfl, rfl⟩; exact ⟨by simp only; omega, by simp only; omega, show n ≤ 261 by omega⟩)
  · obtain ⟨R, hR⟩ : ∃ r : Nat → RowT, r = fun q => if q = i then { g q with told := real.sel [-1, 0, 1, 1501] (real.add 0 (real.nat x)) } else g q := ⟨_, rfl⟩
    refine stop_of hA ⟨[(4, .c (.bp 256 1 0)), (3, .c (.bp 192 1 0)), (0, .c (.bp 0 1 0))], [(449, 1, .arr 13 n fun q => eRow (R q)), (256, 1, .box [.d (eI 0), .d (.v nilS)]), (192, 1, .box [.d (eI mk), .own 449 0 n 1]), (0, 1, .box [.d (.sl 1 m fun i => [eU (b i)]), .d (eI q)])]⟩ (cov_of ?_ ?_ ?_) ?_
    · subst hA; repeat' first | exact True.intro | exact rfl | apply And.intro
    · subst hA
      repeat' first | exact True.intro | exact rfl | apply And.intro | (intro _ _; first | rfl | trivial)
      all_goals
        intro q hq9
        subst hR
        by_cases e : q = i
        · subst e; simp [real]; try rfl
        · simp [real, e]
    · subst hA; repeat' first | exact True.intro | exact rfl | apply And.intro | exact .inl rfl | exact .inr (le_of_nble rfl)
    cbv
    repeat' first
      | apply And.intro
      | exact True.intro
      | with_reducible rfl
      | exact same_of hA rfl
      | refine br_of hA (fun _ => ?_) (fun _ => ?_)
      | exact imp_of hA id
      | (refine imp_of hA ?_; subst hA; simp only [real, Bool.true_and]; exact id)
      | (refine ind_of hA ?_; decide +kernel)
      | (refine fin_of hA ⟨⟨⟨_, ⟨n, R, hnL⟩⟩, _⟩, ?_, rfl, rfl⟩; exact ⟨by simp only; omega, by simp only; omega, show n ≤ 261 by omega⟩)
  · obtain ⟨R, hR⟩ : ∃ r : Nat → RowT, r = fun q => if q = i then { g q with timely := real.bnot (g q).timely } else g q := ⟨_, rfl⟩
    refine stop_of hA ⟨[(4, .c (.bp 256 1 0)), (3, .c (.bp 192 1 0)), (0, .c (.bp 0 1 0))], [(449, 1, .arr 13 n fun q => eRow (R q)), (256, 1, .box [.d (eI 0), .d (.v nilS)]), (192, 1, .box [.d (eI mk), .own 449 0 n 1]), (0, 1, .box [.d (.sl 1 m fun i => [eU (b i)]), .d (eI q)])]⟩ (cov_of ?_ ?_ ?_) ?_
    · subst hA; repeat' first | exact True.intro | exact rfl | apply And.intro
    · subst hA
      repeat' first | exact True.intro | exact rfl | apply And.intro | (intro _ _; first | rfl | trivial)
      all_goals
        intro q hq9
        subst hR
        by_cases e : q = i
        · subst e; simp [real]; try rfl
        · simp [real, e]
    · subst hA; repeat' first | exact True.intro | exact rfl | apply And.intro | exact .inl rfl | exact .inr (le_of_nble rfl)
    cbv
    repeat' first
      | apply And.intro
      | exact True.intro
      | with_reducible rfl
      | exact same_of hA rfl
      | refine br_of hA (fun _ => ?_) (fun _ => ?_)
      | exact imp_of hA id
      | (refine imp_of hA ?_; subst hA; simp only [real, Bool.true_and]; exact id)
      | (refine ind_of hA ?_; decide +kernel)
      | (refine fin_of hA ⟨⟨⟨_, ⟨n, R, hnL⟩⟩, _⟩, ?_, rfl, rfl⟩; exact ⟨by simp only; omega, by simp only; omega, show n ≤ 261 by omega⟩)
  · obtain ⟨R, hR⟩ : ∃ r : Nat → RowT, r = fun q => if q < n then g q else g i := ⟨_, rfl⟩
    refine stop_of hA ⟨[(4, .c (.bp 256 1 0)), (3, .c (.bp 192 1 0)), (0, .c (.bp 0 1 0))], [(449, 2, .arr 13 (n + 1) fun q => eRow (R q)), (256, 1, .box [.d (eI 0), .d (.v nilS)]), (192, 1, .box [.d (eI mk), .own 449 0 (n + 1) 2]), (0, 1, .box [.d (.sl 1 m fun i => [eU (b i)]), .d (eI q)])]⟩ (cov_of ?_ ?_ ?_) ?_
    · subst hA; repeat' first | exact True.intro | exact rfl | apply And.intro
    · subst hA
      repeat' first | exact True.intro | exact rfl | apply And.intro | (intro _ _; first | rfl | trivial)
      all_goals
        intro q hq9
        subst hR
        have e0 : real.add 0 (real.nat (Int.ofNat i)) = i := Nat.zero_add i
        refine (push_if eRow rfl n g (g (real.add 0 (real.nat (Int.ofNat i)))) _ q hq9).trans ?_
        rw [e0]
    · subst hA; repeat' first | exact True.intro | exact rfl | apply And.intro | exact .inl rfl | exact .inr (le_of_nble rfl)
    cbv
    repeat' first
      | apply And.intro
      | exact True.intro
      | with_reducible rfl
      | exact same_of hA rfl
      | refine br_of hA (fun _ => ?_) (fun _ => ?_)
      | exact imp_of hA id
      | (refine imp_of hA ?_; subst hA; simp only [real, Bool.true_and]; exact id)
      | (refine ind_of hA ?_; decide +kernel)
      | (refine fin_of hA ⟨⟨⟨_, ⟨n + 1, R, Nat.le_trans (show n + 1 ≤ 261 by omega) (by decide)⟩⟩, _⟩, ?_, rfl, rfl⟩; exact ⟨by simp only; omega, by simp only; omega, show n + 1 ≤ 261 by omega⟩)
end Go.Rk
/- Draws: any. -/
namespace Go.Rk
set_option linter.unusedSimpArgs false
set_option linter.unusedVariables false
open Go.Proofs
set_option maxRecDepth 100000
set_option maxHeartbeats 1000000
theorem x_badD (m : Nat) (hm : m ≤ 2000) (b : Nat → Int) (hb : ∀ i, 0 ≤ b i ∧ b i ≤ 255) (p : Int) (hp : 0 ≤ p ∧ p ≤ 50000) (s : OpStT) (hs : s.rows.n ≤ 260) : ∃ y : OpStT × Int, (p ≤ y.2 ∧ y.2 ≤ p + 60 ∧ y.1.rows.n ≤ 261) ∧ Meets Try.prog 118 [.c (.box [.d (.sl 1 m fun i => [eU (b i)]), .d (eI p)]), .agg [.d (eI s.mark), .d (.sl 13 s.rows.n fun i => eRow (s.rows.g i))]] ⟨.one (.agg [.d (eI y.1.mark), .d (.sl 13 y.1.rows.n fun i => eRow (y.1.rows.g i))]), [some (.box [.d (.sl 1 m fun i => [eU (b i)]), .d (eI y.2)]), none]⟩ := by
  obtain ⟨y, hy, h⟩ := x_bad m hm b hb p hp s hs
  exact ⟨y, hy, meets_frz h rfl⟩
theorem x_any (m : Nat) (hm : m ≤ 2000) (b : Nat → Int) (hb : ∀ i, 0 ≤ b i ∧ b i ≤ 255) (p : Int) (hp : 0 ≤ p ∧ p ≤ 30000) (n : Int) (hn : 1 ≤ n ∧ n ≤ 100) : ∃ y : (JobT × OpStT) × Int, (p ≤ y.2 ∧ y.2 ≤ p + 400 ∧ y.1.2.rows.n ≤ 261) ∧ Meets Try.prog 62 [.c (.box [.d (.sl 1 m fun i => [eU (b i)]), .d (eI p)]), .c (.d (eI n))] ⟨.tup [xd (eJob y.1.1), .agg [.d (eI y.1.2.mark), .d (.sl 13 y.1.2.rows.n fun i => eRow (y.1.2.rows.g i))]], [some (.box [.d (.sl 1 m fun i => [eU (b i)]), .d (eI y.2)]), none]⟩ := by
  refine meets_ex (H := []) (EX := EXD) ttok mixed ([some (.box [.d (.sl 1 m fun i => [eU (b i)]), .d (eI 0)]), none]) Try.func62 rfl (by kernel_rfl) (by decide) (fun _ => rfl) ?_
  generalize hA : real = A
  generalize hM : MeetsB Try.prog = M
  cbv
  repeat' first
    | apply And.intro
    | exact True.intro
    | with_reducible rfl
    | exact same_of hA rfl
    | refine br_of hA (fun _ => ?_) (fun _ => ?_)
    | exact imp_of hA id
    | (refine imp_of hA ?_; subst hA; simp only [real, Bool.true_and]; exact id)
    | (refine ind_of hA ?_; decide +kernel)
    | (refine call_ex hA hM (x_job m hm b hb _ (by omega)) ?_; rintro ⟨j, q⟩ ⟨hq0, hq1⟩; dsimp only at hq0 hq1; cbv)
    | (refine call_ex hA hM (x_op m hm b hb _ (by omega) ⟨_, _, _, _, _, _, _, _, _, _⟩) ?_; rintro ⟨s, q⟩ ⟨hq0, hq1, hs⟩; dsimp only at hq0 hq1 hs; cbv)
    | (refine call_ex hA hM (x_pick m hm b hb _ (by omega) _ (by omega)) ?_; rintro ⟨x, q⟩ ⟨hx0, hx1, hq⟩; dsimp only at hx0 hx1 hq; cbv)
    | (refine call_ex hA hM (x_anyJob m hm b hb _ (by omega) _ (by omega)) ?_; rintro ⟨j, q⟩ ⟨hq0, hq1⟩; dsimp only at hq0 hq1; cbv)
    | (refine call_ex hA hM (x_badD m hm b hb _ (by omega) s hs) ?_; rintro ⟨s2, q⟩ ⟨hq0, hq1, hs2⟩; dsimp only at hq0 hq1 hs2; cbv)
    | (refine inb_of hA (fun _ => ?_); (first | omega | (constructor <;> omega)))
    | (refine fin_of hA ⟨⟨⟨⟨_, _, _, _, _, _, _, _, _, _⟩, s2⟩, _⟩, ?_, rfl, rfl⟩; exact ⟨by simp only; omega, by simp only; omega, hs2⟩)
    | (refine fin_of hA ⟨⟨⟨⟨_, _, _, _, _, _, _, _, _, _⟩, s⟩, _⟩, ?_, rfl, rfl⟩; exact ⟨by simp only; omega, by simp only; omega, Nat.le_succ_of_le hs⟩)
end Go.Rk
/- What it means that checkpoints are ok. -/
namespace Go.Rk
set_option linter.unusedSimpArgs false
set_option linter.unusedVariables false
def MarksP (j : JobT) (ms : Sl Int) : Prop := (ms.n : Int) = j.srcs ∧ ∀ i, i < ms.n → (0 ≤ ms.g i ∧ ms.g i ≤ 1000)
end Go.Rk
