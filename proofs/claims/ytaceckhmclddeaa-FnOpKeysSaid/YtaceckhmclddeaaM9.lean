/- The walk over this seat's functions, part 9: what each of them answers, at all data. -/
import Derived.Test.YtaceckhmclddeaaM1
import Derived.Test.YtaceckhmclddeaaM2
import Derived.Test.YtaceckhmclddeaaM3
import Derived.Test.YtaceckhmclddeaaM4
import Derived.Test.YtaceckhmclddeaaM5
import Derived.Test.YtaceckhmclddeaaM6
import Derived.Test.YtaceckhmclddeaaM7
import Derived.Test.YtaceckhmclddeaaM8
/- A record, as the reference takes it: into a session. -/
namespace Go.Rk
set_option linter.unusedSimpArgs false
set_option linter.unusedVariables false
open Go.Proofs
set_option maxRecDepth 100000
set_option maxHeartbeats 1000000
def st_ls1 (j : JobT) (mk : Int) (n : Nat) (g : Nat → RowT) (x : ItmT) (w : WinT) (i kr : Nat) (Gr : Nat → RowT) (ko : Nat) (Go : Nat → RowT) (sp : WinT) : St := ⟨[(14, .c (.d (eI i))), (7, .c (.bp 448 1 0)), (12, .c (.own 1920 0 kr 1)), (13, .c (.own 1984 0 ko 1)), (4, .c (.bp 256 1 0)), (5, .c (.bp 320 1 0)), (6, .c (.bp 384 1 0)), (8, .c (.bp 512 1 0)), (11, .c (.bp 704 1 0))], [(256, 1, .box ((eJob j).map .d)), (320, 1, .box [.d (eI mk), .d (.sl 13 n fun i => eRow (g i))]), (384, 1, .box ((eItm x).map .d)), (448, 1, .box ((eWin w).map .d)), (512, 1, .box [.d (eI 0), .d (.v nilS)]), (704, 1, .box ((eRow ⟨x.key, sp, agg1 x.v, agg1 x.v, 0, false⟩).map .d)), (1920, 1, .arr 13 kr fun i => eRow (Gr i)), (1984, 1, .arr 13 ko fun i => eRow (Go i))]⟩
def st_ls2 (j : JobT) (mk : Int) (n : Nat) (g : Nat → RowT) (x : ItmT) (w : WinT) (kr : Nat) (Gr : Nat → RowT) (ko : Nat) (Go : Nat → RowT) (sp : WinT) (i : Nat) (a : AggT) (c : Nat) (P : Nat → PaneT) : St := ⟨[(16, .c (.d (eI i))), (12, .c (.own 1920 0 kr 1)), (13, .c (.own 1984 0 ko 1)), (15, .c (.own 7424 0 c 1)), (4, .c (.bp 256 1 0)), (5, .c (.bp 320 1 0)), (6, .c (.bp 384 1 0)), (8, .c (.bp 512 1 0)), (11, .c (.bp 704 1 0))], [(256, 1, .box ((eJob j).map .d)), (320, 1, .box [.d (eI mk), .d (.sl 13 n fun i => eRow (g i))]), (384, 1, .box ((eItm x).map .d)), (448, 1, .box ((eWin w).map .d)), (512, 1, .box [.d (eI 0), .d (.v nilS)]), (704, 1, .box ((eRow ⟨x.key, sp, a, agg1 x.v, 0, false⟩).map .d)), (1920, 1, .arr 13 kr fun i => eRow (Gr i)), (1984, 1, .arr 13 ko fun i => eRow (Go i)), (7424, 1, .arr 9 c fun i => ePane (P i))]⟩
theorem m_lsG (j : JobT) (mk : Int) (l : List RowT) (n : Nat) (g : Nat → RowT) (hl : Lst zRow l n g) (hn : n ≤ 500000) (x : ItmT) (w : WinT) (sp : WinT) (hsp : sp = spanL w (oldL x.key w l)) (hov : w64 (sp.e + j.late) ≤ mk) (P : Nat → PaneT) : Meets Try.prog 143 [xd (eJob j), .agg [.d (eI mk), .d (.sl 13 n fun i => eRow (g i))], xd (eItm x), xd (eWin w)]
    ⟨.tup [.agg [.d (eI mk), .d (.sl 13 n fun i => eRow (g i))], .c (.d (.sl 9 0 fun i => ePane (P i))), .c (.d (eB false))], [none, none, none, none]⟩ := by
  have hnL : n ≤ maxLen := Nat.le_trans (show n ≤ 1080000 by omega) (by decide)
  have cA := c_sAggAdd zAgg x.v (agg1 x.v) rfl
  have no : ∀ {A : Ar}, real = A → A.cmp .geq mk (A.ar .add .i64 sp.e j.late) = false → False := fun hA h => by
    subst hA
    exact of_decide_eq_false h hov
  refine meets_frz (r := .tup [.agg [.d (eI mk), .d (.sl 13 n fun i => eRow (g i))], .c (.own 9 0 fun i => ePane (P i)), .c (.d (eB false))]) ?_ rfl
  refine meets_up (res := .tup [.agg [.d (eI mk), .d (.sl 13 n fun i => eRow (g i))], .c (.own 9 0 (real.rep (ePane zPan))), .c (.d (eB false))]) ⟨⟨UpV.refl _, UpV.refl _, trivial⟩, UpV.row fun i hi => absurd hi (Nat.not_lt_zero i), UpV.refl _, trivial⟩ ?_
  refine meets_of (H := [11]) (EX := EXA) ttok mixed Try.func143 rfl (by kernel_rfl) (by decide) ?_
  generalize hA : real = A
  generalize hM : MeetsB Try.prog = M
  cbv
  repeat' first
    | apply And.intro
    | exact True.intro
    | with_reducible rfl
    | exact same_of hA rfl
    | refine br_of hA (fun _ => ?_) (fun _ => ?_)
    | exact imp_of hA id
    | (refine imp_of hA ?_; subst hA; simp only [real, Bool.true_and]; exact id)
    | (refine ind_of hA ?_; decide +kernel)
    | (refine call_of hA hM _ cA ?_; cbv)
  refine loop_of hA (α := { y : Nat × (Nat × (Nat → RowT)) × (Nat × (Nat → RowT)) × WinT // y.1 ≤ n ∧ Lst zRow (restL x.key w (l.take y.1)) y.2.1.1 y.2.1.2 ∧ Lst zRow (oldL x.key w (l.take y.1)) y.2.2.1.1 y.2.2.1.2 ∧ y.2.2.2 = spanL w (oldL x.key w (l.take y.1)) }) (fun y => st_ls1 j mk n g x w y.1.1 y.1.2.1.1 y.1.2.1.2 y.1.2.2.1.1 y.1.2.2.1.2 y.1.2.2.2) (fun y => n - y.1.1) ⟨(0, (0, fun _ => zRow), (0, fun _ => zRow), w), Nat.zero_le _, ⟨rfl, fun k h => absurd h (Nat.not_lt_zero k)⟩, ⟨rfl, fun k h => absurd h (Nat.not_lt_zero k)⟩, rfl⟩ ?_ ?_
  · refine cov_of ?_ ?_ ?_
    · (subst hA; (repeat' first | exact True.intro | exact rfl | apply And.intro))
    · (subst hA; (repeat' first | exact True.intro | exact rfl | apply And.intro | (intro _ _; first | rfl | trivial) | (intro q hq; exact absurd hq (Nat.not_lt_zero q))))
    · (subst hA; (repeat' first | exact True.intro | exact rfl | apply And.intro | exact .inl rfl | exact .inr (le_of_nble rfl)))
  rintro ⟨⟨u, ⟨kr, Gr⟩, ⟨ko, Go⟩, s1⟩, hu, hr, ho, hs1⟩
  have hu : u ≤ n := hu
  have hr : Lst zRow (restL x.key w (l.take u)) kr Gr := hr
  have ho : Lst zRow (oldL x.key w (l.take u)) ko Go := ho
  have hs1 : s1 = spanL w (oldL x.key w (l.take u)) := hs1
  have hkr : kr ≤ u := by
    rw [hr.1]
    refine Nat.le_trans (restL_len _ _ _) ?_
    rw [List.length_take]; omega
  have hko : ko ≤ u := by
    rw [ho.1]
    refine Nat.le_trans (oldL_len _ _ _) ?_
    rw [List.length_take]; omega
  obtain ⟨s2, hs2⟩ : ∃ z, z = winSpan s1 (g u).win := ⟨_, rfl⟩
  have cS := fun q (e : q = u) => c_sWinSpan s1 (g q).win s2 (by rw [e]; exact hs2)
  have eq0 : A.nat (Int.ofNat u) = u := by subst hA; exact Int.toNat_natCast u
  have hso : u < n → oldL x.key w (l.take (u + 1)) = oldL x.key w (l.take u) ++ if tchR x.key w (g u) = true then [g u] else [] := fun h => by rw [lst_take hl h, oldL_snoc]
  have hsr : u < n → restL x.key w (l.take (u + 1)) = restL x.key w (l.take u) ++ if tchR x.key w (g u) = true then [] else [g u] := fun h => by rw [lst_take hl h, restL_snoc]
  cbv
  repeat' first
    | apply And.intro
    | exact True.intro
    | with_reducible rfl
    | exact same_of hA rfl
    | refine br_of hA (fun _ => ?_) (fun _ => ?_)
    | exact imp_of hA id
    | (refine imp_of hA ?_; subst hA; simp only [real, Bool.true_and]; exact id)
    | (refine ind_of hA ?_; decide +kernel)
    | (refine call_of hA hM _ (cS _ eq0) ?_; cbv)
    | (refine call_ex hA hM (c_sTouchP _ _ _ _) (fun _ _ => ?_); cbv)
    | (refine inb_lt hA ?_; first | exact lt2_of hA (by assumption) | exact lt_of hA (by assumption))
    | exact room_add2 hA (by omega) (by decide)
    | exact flat_row hA _ _
  · rename_i hlt b hb hc
    have hlt' : u < n := by first | exact lt2_of hA hlt | exact lt_of hA hlt
    have ht : tchR x.key w (g u) = true := by
      rw [← eq0]
      subst hA
      unfold tchR
      rw [decide_eq_true_eq]
      have hb : b = true ↔ ((g (real.nat (Int.ofNat u))).win.s < w.e ∧ w.s < (g (real.nat (Int.ofNat u))).win.e) := hb
      have hc : (bif ((g (real.nat (Int.ofNat u))).key == x.key) then b else false) = true := hc
      cases hk : ((g (real.nat (Int.ofNat u))).key == x.key) with
      | false => rw [hk] at hc; cases hc
      | true => rw [hk] at hc; exact ⟨by simpa using hk, hb.1 hc⟩
    refine ⟨⟨(u + 1, (kr, Gr), (ko + 1, fun q => if q < ko then Go q else g u), s2), hlt', ?_, ?_, ?_⟩, by dsimp only; omega, cov_of ?_ ?_ ?_⟩
    · dsimp only; rw [hsr hlt', if_pos ht, List.append_nil]; exact hr
    · dsimp only; rw [hso hlt', if_pos ht]; exact lst_snoc ho
    · dsimp only; rw [hso hlt', if_pos ht, spanL_app, ← hs1]; exact hs2
    · (subst hA; (repeat' first | exact True.intro | exact rfl | apply And.intro | exact congrArg (fun x => DV.v (.int .i64 x)) (up64 hlt' hnL)))
    · (subst hA; (repeat' first | exact True.intro | exact rfl | apply And.intro | (intro _ _; first | rfl | trivial) | (intro q hq; exact push_if (A := real) eRow rfl ko Go (g u) (fun _ => eRow zRow) q hq)))
    · (subst hA; (repeat' first | exact True.intro | exact rfl | apply And.intro | exact .inl rfl | exact .inr (le_of_nble rfl)))
  · rename_i hlt b hb hc
    have hlt' : u < n := by first | exact lt2_of hA hlt | exact lt_of hA hlt
    have ht : ¬ tchR x.key w (g u) = true := by
      rw [← eq0]
      subst hA
      unfold tchR
      rw [decide_eq_true_eq]
      have hb : b = true ↔ ((g (real.nat (Int.ofNat u))).win.s < w.e ∧ w.s < (g (real.nat (Int.ofNat u))).win.e) := hb
      have hc : (bif ((g (real.nat (Int.ofNat u))).key == x.key) then b else false) = false := hc
      rintro ⟨h1, h2⟩
      rw [hb.2 h2] at hc
      rw [h1] at hc
      simp at hc
    refine ⟨⟨(u + 1, (kr + 1, fun q => if q < kr then Gr q else g u), (ko, Go), s1), hlt', ?_, ?_, ?_⟩, by dsimp only; omega, cov_of ?_ ?_ ?_⟩
    · dsimp only; rw [hsr hlt', if_neg ht]; exact lst_snoc hr
    · dsimp only; rw [hso hlt', if_neg ht, List.append_nil]; exact ho
    · dsimp only; rw [hso hlt', if_neg ht, List.append_nil]; exact hs1
    · (subst hA; (repeat' first | exact True.intro | exact rfl | apply And.intro | exact congrArg (fun x => DV.v (.int .i64 x)) (up64 hlt' hnL)))
    · (subst hA; (repeat' first | exact True.intro | exact rfl | apply And.intro | (intro _ _; first | rfl | trivial) | (intro q hq; exact push_if (A := real) eRow rfl kr Gr (g u) (fun _ => eRow zRow) q hq)))
    · (subst hA; (repeat' first | exact True.intro | exact rfl | apply And.intro | exact .inl rfl | exact .inr (le_of_nble rfl)))
  rename_i hge
  have hun : n = u := by first | (have := ge2_of hA hge; omega) | (have := ge_of hA hge; omega)
  have hr : Lst zRow (restL x.key w l) kr Gr := by rw [← lst_all hl, hun]; exact hr
  have ho : Lst zRow (oldL x.key w l) ko Go := by rw [← lst_all hl, hun]; exact ho
  have hss : s1 = sp := by rw [hs1, hsp, ← hun, lst_all hl]
  subst hss
  refine stop_of hA ⟨[(7, .c (.bp 448 1 0)), (12, .c (.own 1920 0 kr 1)), (13, .c (.own 1984 0 ko 1)), (4, .c (.bp 256 1 0)), (5, .c (.bp 320 1 0)), (6, .c (.bp 384 1 0)), (8, .c (.bp 512 1 0)), (11, .c (.bp 704 1 0))], [(256, 1, .box ((eJob j).map .d)), (320, 1, .box [.d (eI mk), .d (.sl 13 n fun i => eRow (g i))]), (384, 1, .box ((eItm x).map .d)), (448, 1, .box ((eWin w).map .d)), (512, 1, .box [.d (eI 0), .d (.v nilS)]), (704, 1, .box ((eRow ⟨x.key, s1, agg1 x.v, agg1 x.v, 0, false⟩).map .d)), (1920, 1, .arr 13 kr fun i => eRow (Gr i)), (1984, 1, .arr 13 ko fun i => eRow (Go i))]⟩ (cov_of ?_ ?_ ?_) ?_
  · (subst hA; (repeat' first | exact True.intro | exact rfl | apply And.intro))
  · (subst hA; (repeat' first | exact True.intro | exact rfl | apply And.intro | (intro _ _; first | rfl | trivial)))
  · (subst hA; (repeat' first | exact True.intro | exact rfl | apply And.intro | exact .inl rfl | exact .inr (le_of_nble rfl)))
  cbv
  repeat' first
    | exact (no hA (by assumption)).elim
    | apply And.intro
    | exact True.intro
    | with_reducible rfl
    | exact same_of hA rfl
    | refine br_of hA (fun _ => ?_) (fun _ => ?_)
    | exact imp_of hA id
    | (refine imp_of hA ?_; subst hA; simp only [real, Bool.true_and]; exact id)
    | (refine ind_of hA ?_; decide +kernel)
  all_goals (subst hA; rfl)
theorem m_lsO (j : JobT) (mk : Int) (l : List RowT) (n : Nat) (g : Nat → RowT) (hl : Lst zRow l n g) (hn : n ≤ 500000) (x : ItmT) (w : WinT) (sp : WinT) (hsp : sp = spanL w (oldL x.key w l)) (hov : mk < w64 (sp.e + j.late)) (hone : oneB sp (oldL x.key w l) = true) (q : List RowT × List PaneT) (hq : intoL j mk x.key x.v sp l = some q) (n1 : Nat) (G1 : Nat → RowT) (h1 : Lst zRow q.1 n1 G1) (c : Nat) (P : Nat → PaneT) (hP : Lst zPan q.2 c P) : Meets Try.prog 143 [xd (eJob j), .agg [.d (eI mk), .d (.sl 13 n fun i => eRow (g i))], xd (eItm x), xd (eWin w)]
    ⟨.tup [.agg [.d (eI mk), .d (.sl 13 n1 fun i => eRow (G1 i))], .c (.d (.sl 9 c fun i => ePane (P i))), .c (.d (eB true))], [none, none, none, none]⟩ := by
  have hnL : n ≤ maxLen := Nat.le_trans (show n ≤ 1080000 by omega) (by decide)
  have cA := c_sAggAdd zAgg x.v (agg1 x.v) rfl
  have no : ∀ {A : Ar}, real = A → A.cmp .geq mk (A.ar .add .i64 sp.e j.late) = true → False := fun hA h => by
    subst hA
    exact absurd (of_decide_eq_true h) (Int.not_le.2 hov)
  have cI := (c_l7Into j mk l n g hl (by omega) x sp).1 q hq n1 G1 h1 c P hP
  refine meets_of (H := [11]) (EX := EXA) ttok mixed Try.func143 rfl (by kernel_rfl) (by decide) ?_
  generalize hA : real = A
  generalize hM : MeetsB Try.prog = M
  cbv
  repeat' first
    | apply And.intro
    | exact True.intro
    | with_reducible rfl
    | exact same_of hA rfl
    | refine br_of hA (fun _ => ?_) (fun _ => ?_)
    | exact imp_of hA id
    | (refine imp_of hA ?_; subst hA; simp only [real, Bool.true_and]; exact id)
    | (refine ind_of hA ?_; decide +kernel)
    | (refine call_of hA hM _ cA ?_; cbv)
  refine loop_of hA (α := { y : Nat × (Nat × (Nat → RowT)) × (Nat × (Nat → RowT)) × WinT // y.1 ≤ n ∧ Lst zRow (restL x.key w (l.take y.1)) y.2.1.1 y.2.1.2 ∧ Lst zRow (oldL x.key w (l.take y.1)) y.2.2.1.1 y.2.2.1.2 ∧ y.2.2.2 = spanL w (oldL x.key w (l.take y.1)) }) (fun y => st_ls1 j mk n g x w y.1.1 y.1.2.1.1 y.1.2.1.2 y.1.2.2.1.1 y.1.2.2.1.2 y.1.2.2.2) (fun y => n - y.1.1) ⟨(0, (0, fun _ => zRow), (0, fun _ => zRow), w), Nat.zero_le _, ⟨rfl, fun k h => absurd h (Nat.not_lt_zero k)⟩, ⟨rfl, fun k h => absurd h (Nat.not_lt_zero k)⟩, rfl⟩ ?_ ?_
  · refine cov_of ?_ ?_ ?_
    · (subst hA; (repeat' first | exact True.intro | exact rfl | apply And.intro))
    · (subst hA; (repeat' first | exact True.intro | exact rfl | apply And.intro | (intro _ _; first | rfl | trivial) | (intro q hq; exact absurd hq (Nat.not_lt_zero q))))
    · (subst hA; (repeat' first | exact True.intro | exact rfl | apply And.intro | exact .inl rfl | exact .inr (le_of_nble rfl)))
  rintro ⟨⟨u, ⟨kr, Gr⟩, ⟨ko, Go⟩, s1⟩, hu, hr, ho, hs1⟩
  have hu : u ≤ n := hu
  have hr : Lst zRow (restL x.key w (l.take u)) kr Gr := hr
  have ho : Lst zRow (oldL x.key w (l.take u)) ko Go := ho
  have hs1 : s1 = spanL w (oldL x.key w (l.take u)) := hs1
  have hkr : kr ≤ u := by
    rw [hr.1]
    refine Nat.le_trans (restL_len _ _ _) ?_
    rw [List.length_take]; omega
  have hko : ko ≤ u := by
    rw [ho.1]
    refine Nat.le_trans (oldL_len _ _ _) ?_
    rw [List.length_take]; omega
  obtain ⟨s2, hs2⟩ : ∃ z, z = winSpan s1 (g u).win := ⟨_, rfl⟩
  have cS := fun q (e : q = u) => c_sWinSpan s1 (g q).win s2 (by rw [e]; exact hs2)
  have eq0 : A.nat (Int.ofNat u) = u := by subst hA; exact Int.toNat_natCast u
  have hso : u < n → oldL x.key w (l.take (u + 1)) = oldL x.key w (l.take u) ++ if tchR x.key w (g u) = true then [g u] else [] := fun h => by rw [lst_take hl h, oldL_snoc]
  have hsr : u < n → restL x.key w (l.take (u + 1)) = restL x.key w (l.take u) ++ if tchR x.key w (g u) = true then [] else [g u] := fun h => by rw [lst_take hl h, restL_snoc]
  cbv
  repeat' first
    | apply And.intro
    | exact True.intro
    | with_reducible rfl
    | exact same_of hA rfl
    | refine br_of hA (fun _ => ?_) (fun _ => ?_)
    | exact imp_of hA id
    | (refine imp_of hA ?_; subst hA; simp only [real, Bool.true_and]; exact id)
    | (refine ind_of hA ?_; decide +kernel)
    | (refine call_of hA hM _ (cS _ eq0) ?_; cbv)
    | (refine call_ex hA hM (c_sTouchP _ _ _ _) (fun _ _ => ?_); cbv)
    | (refine inb_lt hA ?_; first | exact lt2_of hA (by assumption) | exact lt_of hA (by assumption))
    | exact room_add2 hA (by omega) (by decide)
    | exact flat_row hA _ _
  · rename_i hlt b hb hc
    have hlt' : u < n := by first | exact lt2_of hA hlt | exact lt_of hA hlt
    have ht : tchR x.key w (g u) = true := by
      rw [← eq0]
      subst hA
      unfold tchR
      rw [decide_eq_true_eq]
      have hb : b = true ↔ ((g (real.nat (Int.ofNat u))).win.s < w.e ∧ w.s < (g (real.nat (Int.ofNat u))).win.e) := hb
      have hc : (bif ((g (real.nat (Int.ofNat u))).key == x.key) then b else false) = true := hc
      cases hk : ((g (real.nat (Int.ofNat u))).key == x.key) with
      | false => rw [hk] at hc; cases hc
      | true => rw [hk] at hc; exact ⟨by simpa using hk, hb.1 hc⟩
    refine ⟨⟨(u + 1, (kr, Gr), (ko + 1, fun q => if q < ko then Go q else g u), s2), hlt', ?_, ?_, ?_⟩, by dsimp only; omega, cov_of ?_ ?_ ?_⟩
    · dsimp only; rw [hsr hlt', if_pos ht, List.append_nil]; exact hr
    · dsimp only; rw [hso hlt', if_pos ht]; exact lst_snoc ho
    · dsimp only; rw [hso hlt', if_pos ht, spanL_app, ← hs1]; exact hs2
    · (subst hA; (repeat' first | exact True.intro | exact rfl | apply And.intro | exact congrArg (fun x => DV.v (.int .i64 x)) (up64 hlt' hnL)))
    · (subst hA; (repeat' first | exact True.intro | exact rfl | apply And.intro | (intro _ _; first | rfl | trivial) | (intro q hq; exact push_if (A := real) eRow rfl ko Go (g u) (fun _ => eRow zRow) q hq)))
    · (subst hA; (repeat' first | exact True.intro | exact rfl | apply And.intro | exact .inl rfl | exact .inr (le_of_nble rfl)))
  · rename_i hlt b hb hc
    have hlt' : u < n := by first | exact lt2_of hA hlt | exact lt_of hA hlt
    have ht : ¬ tchR x.key w (g u) = true := by
      rw [← eq0]
      subst hA
      unfold tchR
      rw [decide_eq_true_eq]
      have hb : b = true ↔ ((g (real.nat (Int.ofNat u))).win.s < w.e ∧ w.s < (g (real.nat (Int.ofNat u))).win.e) := hb
      have hc : (bif ((g (real.nat (Int.ofNat u))).key == x.key) then b else false) = false := hc
      rintro ⟨h1, h2⟩
      rw [hb.2 h2] at hc
      rw [h1] at hc
      simp at hc
    refine ⟨⟨(u + 1, (kr + 1, fun q => if q < kr then Gr q else g u), (ko, Go), s1), hlt', ?_, ?_, ?_⟩, by dsimp only; omega, cov_of ?_ ?_ ?_⟩
    · dsimp only; rw [hsr hlt', if_neg ht]; exact lst_snoc hr
    · dsimp only; rw [hso hlt', if_neg ht, List.append_nil]; exact ho
    · dsimp only; rw [hso hlt', if_neg ht, List.append_nil]; exact hs1
    · (subst hA; (repeat' first | exact True.intro | exact rfl | apply And.intro | exact congrArg (fun x => DV.v (.int .i64 x)) (up64 hlt' hnL)))
    · (subst hA; (repeat' first | exact True.intro | exact rfl | apply And.intro | (intro _ _; first | rfl | trivial) | (intro q hq; exact push_if (A := real) eRow rfl kr Gr (g u) (fun _ => eRow zRow) q hq)))
    · (subst hA; (repeat' first | exact True.intro | exact rfl | apply And.intro | exact .inl rfl | exact .inr (le_of_nble rfl)))
  rename_i hge
  have hun : n = u := by first | (have := ge2_of hA hge; omega) | (have := ge_of hA hge; omega)
  have hr : Lst zRow (restL x.key w l) kr Gr := by rw [← lst_all hl, hun]; exact hr
  have ho : Lst zRow (oldL x.key w l) ko Go := by rw [← lst_all hl, hun]; exact ho
  have hss : s1 = sp := by rw [hs1, hsp, ← hun, lst_all hl]
  subst hss
  refine stop_of hA ⟨[(7, .c (.bp 448 1 0)), (12, .c (.own 1920 0 kr 1)), (13, .c (.own 1984 0 ko 1)), (4, .c (.bp 256 1 0)), (5, .c (.bp 320 1 0)), (6, .c (.bp 384 1 0)), (8, .c (.bp 512 1 0)), (11, .c (.bp 704 1 0))], [(256, 1, .box ((eJob j).map .d)), (320, 1, .box [.d (eI mk), .d (.sl 13 n fun i => eRow (g i))]), (384, 1, .box ((eItm x).map .d)), (448, 1, .box ((eWin w).map .d)), (512, 1, .box [.d (eI 0), .d (.v nilS)]), (704, 1, .box ((eRow ⟨x.key, s1, agg1 x.v, agg1 x.v, 0, false⟩).map .d)), (1920, 1, .arr 13 kr fun i => eRow (Gr i)), (1984, 1, .arr 13 ko fun i => eRow (Go i))]⟩ (cov_of ?_ ?_ ?_) ?_
  · (subst hA; (repeat' first | exact True.intro | exact rfl | apply And.intro))
  · (subst hA; (repeat' first | exact True.intro | exact rfl | apply And.intro | (intro _ _; first | rfl | trivial)))
  · (subst hA; (repeat' first | exact True.intro | exact rfl | apply And.intro | exact .inl rfl | exact .inr (le_of_nble rfl)))
  cbv
  obtain ⟨hk1, hg1, hg2⟩ := (one_iff ho).1 hone
  subst hk1
  repeat' first
    | exact (no hA (by assumption)).elim
    | (exfalso; rename_i h; subst hA; simp [real, hg1, hg2] at h; done)
    | apply And.intro
    | exact True.intro
    | with_reducible rfl
    | exact same_of hA rfl
    | refine br_of hA (fun _ => ?_) (fun _ => ?_)
    | exact imp_of hA id
    | (refine imp_of hA ?_; subst hA; simp only [real, Bool.true_and]; exact id)
    | (refine ind_of hA ?_; decide +kernel)
    | (refine inb_of hA fun _ => ?_; exact ⟨Int.le_refl 0, Int.one_pos⟩)
    | (refine call_of hA hM _ cI ?_; cbv)
    | exact flat_row hA _ _
theorem m_lsN (j : JobT) (mk : Int) (l : List RowT) (n : Nat) (g : Nat → RowT) (hl : Lst zRow l n g) (hn : n ≤ 500000) (x : ItmT) (w : WinT) (sp : WinT) (hsp : sp = spanL w (oldL x.key w l)) (hov : mk < w64 (sp.e + j.late)) (hone : oneB sp (oldL x.key w l) = false) (a : AggT) (ha : a = ((oldL x.key w l).map (·.all)).foldl aggB (agg1 x.v)) (t : RowT × List PaneT) (ht : t = tellS j mk ⟨x.key, sp, a, a, 0, false⟩) (n1 : Nat) (G1 : Nat → RowT) (h1 : Lst zRow (rPut t.1 (restL x.key w l)) n1 G1) (c : Nat) (P : Nat → PaneT) (hP : Lst zPan (goneL (oldL x.key w l) ++ t.2) c P) : Meets Try.prog 143 [xd (eJob j), .agg [.d (eI mk), .d (.sl 13 n fun i => eRow (g i))], xd (eItm x), xd (eWin w)]
    ⟨.tup [.agg [.d (eI mk), .d (.sl 13 n1 fun i => eRow (G1 i))], .c (.d (.sl 9 c fun i => ePane (P i))), .c (.d (eB true))], [none, none, none, none]⟩ := by
  have hnL : n ≤ maxLen := Nat.le_trans (show n ≤ 1080000 by omega) (by decide)
  have cA := c_sAggAdd zAgg x.v (agg1 x.v) rfl
  have no : ∀ {A : Ar}, real = A → A.cmp .geq mk (A.ar .add .i64 sp.e j.late) = true → False := fun hA h => by
    subst hA
    exact absurd (of_decide_eq_true h) (Int.not_le.2 hov)
  refine meets_frz (r := .tup [.agg [.d (eI mk), .own 13 n1 fun i => eRow (G1 i)], .c (.own 9 c fun i => ePane (P i)), .c (.d (eB true))]) ?_ rfl
  obtain ⟨cg, Pg, hPg⟩ := lst_ex zPan (goneL (oldL x.key w l))
  obtain ⟨ct, Pt, hPt⟩ := lst_ex zPan t.2
  have hct : ct ≤ 1 := by
    rw [hPt.1, ht]; unfold tellS; split <;> simp
  have hcc : c = cg + ct := by rw [hP.1, List.length_append, hPg.1, hPt.1]
  subst hcc
  refine meets_up (res := .tup [.agg [.d (eI mk), .own 13 n1 fun i => eRow (G1 i)], .c (.own 9 (real.add cg ct) (real.app cg (fun i => ePane (Pg i)) (real.sub 0 fun i => ePane (Pt i)))), .c (.d (eB true))]) ⟨⟨UpV.refl _, UpV.refl _, trivial⟩, UpV.row (fun i hi => (app_if ePane hPg hPt i hi).trans (congrArg ePane (hP.2 i hi).symm)), UpV.refl _, trivial⟩ ?_
  refine meets_of (H := [11, 22, 25]) (EX := EXA) ttok mixed Try.func143 rfl (by kernel_rfl) (by decide) ?_
  generalize hA : real = A
  generalize hM : MeetsB Try.prog = M
  cbv
  repeat' first
    | apply And.intro
    | exact True.intro
    | with_reducible rfl
    | exact same_of hA rfl
    | refine br_of hA (fun _ => ?_) (fun _ => ?_)
    | exact imp_of hA id
    | (refine imp_of hA ?_; subst hA; simp only [real, Bool.true_and]; exact id)
    | (refine ind_of hA ?_; decide +kernel)
    | (refine call_of hA hM _ cA ?_; cbv)
  refine loop_of hA (α := { y : Nat × (Nat × (Nat → RowT)) × (Nat × (Nat → RowT)) × WinT // y.1 ≤ n ∧ Lst zRow (restL x.key w (l.take y.1)) y.2.1.1 y.2.1.2 ∧ Lst zRow (oldL x.key w (l.take y.1)) y.2.2.1.1 y.2.2.1.2 ∧ y.2.2.2 = spanL w (oldL x.key w (l.take y.1)) }) (fun y => st_ls1 j mk n g x w y.1.1 y.1.2.1.1 y.1.2.1.2 y.1.2.2.1.1 y.1.2.2.1.2 y.1.2.2.2) (fun y => n - y.1.1) ⟨(0, (0, fun _ => zRow), (0, fun _ => zRow), w), Nat.zero_le _, ⟨rfl, fun k h => absurd h (Nat.not_lt_zero k)⟩, ⟨rfl, fun k h => absurd h (Nat.not_lt_zero k)⟩, rfl⟩ ?_ ?_
  · refine cov_of ?_ ?_ ?_
    · (subst hA; (repeat' first | exact True.intro | exact rfl | apply And.intro))
    · (subst hA; (repeat' first | exact True.intro | exact rfl | apply And.intro | (intro _ _; first | rfl | trivial) | (intro q hq; exact absurd hq (Nat.not_lt_zero q))))
    · (subst hA; (repeat' first | exact True.intro | exact rfl | apply And.intro | exact .inl rfl | exact .inr (le_of_nble rfl)))
  rintro ⟨⟨u, ⟨kr, Gr⟩, ⟨ko, Go⟩, s1⟩, hu, hr, ho, hs1⟩
  have hu : u ≤ n := hu
  have hr : Lst zRow (restL x.key w (l.take u)) kr Gr := hr
  have ho : Lst zRow (oldL x.key w (l.take u)) ko Go := ho
  have hs1 : s1 = spanL w (oldL x.key w (l.take u)) := hs1
  have hkr : kr ≤ u := by
    rw [hr.1]
    refine Nat.le_trans (restL_len _ _ _) ?_
    rw [List.length_take]; omega
  have hko : ko ≤ u := by
    rw [ho.1]
    refine Nat.le_trans (oldL_len _ _ _) ?_
    rw [List.length_take]; omega
  obtain ⟨s2, hs2⟩ : ∃ z, z = winSpan s1 (g u).win := ⟨_, rfl⟩
  have cS := fun q (e : q = u) => c_sWinSpan s1 (g q).win s2 (by rw [e]; exact hs2)
  have eq0 : A.nat (Int.ofNat u) = u := by subst hA; exact Int.toNat_natCast u
  have hso : u < n → oldL x.key w (l.take (u + 1)) = oldL x.key w (l.take u) ++ if tchR x.key w (g u) = true then [g u] else [] := fun h => by rw [lst_take hl h, oldL_snoc]
  have hsr : u < n → restL x.key w (l.take (u + 1)) = restL x.key w (l.take u) ++ if tchR x.key w (g u) = true then [] else [g u] := fun h => by rw [lst_take hl h, restL_snoc]
  cbv
  repeat' first
    | apply And.intro
    | exact True.intro
    | with_reducible rfl
    | exact same_of hA rfl
    | refine br_of hA (fun _ => ?_) (fun _ => ?_)
    | exact imp_of hA id
    | (refine imp_of hA ?_; subst hA; simp only [real, Bool.true_and]; exact id)
    | (refine ind_of hA ?_; decide +kernel)
    | (refine call_of hA hM _ (cS _ eq0) ?_; cbv)
    | (refine call_ex hA hM (c_sTouchP _ _ _ _) (fun _ _ => ?_); cbv)
    | (refine inb_lt hA ?_; first | exact lt2_of hA (by assumption) | exact lt_of hA (by assumption))
    | exact room_add2 hA (by omega) (by decide)
    | exact flat_row hA _ _
  · rename_i hlt b hb hc
    have hlt' : u < n := by first | exact lt2_of hA hlt | exact lt_of hA hlt
    have ht : tchR x.key w (g u) = true := by
      rw [← eq0]
      subst hA
      unfold tchR
      rw [decide_eq_true_eq]
      have hb : b = true ↔ ((g (real.nat (Int.ofNat u))).win.s < w.e ∧ w.s < (g (real.nat (Int.ofNat u))).win.e) := hb
      have hc : (bif ((g (real.nat (Int.ofNat u))).key == x.key) then b else false) = true := hc
      cases hk : ((g (real.nat (Int.ofNat u))).key == x.key) with
      | false => rw [hk] at hc; cases hc
      | true => rw [hk] at hc; exact ⟨by simpa using hk, hb.1 hc⟩
    refine ⟨⟨(u + 1, (kr, Gr), (ko + 1, fun q => if q < ko then Go q else g u), s2), hlt', ?_, ?_, ?_⟩, by dsimp only; omega, cov_of ?_ ?_ ?_⟩
    · dsimp only; rw [hsr hlt', if_pos ht, List.append_nil]; exact hr
    · dsimp only; rw [hso hlt', if_pos ht]; exact lst_snoc ho
    · dsimp only; rw [hso hlt', if_pos ht, spanL_app, ← hs1]; exact hs2
    · (subst hA; (repeat' first | exact True.intro | exact rfl | apply And.intro | exact congrArg (fun x => DV.v (.int .i64 x)) (up64 hlt' hnL)))
    · (subst hA; (repeat' first | exact True.intro | exact rfl | apply And.intro | (intro _ _; first | rfl | trivial) | (intro q hq; exact push_if (A := real) eRow rfl ko Go (g u) (fun _ => eRow zRow) q hq)))
    · (subst hA; (repeat' first | exact True.intro | exact rfl | apply And.intro | exact .inl rfl | exact .inr (le_of_nble rfl)))
  · rename_i hlt b hb hc
    have hlt' : u < n := by first | exact lt2_of hA hlt | exact lt_of hA hlt
    have ht : ¬ tchR x.key w (g u) = true := by
      rw [← eq0]
      subst hA
      unfold tchR
      rw [decide_eq_true_eq]
      have hb : b = true ↔ ((g (real.nat (Int.ofNat u))).win.s < w.e ∧ w.s < (g (real.nat (Int.ofNat u))).win.e) := hb
      have hc : (bif ((g (real.nat (Int.ofNat u))).key == x.key) then b else false) = false := hc
      rintro ⟨h1, h2⟩
      rw [hb.2 h2] at hc
      rw [h1] at hc
      simp at hc
    refine ⟨⟨(u + 1, (kr + 1, fun q => if q < kr then Gr q else g u), (ko, Go), s1), hlt', ?_, ?_, ?_⟩, by dsimp only; omega, cov_of ?_ ?_ ?_⟩
    · dsimp only; rw [hsr hlt', if_neg ht]; exact lst_snoc hr
    · dsimp only; rw [hso hlt', if_neg ht, List.append_nil]; exact ho
    · dsimp only; rw [hso hlt', if_neg ht, List.append_nil]; exact hs1
    · (subst hA; (repeat' first | exact True.intro | exact rfl | apply And.intro | exact congrArg (fun x => DV.v (.int .i64 x)) (up64 hlt' hnL)))
    · (subst hA; (repeat' first | exact True.intro | exact rfl | apply And.intro | (intro _ _; first | rfl | trivial) | (intro q hq; exact push_if (A := real) eRow rfl kr Gr (g u) (fun _ => eRow zRow) q hq)))
    · (subst hA; (repeat' first | exact True.intro | exact rfl | apply And.intro | exact .inl rfl | exact .inr (le_of_nble rfl)))
  rename_i hge
  have hun : n = u := by first | (have := ge2_of hA hge; omega) | (have := ge_of hA hge; omega)
  have hr : Lst zRow (restL x.key w l) kr Gr := by rw [← lst_all hl, hun]; exact hr
  have ho : Lst zRow (oldL x.key w l) ko Go := by rw [← lst_all hl, hun]; exact ho
  have hss : s1 = sp := by rw [hs1, hsp, ← hun, lst_all hl]
  subst hss
  refine stop_of hA ⟨[(7, .c (.bp 448 1 0)), (12, .c (.own 1920 0 kr 1)), (13, .c (.own 1984 0 ko 1)), (4, .c (.bp 256 1 0)), (5, .c (.bp 320 1 0)), (6, .c (.bp 384 1 0)), (8, .c (.bp 512 1 0)), (11, .c (.bp 704 1 0))], [(256, 1, .box ((eJob j).map .d)), (320, 1, .box [.d (eI mk), .d (.sl 13 n fun i => eRow (g i))]), (384, 1, .box ((eItm x).map .d)), (448, 1, .box ((eWin w).map .d)), (512, 1, .box [.d (eI 0), .d (.v nilS)]), (704, 1, .box ((eRow ⟨x.key, s1, agg1 x.v, agg1 x.v, 0, false⟩).map .d)), (1920, 1, .arr 13 kr fun i => eRow (Gr i)), (1984, 1, .arr 13 ko fun i => eRow (Go i))]⟩ (cov_of ?_ ?_ ?_) ?_
  · (subst hA; (repeat' first | exact True.intro | exact rfl | apply And.intro))
  · (subst hA; (repeat' first | exact True.intro | exact rfl | apply And.intro | (intro _ _; first | rfl | trivial)))
  · (subst hA; (repeat' first | exact True.intro | exact rfl | apply And.intro | exact .inl rfl | exact .inr (le_of_nble rfl)))
  cbv
  have hno : ¬ (ko = 1 ∧ (Go 0).win.s = s1.s ∧ (Go 0).win.e = s1.e) := fun h => by rw [(one_iff ho).2 h] at hone; cases hone
  obtain ⟨old, hold⟩ : ∃ old, old = oldL x.key w l := ⟨_, rfl⟩
  rw [← hold] at ho hP ha
  repeat' first
    | exact (no hA (by assumption)).elim
    | (exfalso; rename_i h; subst hA; simp [real] at h; exact hno ⟨by omega, h.2.1, h.2.2⟩)
    | apply And.intro
    | exact True.intro
    | with_reducible rfl
    | exact same_of hA rfl
    | refine br_of hA (fun _ => ?_) (fun _ => ?_)
    | exact imp_of hA id
    | (refine imp_of hA ?_; subst hA; simp only [real, Bool.true_and]; exact id)
    | (refine ind_of hA ?_; decide +kernel)
    | (refine inb_of hA fun h => ?_; subst hA; have h1 : ((ko : Nat) : Int) = 1 := of_decide_eq_true h; exact ⟨Int.le_refl 0, by omega⟩)
  have hoL : ko ≤ maxLen := Nat.le_trans (show ko ≤ 1080000 by omega) (by decide)
  refine loop_of hA (α := { y : Nat × AggT × Nat × (Nat → PaneT) // y.1 ≤ ko ∧ y.2.1 = ((old.take y.1).map (·.all)).foldl aggB (agg1 x.v) ∧ Lst zPan (goneL (old.take y.1)) y.2.2.1 y.2.2.2 }) (fun y => st_ls2 j mk n g x w kr Gr ko Go s1 y.1.1 y.1.2.1 y.1.2.2.1 y.1.2.2.2) (fun y => ko - y.1.1) ⟨(0, agg1 x.v, 0, fun _ => zPan), Nat.zero_le _, rfl, rfl, fun k h => absurd h (Nat.not_lt_zero k)⟩ ?_ ?_
  · refine cov_of ?_ ?_ ?_
    · (subst hA; (repeat' first | exact True.intro | exact rfl | apply And.intro))
    · (subst hA; (repeat' first | exact True.intro | exact rfl | apply And.intro | (intro _ _; first | rfl | trivial) | (intro q hq; exact absurd hq (Nat.not_lt_zero q))))
    · (subst hA; (repeat' first | exact True.intro | exact rfl | apply And.intro | exact .inl rfl | exact .inr (le_of_nble rfl)))
  rintro ⟨⟨u2, a1, c1, P1⟩, hu2, ha1, hP1⟩
  have hu2 : u2 ≤ ko := hu2
  have ha1 : a1 = ((old.take u2).map (·.all)).foldl aggB (agg1 x.v) := ha1
  have hP1 : Lst zPan (goneL (old.take u2)) c1 P1 := hP1
  have hc1 : c1 ≤ u2 := by
    rw [hP1.1]
    refine Nat.le_trans (gone_len _) ?_
    rw [List.length_take]; omega
  obtain ⟨a2, ha2⟩ : ∃ z, z = aggB a1 (Go u2).all := ⟨_, rfl⟩
  have eq2 : A.add 0 (A.nat (Int.ofNat u2)) = u2 := by subst hA; exact Nat.zero_add u2
  have cB := fun q (e : q = u2) => c_sAggBoth a1 (Go q).all a2 (by rw [e]; exact ha2)
  have hsa : u2 < ko → a2 = ((old.take (u2 + 1)).map (·.all)).foldl aggB (agg1 x.v) := fun h => by rw [lst_take ho h, List.map_append, List.foldl_append, ← ha1]; exact ha2
  cbv
  repeat' first
    | apply And.intro
    | exact True.intro
    | with_reducible rfl
    | exact same_of hA rfl
    | refine br_of hA (fun _ => ?_) (fun _ => ?_)
    | exact imp_of hA id
    | (refine imp_of hA ?_; subst hA; simp only [real, Bool.true_and]; exact id)
    | (refine ind_of hA ?_; decide +kernel)
    | (refine call_of hA hM _ (cB _ eq2) ?_; cbv)
    | (refine inb_lt hA ?_; first | exact lt2_of hA (by assumption) | exact lt_of hA (by assumption))
    | exact room_add2 hA (by omega) (by decide)
    | exact flat_row hA _ _
  · rename_i hlt hc3
    have hlt' : u2 < ko := by first | exact lt2_of hA hlt | exact lt_of hA hlt
    have hto : 0 < (Go u2).told := by
      rw [← eq2]
      subst hA
      exact of_decide_eq_true hc3
    have htk : goneL (old.take (u2 + 1)) = goneL (old.take u2) ++ [goneP (Go u2)] := by
      rw [lst_take ho hlt', goneL_snoc, if_pos hto]
    refine ⟨⟨(u2 + 1, a2, c1 + 1, fun q => if q < c1 then P1 q else goneP (Go u2)), hlt', hsa hlt', ?_⟩, by dsimp only; omega, cov_of ?_ ?_ ?_⟩
    · dsimp only; rw [htk]
      exact lst_snoc hP1
    · (subst hA; (repeat' first | exact True.intro | exact rfl | apply And.intro | exact congrArg (fun x => DV.v (.int .i64 x)) (up64 hlt' hoL)))
    · (subst hA; (repeat' first | exact True.intro | exact rfl | apply And.intro | (intro _ _; first | rfl | trivial) | (intro q hq; refine Eq.trans (push_if (A := real) ePane rfl c1 P1 (goneP (Go (0 + u2))) (fun _ => ePane zPan) q hq) (congrArg ePane (by rw [Nat.zero_add])))))
    · (subst hA; (repeat' first | exact True.intro | exact rfl | apply And.intro | exact .inl rfl | exact .inr (le_of_nble rfl)))
  · rename_i hlt hc3
    have hlt' : u2 < ko := by first | exact lt2_of hA hlt | exact lt_of hA hlt
    have hto : ¬ 0 < (Go u2).told := by
      rw [← eq2]
      subst hA
      exact of_decide_eq_false hc3
    have htk : goneL (old.take (u2 + 1)) = goneL (old.take u2) ++ [] := by
      rw [lst_take ho hlt', goneL_snoc, if_neg hto]
    refine ⟨⟨(u2 + 1, a2, c1, P1), hlt', hsa hlt', ?_⟩, by dsimp only; omega, cov_of ?_ ?_ ?_⟩
    · dsimp only; rw [htk]
      rw [List.append_nil]; exact hP1
    · (subst hA; (repeat' first | exact True.intro | exact rfl | apply And.intro | exact congrArg (fun x => DV.v (.int .i64 x)) (up64 hlt' hoL)))
    · (subst hA; (repeat' first | exact True.intro | exact rfl | apply And.intro | (intro _ _; first | rfl | trivial) | (intro q hq; refine Eq.trans (push_if (A := real) ePane rfl c1 P1 (goneP (Go (0 + u2))) (fun _ => ePane zPan) q hq) (congrArg ePane (by rw [Nat.zero_add])))))
    · (subst hA; (repeat' first | exact True.intro | exact rfl | apply And.intro | exact .inl rfl | exact .inr (le_of_nble rfl)))
  rename_i hge
  have hk2 : ko = u2 := by first | (have := ge2_of hA hge; omega) | (have := ge_of hA hge; omega)
  have ea : a1 = a := by rw [ha1, ha, ← hk2, lst_all ho]
  have hP9 : Lst zPan (goneL old) c1 P1 := by rw [← lst_all ho, hk2]; exact hP1
  subst ea
  rw [← hold] at hPg
  have hcg : c1 = cg := hP9.1.trans hPg.1.symm
  subst hcg
  have cT := c_l7Tell j mk (restL x.key w l) kr Gr hr (by omega) ⟨x.key, s1, a1, a1, 0, false⟩ t ht n1 G1 h1 ct Pt hPt
  refine stop_of hA ⟨[(12, .c (.own 1920 0 kr 1)), (15, .c (.own 7424 0 c1 1)), (4, .c (.bp 256 1 0)), (5, .c (.bp 320 1 0)), (6, .c (.bp 384 1 0)), (8, .c (.bp 512 1 0)), (11, .c (.bp 704 1 0))], [(256, 1, .box ((eJob j).map .d)), (320, 1, .box [.d (eI mk), .d (.sl 13 n fun i => eRow (g i))]), (384, 1, .box ((eItm x).map .d)), (448, 1, .box ((eWin w).map .d)), (512, 1, .box [.d (eI 0), .d (.v nilS)]), (704, 1, .box ((eRow ⟨x.key, s1, a1, agg1 x.v, 0, false⟩).map .d)), (1920, 1, .arr 13 kr fun i => eRow (Gr i)), (7424, 1, .arr 9 c1 fun i => ePane (Pg i))]⟩ (cov_of ?_ ?_ ?_) ?_
  · (subst hA; (repeat' first | exact True.intro | exact rfl | apply And.intro))
  · (subst hA; (repeat' first | exact True.intro | exact rfl | apply And.intro | (intro _ _; first | rfl | trivial) | (intro q hq; exact congrArg ePane ((hP9.2 q hq).trans (hPg.2 q hq).symm))))
  · (subst hA; (repeat' first | exact True.intro | exact rfl | apply And.intro | exact .inl rfl | exact .inr (le_of_nble rfl)))
  cbv
  repeat' first
    | apply And.intro
    | exact True.intro
    | with_reducible rfl
    | exact same_of hA rfl
    | refine br_of hA (fun _ => ?_) (fun _ => ?_)
    | exact imp_of hA id
    | (refine imp_of hA ?_; subst hA; simp only [real, Bool.true_and]; exact id)
    | (refine ind_of hA ?_; decide +kernel)
    | (refine call_of2 hA hM _ cT (by subst hA; first | rfl | (simp only [sub0r]; try rfl)) ?_; cbv)
    | exact flat_row hA _ _
    | exact flat_pane hA _ _
  refine stop_of hA ⟨[(15, .c (.own 7424 0 c1 1)), (17, .c (.own 10626 0 ct 1)), (5, .c (.bp 320 1 0)), (8, .c (.bp 512 1 0))], [(320, 1, .box [.d (eI mk), .own 10625 0 n1 1]), (512, 1, .box [.d (eI 0), .d (.v nilS)]), (10625, 1, .arr 13 n1 fun i => eRow (G1 i)), (10626, 1, .arr 9 ct fun i => ePane (Pt i)), (7424, 1, .arr 9 c1 fun i => ePane (Pg i))]⟩ (cov_of ?_ ?_ ?_) ?_
  · (subst hA; (repeat' first | exact True.intro | exact rfl | apply And.intro))
  · (subst hA; (repeat' first | exact True.intro | exact rfl | apply And.intro | (intro _ _; first | rfl | trivial)))
  · (subst hA; (repeat' first | exact True.intro | exact rfl | apply And.intro | exact .inl rfl | exact .inr (le_of_nble rfl)))
  cbv
  repeat' first
    | apply And.intro
    | exact True.intro
    | with_reducible rfl
    | exact same_of hA rfl
    | refine br_of hA (fun _ => ?_) (fun _ => ?_)
    | exact imp_of hA id
    | (refine imp_of hA ?_; subst hA; simp only [real, Bool.true_and]; exact id)
    | (refine ind_of hA ?_; decide +kernel)
    | exact room_add2 hA (by omega) (by decide)
  all_goals (subst hA; rfl)
end Go.Rk
/- A record, as the reference takes it. -/
namespace Go.Rk
set_option linter.unusedSimpArgs false
set_option linter.unusedVariables false
open Go.Proofs
set_option maxRecDepth 100000
set_option maxHeartbeats 1000000
theorem c_l7Session (j : JobT) (mk : Int) (l : List RowT) (n : Nat) (g : Nat → RowT) (hl : Lst zRow l n g) (hn : n ≤ 500000) (x : ItmT) (w : WinT) :
    (∀ q, sessL j mk x.key x.v w l = some q → ∀ n1 G1, Lst zRow q.1 n1 G1 → ∀ c P, Lst zPan q.2 c P → Meets Try.prog 143 [xd (eJob j), .agg [.d (eI mk), .d (.sl 13 n fun i => eRow (g i))], xd (eItm x), xd (eWin w)] ⟨.tup [.agg [.d (eI mk), .d (.sl 13 n1 fun i => eRow (G1 i))], .c (.d (.sl 9 c fun i => ePane (P i))), .c (.d (eB true))], [none, none, none, none]⟩) ∧
    (sessL j mk x.key x.v w l = none → ∀ n1 G1, n1 = n → G1 = g → ∀ c P, c = 0 → P = (fun _ => zPan) → Meets Try.prog 143 [xd (eJob j), .agg [.d (eI mk), .d (.sl 13 n fun i => eRow (g i))], xd (eItm x), xd (eWin w)] ⟨.tup [.agg [.d (eI mk), .d (.sl 13 n1 fun i => eRow (G1 i))], .c (.d (.sl 9 c fun i => ePane (P i))), .c (.d (eB false))], [none, none, none, none]⟩) := by
  obtain ⟨sp, hsp⟩ : ∃ sp, sp = spanL w (oldL x.key w l) := ⟨_, rfl⟩
  unfold sessL
  rw [← hsp]
  refine ⟨fun q hq n1 G1 h1 c P hP => ?_, fun hq n1 G1 e1 e2 c P e3 e4 => ?_⟩
  · split at hq
    · cases hq
    · rename_i hov
      have hov : mk < w64 (sp.e + j.late) := by omega
      split at hq
      · rename_i hone
        exact m_lsO j mk l n g hl hn x w sp hsp hov hone q hq n1 G1 h1 c P hP
      · rename_i hone
        have hone : oneB sp (oldL x.key w l) = false := by
          cases h : oneB sp (oldL x.key w l) with
          | true => exact absurd h hone
          | false => rfl
        cases hq
        exact m_lsN j mk l n g hl hn x w sp hsp hov hone _ rfl _ rfl n1 G1 h1 c P hP
  · split at hq
    · rename_i hov
      subst e1 e2 e3
      exact m_lsG j mk l n1 G1 hl hn x w sp hsp hov P
    · rename_i hov
      have hov : mk < w64 (sp.e + j.late) := by omega
      split at hq
      · rename_i hone
        unfold intoL at hq
        rw [if_neg (by omega)] at hq; cases hq
      · cases hq
def st_lt (j : JobT) (mk : Int) (x : ItmT) (nw : Nat) (g : Nat → WinT) (u n : Nat) (R : Nat → RowT) (c : Nat) (P : Nat → PaneT) (d : Nat) (Q : Nat → LatT) : St := ⟨[(12, .c (.d (eI u))), (11, .c (.own 1280 0 nw 1)), (9, .c (.own 960 0 c 1)), (10, .c (.own 1024 0 d 1)), (3, .c (.bp 192 1 0)), (4, .c (.bp 256 1 0)), (5, .c (.bp 320 1 0)), (6, .c (.bp 384 1 0))], [(192, 1, .box ((eJob j).map .d)), (256, 1, .box [.d (eI mk), .d (.sl 13 n fun i => eRow (R i))]), (320, 1, .box ((eItm x).map .d)), (384, 1, .box [.d (eI 0), .d (.v nilS)]), (960, 1, .arr 9 c fun i => ePane (P i)), (1024, 1, .arr 7 d fun i => eLat (Q i)), (1280, 1, .arr 2 nw fun i => eWin (g i))]⟩
theorem c_l7Take (j : JobT) (mk : Int) (L0 : List RowT) (n0 : Nat) (g0 : Nat → RowT) (hl0 : Lst zRow L0 n0 g0) (hn0 : n0 ≤ 1000) (x : ItmT) (hjob : JobOkP j) (hx : 0 ≤ x.t ∧ x.t ≤ 60) (k : Nat) (G : Nat → RowT) (hG : Lst zRow (takeL j mk x (winsL j x.t) L0).1 k G) (cz : Nat) (Pz : Nat → PaneT) (hPz : Lst zPan (takeL j mk x (winsL j x.t) L0).2.1 cz Pz) (dz : Nat) (Qz : Nat → LatT) (hQz : Lst zLat (takeL j mk x (winsL j x.t) L0).2.2 dz Qz) :
    Meets Try.prog 107 [xd (eJob j), .agg [.d (eI mk), .d (.sl 13 n0 fun i => eRow (g0 i))], xd (eItm x)] ⟨.tup [.agg [.d (eI mk), .d (.sl 13 k fun i => eRow (G i))], .c (.d (.sl 9 cz fun i => ePane (Pz i))), .c (.d (.sl 7 dz fun i => eLat (Qz i)))], [none, none, none]⟩ := by
  obtain ⟨ws, hws⟩ : ∃ ws, ws = winsL j x.t := ⟨_, rfl⟩
  rw [← hws] at hG hPz hQz
  obtain ⟨nw, g, hg⟩ := lst_ex zWin ws
  have hnw : nw ≤ 100 := by rw [hg.1, hws]; exact winsL_len _ _
  have hnw2 : nw ≤ maxLen := Nat.le_trans hnw (by decide)
  have cW := c_l4Of j x.t hjob hx nw g (by rw [← hws]; exact lst_tells eWin hg)
  refine meets_frz (r := .tup [.agg [.d (eI mk), .d (.sl 13 k fun i => eRow (G i))], .c (.own 9 cz fun i => ePane (Pz i)), .c (.own 7 dz fun i => eLat (Qz i))]) ?_ rfl
  refine meets_of (H := [15]) (EX := EXA) ttok mixed Try.func107 rfl (by kernel_rfl) (by decide) ?_
  generalize hA : real = A
  generalize hM : MeetsB Try.prog = M
  cbv
  repeat' first
    | apply And.intro
    | exact True.intro
    | with_reducible rfl
    | exact same_of hA rfl
    | refine br_of hA (fun _ => ?_) (fun _ => ?_)
    | exact imp_of hA id
    | (refine imp_of hA ?_; subst hA; simp only [real, Bool.true_and]; exact id)
    | (refine ind_of hA ?_; decide +kernel)
    | (refine call_of hA hM _ cW ?_; cbv)
  refine loop_of hA (α := { y : Nat × (Nat × (Nat → RowT)) × (Nat × (Nat → PaneT)) × (Nat × (Nat → LatT)) // y.1 ≤ nw ∧ Lst zRow (takeL j mk x (ws.take y.1) L0).1 y.2.1.1 y.2.1.2 ∧ Lst zPan (takeL j mk x (ws.take y.1) L0).2.1 y.2.2.1.1 y.2.2.1.2 ∧ Lst zLat (takeL j mk x (ws.take y.1) L0).2.2 y.2.2.2.1 y.2.2.2.2 }) (fun y => st_lt j mk x nw g y.1.1 y.1.2.1.1 y.1.2.1.2 y.1.2.2.1.1 y.1.2.2.1.2 y.1.2.2.2.1 y.1.2.2.2.2) (fun y => nw - y.1.1) ⟨(0, (n0, g0), (0, fun _ => zPan), (0, fun _ => zLat)), Nat.zero_le _, hl0, ⟨rfl, fun k h => absurd h (Nat.not_lt_zero k)⟩, ⟨rfl, fun k h => absurd h (Nat.not_lt_zero k)⟩⟩ ?_ ?_
  · refine cov_of ?_ ?_ ?_
    · (subst hA; (repeat' first | exact True.intro | exact rfl | apply And.intro))
    · (subst hA; (repeat' first | exact True.intro | exact rfl | apply And.intro | (intro _ _; first | rfl | trivial) | (intro q hq; exact absurd hq (Nat.not_lt_zero q))))
    · (subst hA; (repeat' first | exact True.intro | exact rfl | apply And.intro | exact .inl rfl | exact .inr (le_of_nble rfl)))
  rintro ⟨⟨u, ⟨n, R⟩, ⟨c, P⟩, ⟨d, Q⟩⟩, hu, hR, hP, hQ⟩
  have hu : u ≤ nw := hu
  obtain ⟨T, hT⟩ : ∃ T, T = takeL j mk x (ws.take u) L0 := ⟨_, rfl⟩
  have hR : Lst zRow T.1 n R := by rw [hT]; exact hR
  have hP : Lst zPan T.2.1 c P := by rw [hT]; exact hP
  have hQ : Lst zLat T.2.2 d Q := by rw [hT]; exact hQ
  have hlen := takeL_len (j := j) (m := mk) (x := x) (l := L0) (ws.take u)
  have hul : (ws.take u).length = u := by rw [List.length_take, ← hg.1]; omega
  rw [← hT, hul, ← hl0.1, ← hR.1, ← hP.1, ← hQ.1] at hlen
  obtain ⟨hn1, hc1, hd1⟩ := hlen
  have hc2 : c ≤ 200000 := by
    have h1 : u * (n0 + u + 1) ≤ 100 * 1200 := Nat.mul_le_mul (by omega) (by omega)
    omega
  have hnext : ∀ (hlt : u < nw) (T' : List RowT × List PaneT × List LatT), takeS j mk x T (g u) = T' → takeL j mk x (ws.take (u + 1)) L0 = T' := fun hlt T' h => by rw [lst_take hg hlt, takeL_snoc, ← hT]; exact h
  have eq0 : A.add 0 (A.nat (Int.ofNat u)) = u := by subst hA; exact Nat.zero_add u
  have cI := c_l7Into j mk T.1 n R hR (by omega) x (g u)
  have cS := c_l7Session j mk T.1 n R hR (by omega) x (g u)
  cbv
  repeat' first
    | apply And.intro
    | exact True.intro
    | with_reducible rfl
    | exact same_of hA rfl
    | refine br_of hA (fun _ => ?_) (fun _ => ?_)
    | exact imp_of hA id
    | (refine imp_of hA ?_; subst hA; simp only [real, Bool.true_and]; exact id)
    | (refine ind_of hA ?_; decide +kernel)
    | (refine inb_lt hA ?_; first | exact lt2_of hA (by assumption) | exact lt_of hA (by assumption))
    | exact room_add2 hA (by omega) (by decide)
  · rename_i hlt hkd
    have hlt' : u < nw := by first | exact lt2_of hA hlt | exact lt_of hA hlt
    have hkd : j.kind = 3 := eq_of hA hkd
    have hstep : stepT j mk x (g u) T.1 = sessL j mk x.key x.v (g u) T.1 := by unfold stepT; rw [if_pos hkd]
    cases hq : sessL j mk x.key x.v (g u) T.1 with
    | none =>
      have hs := takeS_none (hstep.trans hq)
      have cN := fun q (e : q = u) => meets_at (P := Try.prog) (f := 143) (F := fun q => [xd (eJob j), .agg [.d (eI mk), .d (.sl 13 n fun i => eRow (R i))], xd (eItm x), xd (eWin (g q))]) e (cS.2 hq n R rfl rfl 0 _ rfl rfl)
      refine call_of hA hM _ (cN _ eq0) ?_
      cbv
      repeat' first
        | (exfalso; rename_i h; subst hA; simp [real] at h; done)
        | apply And.intro
        | exact True.intro
        | with_reducible rfl
        | exact same_of hA rfl
        | refine br_of hA (fun _ => ?_) (fun _ => ?_)
        | exact imp_of hA id
        | (refine imp_of hA ?_; subst hA; simp only [real, Bool.true_and]; exact id)
        | (refine ind_of hA ?_; decide +kernel)
        | (refine inb_lt hA ?_; first | exact lt2_of hA (by assumption) | exact lt_of hA (by assumption))
        | (refine inb_of hA fun _ => ?_; exact ⟨Int.natCast_nonneg _, Int.ofNat_lt.2 hlt'⟩)
        | exact room_add2 hA (by omega) (by decide)
      refine ⟨⟨(u + 1, (n, R), (c, P), (d + 1, fun z => if z < d then Q z else ⟨x, g u⟩)), hlt', ?_, ?_, ?_⟩, by dsimp only; omega, cov_of ?_ ?_ ?_⟩
      · dsimp only; rw [hnext hlt' _ hs]; exact hR
      · dsimp only; rw [hnext hlt' _ hs]; exact hP
      · dsimp only; rw [hnext hlt' _ hs]; exact lst_snoc hQ
      · (subst hA; (repeat' first | exact True.intro | exact rfl | apply And.intro | exact congrArg (fun x => DV.v (.int .i64 x)) (up64 hlt' hnw2)))
      · (subst hA; (repeat' first | exact True.intro | exact rfl | apply And.intro | (intro _ _; first | rfl | trivial) | (intro q hq; refine Eq.trans (push_if (A := real) eLat rfl d Q ⟨x, g (0 + u)⟩ (fun _ => [eI 0, eI 0, eI 0, eI 0, eI 0, eI 0, eI 0]) q hq) (congrArg eLat (by rw [Nat.zero_add]))) | (intro q hq; exact (if_pos hq))))
      · (subst hA; (repeat' first | exact True.intro | exact rfl | apply And.intro | exact .inl rfl | exact .inr (le_of_nble rfl)))
    | some r =>
      have hs := takeS_some (hstep.trans hq)
      obtain ⟨n1, R1, h1⟩ := lst_ex zRow r.1
      obtain ⟨c3, P3, h3⟩ := lst_ex zPan r.2
      have hrl : c3 ≤ n + 1 := by
        have := sess_len hq
        rw [← hR.1] at this
        rw [h3.1]; omega
      have cN := fun q (e : q = u) => meets_at (P := Try.prog) (f := 143) (F := fun q => [xd (eJob j), .agg [.d (eI mk), .d (.sl 13 n fun i => eRow (R i))], xd (eItm x), xd (eWin (g q))]) e (cS.1 r hq n1 R1 h1 c3 P3 h3)
      refine call_of hA hM _ (cN _ eq0) ?_
      cbv
      repeat' first
        | (exfalso; rename_i h; subst hA; simp [real] at h; done)
        | apply And.intro
        | exact True.intro
        | with_reducible rfl
        | exact same_of hA rfl
        | refine br_of hA (fun _ => ?_) (fun _ => ?_)
        | exact imp_of hA id
        | (refine imp_of hA ?_; subst hA; simp only [real, Bool.true_and]; exact id)
        | (refine ind_of hA ?_; decide +kernel)
        | (refine inb_lt hA ?_; first | exact lt2_of hA (by assumption) | exact lt_of hA (by assumption))
        | exact room_add2 hA (by omega) (by decide)
      refine ⟨⟨(u + 1, (n1, R1), (c + c3, fun z => if z < c then P z else P3 (z - c)), (d, Q)), hlt', ?_, ?_, ?_⟩, by dsimp only; omega, cov_of ?_ ?_ ?_⟩
      · dsimp only; rw [hnext hlt' _ hs]; exact h1
      · dsimp only; rw [hnext hlt' _ hs]; exact lst_app hP h3
      · dsimp only; rw [hnext hlt' _ hs]; exact hQ
      · (subst hA; (repeat' first | exact True.intro | exact rfl | apply And.intro | exact congrArg (fun x => DV.v (.int .i64 x)) (up64 hlt' hnw2)))
      · (subst hA; (repeat' first | exact True.intro | exact rfl | apply And.intro | (intro _ _; first | rfl | trivial) | (intro q hq; exact app_if2 ePane q)))
      · (subst hA; (repeat' first | exact True.intro | exact rfl | apply And.intro | exact .inl rfl | exact .inr (le_of_nble rfl)))
  · rename_i hlt hkd
    have hlt' : u < nw := by first | exact lt2_of hA hlt | exact lt_of hA hlt
    have hkd : ¬ j.kind = 3 := ne_of hA hkd
    have hstep : stepT j mk x (g u) T.1 = intoL j mk x.key x.v (g u) T.1 := by unfold stepT; rw [if_neg hkd]
    cases hq : intoL j mk x.key x.v (g u) T.1 with
    | none =>
      have hs := takeS_none (hstep.trans hq)
      have cN := fun q (e : q = u) => meets_at (P := Try.prog) (f := 144) (F := fun q => [xd (eJob j), .agg [.d (eI mk), .d (.sl 13 n fun i => eRow (R i))], xd (eItm x), xd (eWin (g q))]) e (cI.2 hq n R rfl rfl 0 _ rfl rfl)
      refine call_of hA hM _ (cN _ eq0) ?_
      cbv
      repeat' first
        | (exfalso; rename_i h; subst hA; simp [real] at h; done)
        | apply And.intro
        | exact True.intro
        | with_reducible rfl
        | exact same_of hA rfl
        | refine br_of hA (fun _ => ?_) (fun _ => ?_)
        | exact imp_of hA id
        | (refine imp_of hA ?_; subst hA; simp only [real, Bool.true_and]; exact id)
        | (refine ind_of hA ?_; decide +kernel)
        | (refine inb_lt hA ?_; first | exact lt2_of hA (by assumption) | exact lt_of hA (by assumption))
        | (refine inb_of hA fun _ => ?_; exact ⟨Int.natCast_nonneg _, Int.ofNat_lt.2 hlt'⟩)
        | exact room_add2 hA (by omega) (by decide)
      refine ⟨⟨(u + 1, (n, R), (c, P), (d + 1, fun z => if z < d then Q z else ⟨x, g u⟩)), hlt', ?_, ?_, ?_⟩, by dsimp only; omega, cov_of ?_ ?_ ?_⟩
      · dsimp only; rw [hnext hlt' _ hs]; exact hR
      · dsimp only; rw [hnext hlt' _ hs]; exact hP
      · dsimp only; rw [hnext hlt' _ hs]; exact lst_snoc hQ
      · (subst hA; (repeat' first | exact True.intro | exact rfl | apply And.intro | exact congrArg (fun x => DV.v (.int .i64 x)) (up64 hlt' hnw2)))
      · (subst hA; (repeat' first | exact True.intro | exact rfl | apply And.intro | (intro _ _; first | rfl | trivial) | (intro q hq; refine Eq.trans (push_if (A := real) eLat rfl d Q ⟨x, g (0 + u)⟩ (fun _ => [eI 0, eI 0, eI 0, eI 0, eI 0, eI 0, eI 0]) q hq) (congrArg eLat (by rw [Nat.zero_add]))) | (intro q hq; exact (if_pos hq))))
      · (subst hA; (repeat' first | exact True.intro | exact rfl | apply And.intro | exact .inl rfl | exact .inr (le_of_nble rfl)))
    | some r =>
      have hs := takeS_some (hstep.trans hq)
      obtain ⟨n1, R1, h1⟩ := lst_ex zRow r.1
      obtain ⟨c3, P3, h3⟩ := lst_ex zPan r.2
      have hrl : c3 ≤ n + 1 := by
        have := into_len hq
        rw [← hR.1] at this
        rw [h3.1]; omega
      have cN := fun q (e : q = u) => meets_at (P := Try.prog) (f := 144) (F := fun q => [xd (eJob j), .agg [.d (eI mk), .d (.sl 13 n fun i => eRow (R i))], xd (eItm x), xd (eWin (g q))]) e (cI.1 r hq n1 R1 h1 c3 P3 h3)
      refine call_of hA hM _ (cN _ eq0) ?_
      cbv
      repeat' first
        | (exfalso; rename_i h; subst hA; simp [real] at h; done)
        | apply And.intro
        | exact True.intro
        | with_reducible rfl
        | exact same_of hA rfl
        | refine br_of hA (fun _ => ?_) (fun _ => ?_)
        | exact imp_of hA id
        | (refine imp_of hA ?_; subst hA; simp only [real, Bool.true_and]; exact id)
        | (refine ind_of hA ?_; decide +kernel)
        | (refine inb_lt hA ?_; first | exact lt2_of hA (by assumption) | exact lt_of hA (by assumption))
        | exact room_add2 hA (by omega) (by decide)
      refine ⟨⟨(u + 1, (n1, R1), (c + c3, fun z => if z < c then P z else P3 (z - c)), (d, Q)), hlt', ?_, ?_, ?_⟩, by dsimp only; omega, cov_of ?_ ?_ ?_⟩
      · dsimp only; rw [hnext hlt' _ hs]; exact h1
      · dsimp only; rw [hnext hlt' _ hs]; exact lst_app hP h3
      · dsimp only; rw [hnext hlt' _ hs]; exact hQ
      · (subst hA; (repeat' first | exact True.intro | exact rfl | apply And.intro | exact congrArg (fun x => DV.v (.int .i64 x)) (up64 hlt' hnw2)))
      · (subst hA; (repeat' first | exact True.intro | exact rfl | apply And.intro | (intro _ _; first | rfl | trivial) | (intro q hq; exact app_if2 ePane q)))
      · (subst hA; (repeat' first | exact True.intro | exact rfl | apply And.intro | exact .inl rfl | exact .inr (le_of_nble rfl)))
  rename_i hge
  have hun : nw = u := by first | (have := ge2_of hA hge; omega) | (have := ge_of hA hge; omega)
  have hR9 : Lst zRow (takeL j mk x ws L0).1 n R := by rw [← lst_all hg, hun, ← hT]; exact hR
  have hP9 : Lst zPan (takeL j mk x ws L0).2.1 c P := by rw [← lst_all hg, hun, ← hT]; exact hP
  have hQ9 : Lst zLat (takeL j mk x ws L0).2.2 d Q := by rw [← lst_all hg, hun, ← hT]; exact hQ
  have e1 : n = k := hR9.1.trans hG.1.symm
  have e2 : c = cz := hP9.1.trans hPz.1.symm
  have e3 : d = dz := hQ9.1.trans hQz.1.symm
  subst e1 e2 e3
  refine stop_of hA ⟨[(9, .c (.own 960 0 c 1)), (10, .c (.own 1024 0 d 1)), (3, .c (.bp 192 1 0)), (4, .c (.bp 256 1 0)), (5, .c (.bp 320 1 0)), (6, .c (.bp 384 1 0))], [(192, 1, .box ((eJob j).map .d)), (256, 1, .box [.d (eI mk), .d (.sl 13 n fun i => eRow (G i))]), (320, 1, .box ((eItm x).map .d)), (384, 1, .box [.d (eI 0), .d (.v nilS)]), (960, 1, .arr 9 c fun i => ePane (Pz i)), (1024, 1, .arr 7 d fun i => eLat (Qz i))]⟩ (cov_dB 256 13 (fun i => eRow (R i)) (fun i => eRow (G i)) [.d (eI mk)] [] rfl (fun q hq => congrArg eRow ((hR9.2 q hq).trans (hG.2 q hq).symm)) (cov_of ?_ ?_ ?_)) ?_
  · (subst hA; (repeat' first | exact True.intro | exact rfl | apply And.intro))
  · (subst hA; (repeat' first | exact True.intro | exact rfl | apply And.intro | (intro _ _; first | rfl | trivial) | (intro q hq; exact congrArg ePane ((hP9.2 q hq).trans (hPz.2 q hq).symm)) | (intro q hq; exact congrArg eLat ((hQ9.2 q hq).trans (hQz.2 q hq).symm))))
  · (subst hA; (repeat' first | exact True.intro | exact rfl | apply And.intro | exact .inl rfl | exact .inr (le_of_nble rfl)))
  cbv
  repeat' first
    | apply And.intro
    | exact True.intro
    | with_reducible rfl
    | exact same_of hA rfl
    | refine br_of hA (fun _ => ?_) (fun _ => ?_)
    | exact imp_of hA id
    | (refine imp_of hA ?_; subst hA; simp only [real, Bool.true_and]; exact id)
    | (refine ind_of hA ?_; decide +kernel)
def EXST : FuncId → List Nat × Bool := fun f => bif nbeq f 107 then ([], true) else ([], false)
theorem c_sOpTake (j : JobT) (s : OpStT) (hn : s.rows.n ≤ 1080000) (x : ItmT) (y : Int × List RowT × List PaneT × List LatT) (hy : y = opTakeL j s x) (k : Nat) (G : Nat → RowT) (hG : Lst zRow y.2.1 k G) (c : Nat) (P : Nat → PaneT) (hP : Lst zPan y.2.2.1 c P) (d : Nat) (Q : Nat → LatT) (hQ : Lst zLat y.2.2.2 d Q) :
    Meets Try.prog 49 [xd (eJob j), .agg [.d (eI s.mark), .d (.sl 13 s.rows.n fun i => eRow (s.rows.g i))], xd (eItm x)] ⟨.tup [.agg [.d (eI y.1), .d (.sl 13 k fun i => eRow (G i))], .c (.d (.sl 9 c fun i => ePane (P i))), .c (.d (.sl 7 d fun i => eLat (Q i)))], [none, none, none]⟩ := by
  unfold opTakeL at hy
  obtain ⟨b1, hb1, cO⟩ := c_sOpOk j s
  obtain ⟨b2, hb2, cR⟩ := c_sItmOkP x
  by_cases hok : OpOkP j s ∧ RecP x ∧ s.rows.n ≤ 280
  · rw [if_pos hok] at hy
    subst hy
    obtain ⟨h1, h2, h3⟩ := hok
    have hx : 0 ≤ x.t ∧ x.t ≤ 60 := by have h4 := h2.1; have h5 := h2.2; unfold ItmOkP at h5; omega
    have cT := c_l7Take j s.mark (rowsL s) s.rows.n s.rows.g (lst_of zRow _ _) (by omega) x h1.1 hx k G hG c P hP d Q hQ
    obtain ⟨mk, n, g, hnL⟩ := s
    have h3 : n ≤ 280 := h3
    have hb1' : b1 = true := hb1.2 h1
    have hb2' : b2 = true := hb2.2 h2.2
    subst hb1' hb2'
    have cC := c_sCopy mk n (by omega) g
    have no : ∀ {A : Ar}, real = A → A.bite (A.bite (A.bite (A.bnot true) true (A.cmp .neq x.kind 1)) true (A.bnot true)) true (A.cmp .gtr (A.ar .add .i64 (A.int n) 20) 300) = true → False := fun hA h => by
      subst hA
      have hk : x.kind = 1 := h2.1
      have hw : IntKind.i64.wrap ((n : Int) + 20) = (n : Int) + 20 := IntWalk.i64_in _ (by omega)
      have h : (bif (bif (bif !true then true else (x.kind != 1)) then true else !true) then true else decide (IntKind.i64.wrap ((n : Int) + 20) > 300)) = true := h
      rw [hk, hw] at h
      simp at h
      omega
    show Meets Try.prog 49 [xd (eJob j), .agg [.d (eI mk), .d (.sl 13 n fun i => eRow (g i))], xd (eItm x)] ⟨.tup [.agg [.d (eI mk), .d (.sl 13 k fun i => eRow (G i))], .c (.d (.sl 9 c fun i => ePane (P i))), .c (.d (.sl 7 d fun i => eLat (Q i)))], [none, none, none]⟩
    refine meets_of (H := [3]) (EX := EXST) ttok mixed Try.func49 rfl (by kernel_rfl) (by decide) ?_
    generalize hA : real = A
    generalize hM : MeetsB Try.prog = M
    cbv
    repeat' first
      | exact (no hA (by assumption)).elim
      | apply And.intro
      | exact True.intro
      | with_reducible rfl
      | exact same_of hA rfl
      | refine br_of hA (fun _ => ?_) (fun _ => ?_)
      | exact imp_of hA id
      | (refine imp_of hA ?_; subst hA; simp only [real, Bool.true_and]; exact id)
      | (refine ind_of hA ?_; decide +kernel)
      | (refine call_of hA hM _ cO ?_; cbv)
      | (refine call_of hA hM _ cR ?_; cbv)
    refine stop_of hA ⟨[(3, .c (.bp 192 1 0)), (4, .c (.bp 256 1 0)), (5, .c (.bp 320 1 0)), (6, .c (.bp 384 1 0))], [(192, 1, .box ((eJob j).map .d)), (256, 1, .box [.d (eI mk), .d (.sl 13 n fun i => eRow (g i))]), (320, 1, .box ((eItm x).map .d)), (384, 1, .box [.d (eI 0), .d (.v nilS)])]⟩ (cov_of ?_ ?_ ?_) ?_
    · (subst hA; (repeat' first | exact True.intro | exact rfl | apply And.intro))
    · (subst hA; (repeat' first | exact True.intro | exact rfl | apply And.intro | (intro _ _; first | rfl | trivial)))
    · (subst hA; (repeat' first | exact True.intro | exact rfl | apply And.intro | exact .inl rfl | exact .inr (le_of_nble rfl)))
    cbv
    repeat' first
      | apply And.intro
      | exact True.intro
      | with_reducible rfl
      | exact same_of hA rfl
      | refine br_of hA (fun _ => ?_) (fun _ => ?_)
      | exact imp_of hA id
      | (refine imp_of hA ?_; subst hA; simp only [real, Bool.true_and]; exact id)
      | (refine ind_of hA ?_; decide +kernel)
      | (refine call_of hA hM _ cC ?_; cbv)
      | (refine call_of2 hA hM _ cT (by subst hA; first | rfl | (simp only [sub0r]; try rfl)) ?_; cbv)
      | exact flat_row hA _ _
  · rw [if_neg hok] at hy
    subst hy
    have hk0 : k = 0 := hG.1
    have hc0 : c = 0 := hP.1
    have hd0 : d = 0 := hQ.1
    subst hk0 hc0 hd0
    obtain ⟨mk, n, g, hnL⟩ := s
    have hn : n ≤ 1080000 := hn
    refine meets_frz (r := .tup [.agg [.d (eI 0), .own 13 0 fun i => eRow (G i)], .c (.own 9 0 fun i => ePane (P i)), .c (.own 7 0 fun i => eLat (Q i))]) ?_ rfl
    refine meets_up (res := .tup [.agg [.d (eI 0), .d (.v nilS)], .c (.own 9 0 (real.rep (ePane zPan))), .c (.own 7 0 (real.rep (eLat zLat)))]) ⟨⟨UpV.refl _, UpV.nil 13 fun i => eRow (G i), trivial⟩, UpV.row fun i hi => absurd hi (Nat.not_lt_zero i), UpV.row fun i hi => absurd hi (Nat.not_lt_zero i), trivial⟩ ?_
    have no3 : ∀ {A : Ar}, real = A → A.bite (A.bite (A.bite (A.bnot b1) true (A.cmp .neq x.kind 1)) true (A.bnot b2)) true (A.cmp .gtr (A.ar .add .i64 (A.int n) 20) 300) = false → False := fun hA h => by
      subst hA
      have hw : IntKind.i64.wrap ((n : Int) + 20) = (n : Int) + 20 := IntWalk.i64_in _ (by omega)
      have h : (bif (bif (bif !b1 then true else (x.kind != 1)) then true else !b2) then true else decide (IntKind.i64.wrap ((n : Int) + 20) > 300)) = false := h
      rw [hw] at h
      apply hok
      cases b1 with
      | false => cases h
      | true => cases b2 with
        | false => by_cases hk : x.kind = 1 <;> simp [hk] at h
        | true =>
          have hk : x.kind = 1 := by
            by_cases hk : x.kind = 1
            · exact hk
            · simp [hk] at h
          rw [hk] at h
          simp at h
          exact ⟨hb1.1 rfl, ⟨hk, hb2.1 rfl⟩, by show n ≤ 280; omega⟩
    refine meets_of (H := []) (EX := EXA) ttok mixed Try.func49 rfl (by kernel_rfl) (by decide) ?_
    generalize hA : real = A
    generalize hM : MeetsB Try.prog = M
    cbv
    repeat' first
      | exact (no3 hA (by assumption)).elim
      | apply And.intro
      | exact True.intro
      | with_reducible rfl
      | exact same_of hA rfl
      | refine br_of hA (fun _ => ?_) (fun _ => ?_)
      | exact imp_of hA id
      | (refine imp_of hA ?_; subst hA; simp only [real, Bool.true_and]; exact id)
      | (refine ind_of hA ?_; decide +kernel)
      | (refine call_of hA hM _ cO ?_; cbv)
      | (refine call_of hA hM _ cR ?_; cbv)
    all_goals (subst hA; rfl)
end Go.Rk
/- Draws: pick. -/
namespace Go.Rk
set_option linter.unusedSimpArgs false
set_option linter.unusedVariables false
open Go.Proofs
set_option maxRecDepth 100000
set_option maxHeartbeats 1000000
set_option maxRecDepth 100000 in
theorem m_open (M0 : Nat) (b : Nat → Int) (m : Nat) (hm : m = if 2000 < M0 then 2000 else M0) : Meets Try.prog 53 [.c (.d (.sl 1 M0 fun i => [eU (b i)]))] ⟨.one (.c (.box [.d (.sl 1 m fun i => [eU (b i)]), .d (eI 0)])), [none]⟩ := by
  refine meets_of (H := []) (EX := EXA) ttok mixed Try.func53 rfl (by kernel_rfl) (by decide) ?_
  generalize hA : real = A
  generalize hM : MeetsB Try.prog = M
  cbv
  repeat' first
    | apply And.intro
    | exact True.intro
    | with_reducible rfl
    | exact same_of hA rfl
    | refine br_of hA (fun _ => ?_) (fun _ => ?_)
    | exact imp_of hA id
    | (refine imp_of hA ?_; subst hA; simp only [real, Bool.true_and]; exact id)
    | (refine ind_of hA ?_; decide +kernel)
    | (refine cut_of hA ?_; rename_i h; subst hA; have h9 : decide ((M0 : Int) > 2000) = true := h; have := of_decide_eq_true h9; exact ⟨Int.le_refl _, (by decide), (show (2000 : Int) ≤ (M0 : Int) by omega)⟩)
  · rename_i h
    subst hA
    have h9 : decide ((M0 : Int) > 2000) = true := h
    have h8 := of_decide_eq_true h9
    have e : m = 2000 := by rw [hm]; exact if_pos (by omega)
    subst e
    have e2 : (fun i => (fun i => [eU (b i)]) (0 + i)) = fun i => [eU (b i)] := by funext i; rw [Nat.zero_add]
    exact congrArg (fun f => XA.one (XT.c (.box [.d (.sl 1 2000 f), .d (eI 0)]))) e2
  · rename_i h
    subst hA
    have h9 : decide ((M0 : Int) > 2000) = false := h
    have h8 := of_decide_eq_false h9
    have e : m = M0 := by rw [hm]; exact if_neg (by omega)
    subst e
    rfl
set_option maxRecDepth 100000 in
theorem m_pick (m : Nat) (hm : m ≤ 2000) (b : Nat → Int) (hb : ∀ i, 0 ≤ b i ∧ b i ≤ 255) (p : Int) (hp : 0 ≤ p ∧ p ≤ 1000000) (n : Int) (hn : 1 ≤ n ∧ n ≤ 1000000) (x : Int) (hx : x = pickV m b p n) (q : Int) (hq : q = p + 1) : Meets Try.prog 56 [.c (.box [.d (.sl 1 m fun i => [eU (b i)]), .d (eI p)]), .c (.d (eI n))] ⟨.one (.c (.d (eI x))), [some (.box [.d (.sl 1 m fun i => [eU (b i)]), .d (eI q)]), none]⟩ := by
  have w1 : IntKind.i64.wrap (p + 1) = q := by rw [IntWalk.i64_in _ (by omega)]; omega
  have w2 : IntKind.i64.wrap (q - 1) = p := by rw [IntWalk.i64_in _ (by omega)]; omega
  have w7 : IntKind.i64.wrap (p * 7) = p * 7 := IntWalk.i64_in _ (by omega)
  have w73 : IntKind.i64.wrap (p * 7 + 3) = p * 7 + 3 := IntWalk.i64_in _ (by omega)
  have mpos : real.bite (real.cmp .lss n 1) true (real.cmp .eql (real.int m) 0) = false → 1 ≤ m := fun h => by
    have h : (bif decide (n < 1) then true else ((m : Int) == 0)) = false := h
    rw [decide_eq_false (by omega)] at h
    have h : ((m : Int) == 0) = false := h
    have h : ¬ (m : Int) = 0 := by simpa using h
    omega
  refine meets_of (H := []) (EX := EXA) ttok mixed Try.func56 rfl (by kernel_rfl) (by decide) ?_
  generalize hA : real = A
  generalize hM : MeetsB Try.prog = M
  cbv
  repeat' first
    | apply And.intro
    | exact True.intro
    | with_reducible rfl
    | exact same_of hA rfl
    | refine br_of hA (fun _ => ?_) (fun _ => ?_)
    | exact imp_of hA id
    | (refine imp_of hA ?_; subst hA; simp only [real, Bool.true_and]; exact id)
    | (refine ind_of hA ?_; decide +kernel)
    | (refine nz_of hA ?_; first | (show n ≠ 0; omega) | (show (64 : Int) ≠ 0; decide) | (rename_i h1 h2; subst hA; have h3 := mpos h1; show (m : Int) ≠ 0; omega))
  · rename_i hbad
    subst hA
    have h : (bif decide (n < 1) then true else ((m : Int) == 0)) = true := hbad
    rw [decide_eq_false (by omega)] at h
    have h : ((m : Int) == 0) = true := h
    have h : (m : Int) = 0 := by simpa using h
    refine congrArg (fun z => XA.one (.c (.d (eI z)))) ?_
    rw [hx]; unfold pickV; rw [if_pos (by omega)]
  · rename_i hbad
    subst hA
    exact congrArg (fun z => [some (XV.box [XC.d (DV.sl 1 m fun i => [eU (b i)]), XC.d (eI z)]), none]) w1
  · rename_i hg hlt
    refine inb_of hA fun _ => ?_
    subst hA
    have hlt : decide (IntKind.i64.wrap (IntKind.i64.wrap (p + 1) - 1) < (m : Int)) = true := hlt
    have hlt := of_decide_eq_true hlt
    show 0 ≤ IntKind.i64.wrap (IntKind.i64.wrap (p + 1) - 1) ∧ IntKind.i64.wrap (IntKind.i64.wrap (p + 1) - 1) < (m : Int)
    rw [w1, w2] at hlt ⊢
    exact ⟨hp.1, hlt⟩
  · rename_i hg hlt
    subst hA
    have hlt : decide (IntKind.i64.wrap (IntKind.i64.wrap (p + 1) - 1) < (m : Int)) = true := hlt
    have hlt := of_decide_eq_true hlt
    rw [w1, w2] at hlt
    refine congrArg (fun z => XA.one (.c (.d (eI z)))) ?_
    have h1 := mpos hg
    show (IntKind.i64.wrap (b (IntKind.i64.wrap (IntKind.i64.wrap (p + 1) - 1)).toNat)).tmod n = x
    have hbb := hb p.toNat
    rw [w1, w2, IntWalk.i64_in _ (by omega), hx]
    unfold pickV
    rw [if_neg (by omega), if_pos hlt]
  · rename_i hg hlt
    subst hA
    exact congrArg (fun z => [some (XV.box [XC.d (DV.sl 1 m fun i => [eU (b i)]), XC.d (eI z)]), none]) w1
  · rename_i hg hlt
    refine inb_of hA fun _ => ?_
    subst hA
    have h1 := mpos hg
    show 0 ≤ (IntKind.i64.wrap (IntKind.i64.wrap (p + 1) - 1)).tmod (m : Int) ∧ (IntKind.i64.wrap (IntKind.i64.wrap (p + 1) - 1)).tmod (m : Int) < (m : Int)
    rw [w1, w2]
    exact tmod_in hp.1 (Int.ofNat_le.2 h1)
  · rename_i hg hlt
    refine inb_of hA fun _ => ?_
    subst hA
    have h1 := mpos hg
    show 0 ≤ (IntKind.i64.wrap (IntKind.i64.wrap (IntKind.i64.wrap (IntKind.i64.wrap (p + 1) - 1) * 7) + 3)).tmod (m : Int) ∧ (IntKind.i64.wrap (IntKind.i64.wrap (IntKind.i64.wrap (IntKind.i64.wrap (p + 1) - 1) * 7) + 3)).tmod (m : Int) < (m : Int)
    rw [w1, w2, w7, w73]
    exact tmod_in (by omega) (Int.ofNat_le.2 h1)
  · rename_i hg hlt
    subst hA
    have hlt : decide (IntKind.i64.wrap (IntKind.i64.wrap (p + 1) - 1) < (m : Int)) = false := hlt
    have hlt := of_decide_eq_false hlt
    rw [w1, w2] at hlt
    have h1 := mpos hg
    refine congrArg (fun z => XA.one (.c (.d (eI z)))) ?_
    rw [hx]; unfold pickV
    rw [if_neg (by omega), if_neg hlt]
    have hy := pickY_in (m := m) (p := p) (b := b) h1 hb hp
    obtain ⟨W, hW⟩ : ∃ W, W = IntKind.i64.wrap (IntKind.i64.wrap (p + 1) - 1) := ⟨_, rfl⟩
    have hWp : W = p := by rw [hW, w1, w2]
    obtain ⟨Y, hY⟩ : ∃ Y, Y = IntKind.i64.wrap (IntKind.i64.wrap (IntKind.i64.wrap (IntKind.i64.wrap (IntKind.i64.wrap (b (W.tmod (m : Int)).toNat) * 131) + IntKind.i64.wrap (IntKind.i64.wrap (b ((IntKind.i64.wrap (IntKind.i64.wrap (W * 7) + 3)).tmod (m : Int)).toNat) * 1117)) + IntKind.i64.wrap (W * 29)) + IntKind.i64.wrap (IntKind.i64.wrap (W.tdiv (m : Int)) * 53)) := ⟨_, rfl⟩
    have hYp : Y = pickY m b p := by
      rw [hY, hWp, w7, w73]
      unfold pickY
      have b1 := hb (p.tmod (m : Int)).toNat
      have b2 := hb ((p * 7 + 3).tmod (m : Int)).toNat
      have d1 : 0 ≤ p.tdiv (m : Int) := Int.tdiv_nonneg hp.1 (Int.natCast_nonneg m)
      have d2 : p.tdiv (m : Int) ≤ p := Int.tdiv_le_self (m : Int) hp.1
      generalize b (p.tmod (m : Int)).toNat = c1 at b1 ⊢
      generalize b ((p * 7 + 3).tmod (m : Int)).toNat = c2 at b2 ⊢
      generalize p.tdiv (m : Int) = d at d1 d2 ⊢
      rw [IntWalk.i64_in c1 (by omega), IntWalk.i64_in c2 (by omega), IntWalk.i64_in d (by omega), IntWalk.i64_in (c1 * 131) (by omega), IntWalk.i64_in (c2 * 1117) (by omega), IntWalk.i64_in (p * 29) (by omega), IntWalk.i64_in (d * 53) (by omega), IntWalk.i64_in (c1 * 131 + c2 * 1117) (by omega), IntWalk.i64_in (c1 * 131 + c2 * 1117 + p * 29) (by omega), IntWalk.i64_in _ (by omega)]
    have q1 : 0 ≤ (pickY m b p).tdiv 64 := Int.tdiv_nonneg hy.1 (by decide)
    have q2 : (pickY m b p).tdiv 64 ≤ pickY m b p := Int.tdiv_le_self 64 hy.1
    have key : (IntKind.i64.wrap (BitVec.ofInt 64 Y ^^^ BitVec.ofInt 64 (IntKind.i64.wrap (Y.tdiv 64))).toNat).tmod n = (pickX (pickY m b p)).tmod n := by
      rw [hYp, IntWalk.i64_in ((pickY m b p).tdiv 64) (by omega)]; rfl
    rw [← key, hY, hW]
    rfl
  · rename_i hg hlt
    subst hA
    exact congrArg (fun z => [some (XV.box [XC.d (DV.sl 1 m fun i => [eU (b i)]), XC.d (eI z)]), none]) w1
end Go.Rk
/- How much a record leaves, tells and loses. -/
namespace Go.Rk
set_option linter.unusedSimpArgs false
set_option linter.unusedVariables false
theorem opTakeL_len (j : JobT) (s : OpStT) (x : ItmT) : (opTakeL j s x).2.1.length ≤ 400 ∧ (opTakeL j s x).2.2.1.length ≤ 40000 ∧ (opTakeL j s x).2.2.2.length ≤ 100 := by
  unfold opTakeL
  split
  · rename_i h
    have hw := winsL_len j x.t
    have h1 := takeL_len (j := j) (m := s.mark) (x := x) (l := rowsL s) (winsL j x.t)
    have hl : (rowsL s).length = s.rows.n := by simp [rowsL]
    rw [hl] at h1
    obtain ⟨a, b, c⟩ := h1
    have h2 : (winsL j x.t).length * (s.rows.n + (winsL j x.t).length + 1) ≤ 100 * 400 := Nat.mul_le_mul hw (by omega)
    exact ⟨by show (takeL j s.mark x (winsL j x.t) (rowsL s)).1.length ≤ _; omega, by show (takeL j s.mark x (winsL j x.t) (rowsL s)).2.1.length ≤ _; omega, by show (takeL j s.mark x (winsL j x.t) (rowsL s)).2.2.length ≤ _; omega⟩
  · exact ⟨Nat.zero_le _, Nat.zero_le _, Nat.zero_le _⟩
end Go.Rk
/- Draws: small. -/
namespace Go.Rk
set_option linter.unusedSimpArgs false
set_option linter.unusedVariables false
open Go.Proofs
set_option maxRecDepth 100000
set_option maxHeartbeats 1000000
def EXD : FuncId → List Nat × Bool := fun f => ([], nbeq f 0)
theorem x_pick (m : Nat) (hm : m ≤ 2000) (b : Nat → Int) (hb : ∀ i, 0 ≤ b i ∧ b i ≤ 255) (p : Int) (hp : 0 ≤ p ∧ p ≤ 1000000) (n : Int) (hn : 1 ≤ n ∧ n ≤ 1000000) : ∃ y : Int × Int, (0 ≤ y.1 ∧ y.1 < n ∧ y.2 = p + 1) ∧ Meets Try.prog 56 [.c (.box [.d (.sl 1 m fun i => [eU (b i)]), .d (eI p)]), .c (.d (eI n))] ⟨.one (.c (.d (eI y.1))), [some (.box [.d (.sl 1 m fun i => [eU (b i)]), .d (eI y.2)]), none]⟩ :=
  ⟨(pickV m b p n, p + 1), ⟨(pickV_in hb hp hn.1).1, (pickV_in hb hp hn.1).2, rfl⟩, m_pick m hm b hb p hp n hn _ rfl _ rfl⟩
theorem x_rec (m : Nat) (hm : m ≤ 2000) (b : Nat → Int) (hb : ∀ i, 0 ≤ b i ∧ b i ≤ 255) (p : Int) (hp : 0 ≤ p ∧ p ≤ 200000)  : ∃ y : ItmT × Int, (p ≤ y.2 ∧ y.2 ≤ p + 4) ∧ Meets Try.prog 102 [.c (.box [.d (.sl 1 m fun i => [eU (b i)]), .d (eI p)])] ⟨.one (xd (eItm y.1)), [some (.box [.d (.sl 1 m fun i => [eU (b i)]), .d (eI y.2)])]⟩ := by
  refine meets_ex (H := []) (EX := EXD) ttok mixed ([some (.box [.d (.sl 1 m fun i => [eU (b i)]), .d (eI 0)])]) Try.func102 rfl (by kernel_rfl) (by decide) (fun _ => rfl) ?_
  generalize hA : real = A
  generalize hM : MeetsB Try.prog = M
  cbv
  repeat' first
    | apply And.intro
    | exact True.intro
    | with_reducible rfl
    | exact same_of hA rfl
    | refine br_of hA (fun _ => ?_) (fun _ => ?_)
    | exact imp_of hA id
    | (refine imp_of hA ?_; subst hA; simp only [real, Bool.true_and]; exact id)
    | (refine ind_of hA ?_; decide +kernel)
    | (refine call_ex hA hM (x_pick m hm b hb _ (by omega) _ (by omega)) ?_; rintro ⟨x, q⟩ ⟨hx0, hx1, hq⟩; dsimp only at hx0 hx1 hq; cbv)
    | (refine inb_of hA (fun _ => ?_); (first | omega | (constructor <;> omega)))
    | (refine fin_of hA ⟨⟨⟨_, _, _, _, _⟩, _⟩, ?_, rfl, rfl⟩; simp only; omega)
theorem x_item (m : Nat) (hm : m ≤ 2000) (b : Nat → Int) (hb : ∀ i, 0 ≤ b i ∧ b i ≤ 255) (p : Int) (hp : 0 ≤ p ∧ p ≤ 150000) (n : Int) (hn : 1 ≤ n ∧ n ≤ 100) : ∃ y : ItmT × Int, (p ≤ y.2 ∧ y.2 ≤ p + 20) ∧ Meets Try.prog 103 [.c (.box [.d (.sl 1 m fun i => [eU (b i)]), .d (eI p)]), .c (.d (eI n))] ⟨.one (xd (eItm y.1)), [some (.box [.d (.sl 1 m fun i => [eU (b i)]), .d (eI y.2)]), none]⟩ := by
  refine meets_ex (H := []) (EX := EXD) ttok mixed ([some (.box [.d (.sl 1 m fun i => [eU (b i)]), .d (eI 0)]), none]) Try.func103 rfl (by kernel_rfl) (by decide) (fun _ => rfl) ?_
  generalize hA : real = A
  generalize hM : MeetsB Try.prog = M
  cbv
  repeat' first
    | apply And.intro
    | exact True.intro
    | with_reducible rfl
    | exact same_of hA rfl
    | refine br_of hA (fun _ => ?_) (fun _ => ?_)
    | exact imp_of hA id
    | (refine imp_of hA ?_; subst hA; simp only [real, Bool.true_and]; exact id)
    | (refine ind_of hA ?_; decide +kernel)
    | (refine call_ex hA hM (x_rec m hm b hb _ (by omega)) ?_; rintro ⟨it, q⟩ ⟨hq0, hq1⟩; dsimp only at hq0 hq1; cbv)
    | (refine call_ex hA hM (x_pick m hm b hb _ (by omega) _ (by omega)) ?_; rintro ⟨x, q⟩ ⟨hx0, hx1, hq⟩; dsimp only at hx0 hx1 hq; cbv)
    | (refine inb_of hA (fun _ => ?_); (first | omega | (constructor <;> omega)))
    | (refine fin_of hA ⟨⟨⟨_, _, _, _, _⟩, _⟩, ?_, rfl, rfl⟩; simp only; omega)
theorem x_job (m : Nat) (hm : m ≤ 2000) (b : Nat → Int) (hb : ∀ i, 0 ≤ b i ∧ b i ≤ 255) (p : Int) (hp : 0 ≤ p ∧ p ≤ 150000)  : ∃ y : JobT × Int, (p ≤ y.2 ∧ y.2 ≤ p + 20) ∧ Meets Try.prog 54 [.c (.box [.d (.sl 1 m fun i => [eU (b i)]), .d (eI p)])] ⟨.one (xd (eJob y.1)), [some (.box [.d (.sl 1 m fun i => [eU (b i)]), .d (eI y.2)])]⟩ := by
  refine meets_ex (H := []) (EX := EXD) ttok mixed ([some (.box [.d (.sl 1 m fun i => [eU (b i)]), .d (eI 0)])]) Try.func54 rfl (by kernel_rfl) (by decide) (fun _ => rfl) ?_
  generalize hA : real = A
  generalize hM : MeetsB Try.prog = M
  cbv
  repeat' first
    | apply And.intro
    | exact True.intro
    | with_reducible rfl
    | exact same_of hA rfl
    | refine br_of hA (fun _ => ?_) (fun _ => ?_)
    | exact imp_of hA id
    | (refine imp_of hA ?_; subst hA; simp only [real, Bool.true_and]; exact id)
    | (refine ind_of hA ?_; decide +kernel)
    | (refine call_ex hA hM (x_pick m hm b hb _ (by omega) _ (by omega)) ?_; rintro ⟨x, q⟩ ⟨hx0, hx1, hq⟩; dsimp only at hx0 hx1 hq; cbv)
    | (refine inb_of hA (fun _ => ?_); (first | omega | (constructor <;> omega)))
    | (refine nz_of hA ?_; first | (show (2 : Int) ≠ 0; decide) | (subst hA; show IntKind.i64.wrap (1 + x) ≠ 0; rw [IntWalk.i64_in _ (by omega)]; omega))
    | (refine fin_of hA ⟨⟨⟨_, _, _, _, _, _, _, _, _, _⟩, _⟩, ?_, rfl, rfl⟩; simp only; omega)
theorem x_anyJob (m : Nat) (hm : m ≤ 2000) (b : Nat → Int) (hb : ∀ i, 0 ≤ b i ∧ b i ≤ 255) (p : Int) (hp : 0 ≤ p ∧ p ≤ 100000) (n : Int) (hn : 1 ≤ n ∧ n ≤ 100) : ∃ y : JobT × Int, (p ≤ y.2 ∧ y.2 ≤ p + 40) ∧ Meets Try.prog 117 [.c (.box [.d (.sl 1 m fun i => [eU (b i)]), .d (eI p)]), .c (.d (eI n))] ⟨.one (xd (eJob y.1)), [some (.box [.d (.sl 1 m fun i => [eU (b i)]), .d (eI y.2)]), none]⟩ := by
  refine meets_ex (H := []) (EX := EXD) ttok mixed ([some (.box [.d (.sl 1 m fun i => [eU (b i)]), .d (eI 0)]), none]) Try.func117 rfl (by kernel_rfl) (by decide) (fun _ => rfl) ?_
  generalize hA : real = A
  generalize hM : MeetsB Try.prog = M
  cbv
  repeat' first
    | apply And.intro
    | exact True.intro
    | with_reducible rfl
    | exact same_of hA rfl
    | refine br_of hA (fun _ => ?_) (fun _ => ?_)
    | exact imp_of hA id
    | (refine imp_of hA ?_; subst hA; simp only [real, Bool.true_and]; exact id)
    | (refine ind_of hA ?_; decide +kernel)
    | (refine call_ex hA hM (x_job m hm b hb _ (by omega)) ?_; rintro ⟨j, q⟩ ⟨hq0, hq1⟩; dsimp only at hq0 hq1; cbv)
    | (refine call_ex hA hM (x_pick m hm b hb _ (by omega) _ (by omega)) ?_; rintro ⟨x, q⟩ ⟨hx0, hx1, hq⟩; dsimp only at hx0 hx1 hq; cbv)
    | (refine inb_of hA (fun _ => ?_); (first | omega | (constructor <;> omega)))
    | (refine fin_of hA ⟨⟨⟨_, _, _, _, _, _, _, _, _, _⟩, _⟩, ?_, rfl, rfl⟩; simp only; omega)
end Go.Rk
/- Draws: values. -/
namespace Go.Rk
set_option linter.unusedSimpArgs false
set_option linter.unusedVariables false
open Go.Proofs
set_option maxRecDepth 100000
set_option maxHeartbeats 1000000
theorem x_add (a : AggT) (v : Int) : ∃ c : AggT, True ∧ Meets Try.prog 157 [xd (eAgg a), .c (.d (eI v))] ⟨.one (xd (eAgg c)), [none, none]⟩ := ⟨_, trivial, c_sAggAdd a v _ rfl⟩
def st_xa (m : Nat) (b : Nat → Int) (n : Int) (k q : Int) (a : AggT) : St := ⟨[(6, .c (.d (eI k))), (5, .c (.bp 320 1 0)), (4, .c (.bp 256 1 0)), (1, .c (.d (eI n))), (0, .c (.bp 0 1 0))], [(320, 1, .box ((eAgg a).map .d)), (256, 1, .box ((eAgg zAgg).map .d)), (0, 1, .box [.d (.sl 1 m fun i => [eU (b i)]), .d (eI q)])]⟩
theorem x_agg (m : Nat) (hm : m ≤ 2000) (b : Nat → Int) (hb : ∀ i, 0 ≤ b i ∧ b i ≤ 255) (p : Int) (hp : 0 ≤ p ∧ p ≤ 60000) (n : Int) (hn : 1 ≤ n ∧ n ≤ 100) : ∃ y : AggT × Int, (p ≤ y.2 ∧ y.2 ≤ p + 20) ∧ Meets Try.prog 148 [.c (.box [.d (.sl 1 m fun i => [eU (b i)]), .d (eI p)]), .c (.d (eI n))] ⟨.one (xd (eAgg y.1)), [some (.box [.d (.sl 1 m fun i => [eU (b i)]), .d (eI y.2)]), none]⟩ := by
  refine meets_ex (H := []) (EX := EXD) ttok mixed ([some (.box [.d (.sl 1 m fun i => [eU (b i)]), .d (eI 0)]), none]) Try.func148 rfl (by kernel_rfl) (by decide) (fun _ => rfl) ?_
  generalize hA : real = A
  generalize hM : MeetsB Try.prog = M
  cbv
  repeat' first
    | apply And.intro
    | exact True.intro
    | with_reducible rfl
    | exact same_of hA rfl
    | refine br_of hA (fun _ => ?_) (fun _ => ?_)
    | exact imp_of hA id
    | (refine imp_of hA ?_; subst hA; simp only [real, Bool.true_and]; exact id)
    | (refine ind_of hA ?_; decide +kernel)
    | (refine call_ex hA hM (x_pick m hm b hb _ (by omega) _ (by omega)) ?_; rintro ⟨x, q⟩ ⟨hx0, hx1, hq⟩; dsimp only at hx0 hx1 hq; cbv)
  refine loop_of hA (α := { y : Int × Int × AggT // 0 ≤ y.1 ∧ y.1 ≤ 5 ∧ p ≤ y.2.1 ∧ y.2.1 + y.1 ≤ p + 10 }) (fun y => st_xa m b n y.1.1 y.1.2.1 y.1.2.2) (fun y => y.1.1.toNat) ⟨(x, q, zAgg), hx0, by simp only; omega, by simp only; omega, by simp only; omega⟩ ?_ ?_
  · refine cov_of ?_ ?_ ?_
    · cbv; try (subst hA; repeat' first | apply And.intro | exact True.intro | rfl | fail)
    · cbv; try (subst hA; repeat' first | apply And.intro | exact True.intro | rfl | (intro _ _; rfl) | (intro k hk; exact absurd hk (Nat.not_lt_zero k)) | fail)
    · cbv; try (subst hA; repeat' first | apply And.intro | exact True.intro | rfl | exact .inr trivial | exact .inl trivial)
  rintro ⟨⟨k, q1, a⟩, hk0, hk1, hq0, hq1⟩
  have hk0 : 0 ≤ k := hk0
  have hk1 : k ≤ 5 := hk1
  have hq0 : p ≤ q1 := hq0
  have hq1 : q1 + k ≤ p + 10 := hq1
  cbv
  repeat' first
    | apply And.intro
    | exact True.intro
    | with_reducible rfl
    | exact same_of hA rfl
    | refine br_of hA (fun _ => ?_) (fun _ => ?_)
    | exact imp_of hA id
    | (refine imp_of hA ?_; subst hA; simp only [real, Bool.true_and]; exact id)
    | (refine ind_of hA ?_; decide +kernel)
    | (refine call_ex hA hM (x_pick m hm b hb _ (by omega) _ (by omega)) ?_; rintro ⟨x, q⟩ ⟨hx0, hx1, hq⟩; dsimp only at hx0 hx1 hq; cbv)
    | (refine call_ex hA hM (x_add _ _) ?_; rintro c -; cbv)
    | (refine inb_of hA (fun _ => ?_); (first | omega | (constructor <;> omega)))
    | (refine fin_of hA ⟨⟨⟨_, _, _, _⟩, _⟩, ?_, rfl, rfl⟩; simp only; omega)
  rename_i hgt
  have hgt : k > 0 := by subst hA; exact of_decide_eq_true hgt
  obtain ⟨k', hk'⟩ : ∃ z, z = k - 1 := ⟨_, rfl⟩
  refine ⟨⟨(k', q, c), show 0 ≤ k' by omega, show k' ≤ 5 by omega, show p ≤ q by omega, show q + k' ≤ p + 10 by omega⟩, by simp only; omega, cov_of ?_ ?_ ?_⟩
  · cbv; subst hA
    have hw : IntKind.i64.wrap (k - 1) = k' := by rw [IntWalk.i64_in _ (by omega), hk']
    repeat' first | apply And.intro | exact True.intro | exact congrArg (fun x => DV.v (.int .i64 x)) hw | rfl
  · cbv; try (subst hA; repeat' first | apply And.intro | exact True.intro | rfl)
  · cbv; try (subst hA; repeat' first | apply And.intro | exact True.intro | rfl | exact .inr trivial | exact .inl trivial | exact .inr (Nat.le_refl _))
theorem x_win (m : Nat) (hm : m ≤ 2000) (b : Nat → Int) (hb : ∀ i, 0 ≤ b i ∧ b i ≤ 255) (p : Int) (hp : 0 ≤ p ∧ p ≤ 60000) (n : Int) (hn : 1 ≤ n ∧ n ≤ 100) : ∃ y : WinT × Int, (p ≤ y.2 ∧ y.2 ≤ p + 10) ∧ Meets Try.prog 147 [.c (.box [.d (.sl 1 m fun i => [eU (b i)]), .d (eI p)]), .c (.d (eI n))] ⟨.one (xd (eWin y.1)), [some (.box [.d (.sl 1 m fun i => [eU (b i)]), .d (eI y.2)]), none]⟩ := by
  refine meets_ex (H := []) (EX := EXD) ttok mixed ([some (.box [.d (.sl 1 m fun i => [eU (b i)]), .d (eI 0)]), none]) Try.func147 rfl (by kernel_rfl) (by decide) (fun _ => rfl) ?_
  generalize hA : real = A
  generalize hM : MeetsB Try.prog = M
  cbv
  repeat' first
    | apply And.intro
    | exact True.intro
    | with_reducible rfl
    | exact same_of hA rfl
    | refine br_of hA (fun _ => ?_) (fun _ => ?_)
    | exact imp_of hA id
    | (refine imp_of hA ?_; subst hA; simp only [real, Bool.true_and]; exact id)
    | (refine ind_of hA ?_; decide +kernel)
    | (refine call_ex hA hM (x_pick m hm b hb _ (by omega) _ (by omega)) ?_; rintro ⟨x, q⟩ ⟨hx0, hx1, hq⟩; dsimp only at hx0 hx1 hq; cbv)
    | (refine inb_of hA (fun _ => ?_); (first | omega | (constructor <;> omega)))
    | (refine fin_of hA ⟨⟨⟨_, _⟩, _⟩, ?_, rfl, rfl⟩; simp only; omega)
end Go.Rk
/- Tables of records: what holds of them at every step. -/
namespace Go.Rk
set_option linter.unusedSimpArgs false
set_option linter.unusedVariables false
def spcT (kind : Int) (P : List LatT) : List TabT := P.foldl (stepS kind) []
theorem fine_left {P Q : List LatT} (h : Fine (P ++ Q)) : Fine P := ⟨by have := h.1; rw [List.length_append] at this; omega, fun x hx => h.2 x (List.mem_append_left _ hx)⟩
theorem foldS_inv : ∀ (P P0 : List LatT) (T : List TabT), InvS P0 T → Fine (P0 ++ P) → InvS (P0 ++ P) (P.foldl (stepS 3) T) ∧ tCnt (P.foldl (stepS 3) T) = tCnt T + P.length ∧ P.foldl (stepI 3) T = P.foldl (stepS 3) T
  | [], P0, T, h, _ => ⟨by simpa using h, by simp, rfl⟩
  | l :: P, P0, T, h, hf => by
    have e : P0 ++ l :: P = (P0 ++ [l]) ++ P := by simp
    rw [e] at hf ⊢
    obtain ⟨h1, h2, h3⟩ := invS_step h (fine_left hf)
    obtain ⟨g1, g2, g3⟩ := foldS_inv P (P0 ++ [l]) (sessS l.itm.key l.win l.itm.v T) h1 hf
    refine ⟨g1, ?_, ?_⟩
    · rw [List.length_cons, List.foldl_cons]
      show tCnt (P.foldl (stepS 3) (sessS l.itm.key l.win l.itm.v T)) = _
      omega
    · show P.foldl (stepI 3) (sessI l.itm.key l.win l.itm.v T) = P.foldl (stepS 3) (sessS l.itm.key l.win l.itm.v T)
      rw [h3]; exact g3
theorem foldW_inv {kind : Int} (hk : kind ≠ 3) : ∀ (P P0 : List LatT) (T : List TabT), InvW P0 T → Fine (P0 ++ P) → InvW (P0 ++ P) (P.foldl (stepS kind) T) ∧ tCnt (P.foldl (stepS kind) T) = tCnt T + P.length
  | [], P0, T, h, _ => ⟨by simpa using h, by simp⟩
  | l :: P, P0, T, h, hf => by
    have e : P0 ++ l :: P = (P0 ++ [l]) ++ P := by simp
    rw [e] at hf ⊢
    obtain ⟨h1, h2⟩ := invW_step h (fine_left hf)
    have es : stepS kind T l = stepW l.itm.key l.win l.itm.v T := if_neg hk
    rw [List.foldl_cons, es]
    obtain ⟨g1, g2⟩ := foldW_inv hk P (P0 ++ [l]) (stepW l.itm.key l.win l.itm.v T) h1 hf
    exact ⟨g1, by rw [List.length_cons]; omega⟩
theorem foldI_eq {kind : Int} {P : List LatT} (hf : Fine P) : P.foldl (stepI kind) [] = spcT kind P := by
  by_cases hk : kind = 3
  · subst hk
    exact (foldS_inv P [] [] ⟨List.Pairwise.nil, fun r h => (by simp at h), fun l h => (by simp at h)⟩ hf).2.2
  · have : stepI kind = stepS kind := by funext T l; unfold stepI stepS; rw [if_neg hk, if_neg hk]
    unfold spcT; rw [this]
theorem spcT_S {P : List LatT} (hf : Fine P) : InvS P (spcT 3 P) := (foldS_inv P [] [] ⟨List.Pairwise.nil, fun r h => (by simp at h), fun l h => (by simp at h)⟩ hf).1
theorem spcT_W {kind : Int} (hk : kind ≠ 3) {P : List LatT} (hf : Fine P) : InvW P (spcT kind P) := (foldW_inv hk P [] [] ⟨List.Pairwise.nil, fun r h => (by simp at h), fun l h => (by simp at h)⟩ hf).1
theorem spcT_rise {kind : Int} {P : List LatT} (hf : Fine P) : Rise (spcT kind P) := by
  by_cases hk : kind = 3
  · subst hk; exact (spcT_S hf).rise
  · exact (spcT_W hk hf).rise
theorem spcT_cnt {kind : Int} {P : List LatT} (hf : Fine P) : tCnt (spcT kind P) = P.length := by
  by_cases hk : kind = 3
  · subst hk
    have := (foldS_inv P [] [] ⟨List.Pairwise.nil, fun r h => (by simp at h), fun l h => (by simp at h)⟩ hf).2.1
    simpa [spcT, tCnt] using this
  · have := (foldW_inv hk P [] [] ⟨List.Pairwise.nil, fun r h => (by simp at h), fun l h => (by simp at h)⟩ hf).2
    simpa [spcT, tCnt] using this
theorem spcT_perm {kind : Int} {P P' : List LatT} (hf : Fine P) (hp : P.Perm P') : spcT kind P = spcT kind P' := by
  have hf' : Fine P' := ⟨by rw [← hp.length_eq]; exact hf.1, fun l hl => hf.2 l (hp.mem_iff.2 hl)⟩
  by_cases hk : kind = 3
  · subst hk; exact invS_uniq (fun l hl => (hf.2 l hl).1) (spcT_S hf) (spcT_S hf') hp
  · exact invW_uniq (spcT_W hk hf) (spcT_W hk hf') hp
theorem stepS_len (kind : Int) (T : List TabT) (l : LatT) : (stepS kind T l).length ≤ T.length + 1 := by
  unfold stepS
  split
  · exact Nat.le_trans (tPut_len _ _) (Nat.succ_le_succ (List.length_filter_le _ _))
  · exact tPut_len _ _
theorem stepI_len (kind : Int) (T : List TabT) (l : LatT) : (stepI kind T l).length ≤ T.length + 1 := by
  unfold stepI
  split
  · exact Nat.le_trans (tPut_len _ _) (Nat.succ_le_succ (List.length_filter_le _ _))
  · exact tPut_len _ _
theorem fold_len {f : List TabT → LatT → List TabT} (h : ∀ T l, (f T l).length ≤ T.length + 1) : ∀ (P : List LatT) (T : List TabT), (P.foldl f T).length ≤ T.length + P.length
  | [], T => Nat.le_refl _
  | l :: P, T => by
    have h1 := fold_len h P (f T l)
    have h2 := h T l
    rw [List.foldl_cons, List.length_cons]; omega
theorem fold_snoc (f : List TabT → LatT → List TabT) (P : List LatT) (l : LatT) (T : List TabT) : (P ++ [l]).foldl f T = f (P.foldl f T) l := by rw [List.foldl_append]; rfl
/-! ## Pairs -/
theorem mem_slideF {size step t : Int} {w : WinT} : ∀ (k : Nat) (f : Int), w ∈ slideF size step t k f → w.s ≤ t ∧ t < w.s + size ∧ w.e = w.s + size ∧ ∃ i : Nat, w.s = f + step * (i : Int)
  | 0, f, h => by simp [slideF] at h
  | k + 1, f, h => by
    unfold slideF at h
    split at h
    · rcases List.mem_append.1 h with h | h
      · split at h
        · simp at h; subst h; exact ⟨by assumption, by assumption, rfl, 0, by simp⟩
        · simp at h
      · obtain ⟨h1, h2, h3, i, h4⟩ := mem_slideF k (f + step) h
        exact ⟨h1, h2, h3, i + 1, by rw [h4]; push_cast; rw [Int.mul_add]; omega⟩
    · simp at h
theorem winsL_mem {j : JobT} {t : Int} {w : WinT} (h : w ∈ winsL j t) : w.s ≤ t ∧ t < w.s + j.size ∧ w.e = w.s + j.size ∧ ∃ i : Nat, w.s = winFrom j t + winStep j * (i : Int) := mem_slideF _ _ h
theorem mem_pairsL {j : JobT} {g : Nat → ItmT} {l : LatT} : ∀ {m : Nat}, l ∈ pairsL j g m ↔ ∃ i, i < m ∧ l.itm = g i ∧ l.win ∈ winsL j (g i).t
  | 0 => by simp [pairsL]
  | m + 1 => by
    unfold pairsL
    rw [List.mem_append, mem_pairsL (m := m), List.mem_map]
    constructor
    · rintro (⟨i, h1, h2⟩ | ⟨w, h1, rfl⟩)
      · exact ⟨i, by omega, h2⟩
      · exact ⟨m, by omega, rfl, h1⟩
    · rintro ⟨i, h1, h2, h3⟩
      rcases Nat.lt_succ_iff_lt_or_eq.1 h1 with h1 | rfl
      · exact .inl ⟨i, h1, h2, h3⟩
      · refine .inr ⟨l.win, h3, ?_⟩
        rw [← h2]
theorem recP_v {x : ItmT} (h : RecP x) : -9 ≤ x.v ∧ x.v ≤ 9 := by
  obtain ⟨h1, h2⟩ := h
  unfold ItmOkP at h2
  omega
theorem fine_pairs {j : JobT} {m : Nat} {g : Nat → ItmT} (h : SpcOkP j m g) : Fine (pairsL j g m) := by
  refine ⟨Nat.le_trans (pairsL_len j g m) (by have := h.2.1; omega), fun l hl => ?_⟩
  obtain ⟨i, hi, e, hw⟩ := mem_pairsL.1 hl
  have h1 := winsL_mem hw
  have h2 := h.1.2.2.2.1
  refine ⟨by omega, ?_⟩
  rw [e]
  exact recP_v (h.2.2 i hi)
theorem fine_spc (j : JobT) (m : Nat) (g : Nat → ItmT) : Fine (spcL j m g) := by
  unfold spcL
  split
  · exact fine_pairs (by assumption)
  · exact ⟨by simp, fun l hl => by simp at hl⟩
theorem spcL_len (j : JobT) (m : Nat) (g : Nat → ItmT) : (spcL j m g).length ≤ 12000 := by
  unfold spcL
  split
  · rename_i h
    exact Nat.le_trans (pairsL_len j g m) (by have := h.2.1; omega)
  · simp
/-! ## Rows taken out, one by one -/
theorem outs_step {T T2 : List TabT} {p : TabT → Bool} {s : TabT} (h : T2 = T.filter p) : tOut s.key s.win T2 = T.filter fun r => p r && !decide (IsRow s.key s.win r) := by
  rw [tOut_filter, h, List.filter_filter]
  refine congrArg (fun f => T.filter f) (funext fun r => ?_)
  rw [Bool.and_comm]
theorem outs_all {k : Int} {w : WinT} {T : List TabT} : (T.filter fun r => !(T.any fun s => tchD k w s && decide (IsRow s.key s.win r))) = T.filter fun r => !tchD k w r := by
  refine List.filter_congr fun r hr => ?_
  refine congrArg (!·) (Bool.eq_iff_iff.2 ?_)
  rw [List.any_eq_true]
  constructor
  · rintro ⟨s, _, h⟩
    rw [Bool.and_eq_true, decide_eq_true_eq] at h
    obtain ⟨h1, h2⟩ := h
    unfold tchD at *
    rw [decide_eq_true_eq] at *
    unfold IsRow at h2
    omega
  · intro h
    exact ⟨r, hr, by rw [h]; simp [IsRow]⟩
end Go.Rk
/- Who is punctual is never too late. -/
namespace Go.Rk
set_option linter.unusedSimpArgs false
set_option linter.unusedVariables false
theorem spanL_le {B : Int} : ∀ (l : List RowT) (w : WinT), w.e ≤ B → (∀ r, r ∈ l → r.win.e ≤ B) → (spanL w l).e ≤ B
  | [], _, h, _ => h
  | r :: l, w, h, hr => by
    unfold spanL
    rw [List.foldl_cons]
    refine spanL_le l (winSpan w r.win) ?_ fun q hq => hr q (List.mem_cons_of_mem _ hq)
    have := hr r (by simp)
    unfold winSpan
    simp only
    split <;> omega
theorem win_le {j : JobT} {s : OpStT} (h : OpOkP j s) : ∀ r, r ∈ rowsL s → r.win.e ≤ 120 := by
  intro r hr
  obtain ⟨i, hi, rfl⟩ := List.mem_map.1 hr
  exact (h.2.2.2 i (List.mem_range.1 hi)).1.2.1.2.2
theorem w64_id {n : Int} (h : -9223372036854775808 ≤ n ∧ n ≤ 9223372036854775807) : w64 n = n := IntWalk.i64_in _ (by omega)
theorem into_in {j : JobT} {m k v : Int} {w : WinT} {l : List RowT} (hj : JobOkP j) (hm : m < w.e + j.late) (hw : -1000 ≤ w.e ∧ w.e ≤ 1000) : ∃ q, intoL j m k v w l = some q := by
  unfold JobOkP at hj
  unfold intoL
  have e := w64_id (n := w.e + j.late) (by omega)
  rw [e, if_neg (by omega)]
  exact ⟨_, rfl⟩
theorem sess_in {j : JobT} {m k v : Int} {w : WinT} {l : List RowT} (hj : JobOkP j) (hm : m < w.e + j.late) (hw : -1000 ≤ w.e ∧ w.e ≤ 120) (hl : ∀ r, r ∈ l → r.win.e ≤ 120) : ∃ q, sessL j m k v w l = some q := by
  have hs := (span_in w (oldL k w l) w ⟨Int.le_refl _, Int.le_refl _⟩).2
  have hs2 : (spanL w (oldL k w l)).e ≤ 120 := spanL_le _ _ hw.2 fun r hr => hl r (List.mem_filter.1 hr).1
  have hj' := hj
  unfold JobOkP at hj
  unfold sessL
  have e := w64_id (n := (spanL w (oldL k w l)).e + j.late) (by omega)
  rw [e, if_neg (by omega)]
  split
  · exact into_in hj' (by omega) (by omega)
  · exact ⟨_, rfl⟩
theorem late_rows {j : JobT} {m k v : Int} {w : WinT} {l : List RowT} {q : List RowT × List PaneT} (hj : JobOkP j) (hw : -1000 ≤ w.e ∧ w.e ≤ 120) (hl : ∀ r, r ∈ l → r.win.e ≤ 120) (h : sessL j m k v w l = some q) : ∀ r, r ∈ q.1 → r.win.e ≤ 120 := by
  have hs2 : (spanL w (oldL k w l)).e ≤ 120 := spanL_le _ _ hw.2 fun r hr => hl r (List.mem_filter.1 hr).1
  have ht : ∀ r : RowT, (tellS j m r).1.win = r.win := fun r => by unfold tellS; split <;> rfl
  unfold sessL at h
  split at h
  · cases h
  · split at h
    · unfold intoL at h
      split at h
      · cases h
      · cases h
        intro r hr
        rcases mem_rPut.1 hr with e | ⟨hr, _⟩
        · rw [e, ht]
          show ((rFind k _ l).getD (nrow k _)).win.e ≤ 120
          have := (isR_eq (getD_is (k := k) (w := spanL w (oldL k w l)) (l := l))).2
          rw [this]; exact hs2
        · exact hl r hr
    · cases h
      intro r hr
      rcases mem_rPut.1 hr with e | ⟨hr, _⟩
      · rw [e, ht]; exact hs2
      · exact hl r (List.mem_filter.1 hr).1
theorem takeL_late {j : JobT} {m : Int} {x : ItmT} (hj : JobOkP j) (ht : 0 ≤ x.t ∧ x.t ≤ 60) (hm : m ≤ x.t + j.late) (ws : List WinT) : ∀ (l : List RowT) (a : List PaneT), (∀ w, w ∈ ws → x.t < w.e ∧ w.e ≤ 120) → (j.kind = 3 → ws.length ≤ 1 ∧ ∀ r, r ∈ l → r.win.e ≤ 120) → (ws.foldl (takeS j m x) (l, a, [])).2.2 = [] := by
  induction ws with
  | nil => intro l a _ _; rfl
  | cons w ws ih =>
    intro l a hw hl
    have h1 := hw w (by simp)
    have hb : -1000 ≤ w.e ∧ w.e ≤ 120 := ⟨by omega, h1.2⟩
    have hb2 : -1000 ≤ w.e ∧ w.e ≤ 1000 := ⟨by omega, by omega⟩
    have hmw : m < w.e + j.late := by omega
    obtain ⟨q, hq⟩ : ∃ q, stepT j m x w l = some q := by
      by_cases h3 : j.kind = 3
      · obtain ⟨q, hq⟩ := sess_in (k := x.key) (v := x.v) hj hmw hb (hl h3).2
        exact ⟨q, by unfold stepT; rw [if_pos h3]; exact hq⟩
      · obtain ⟨q, hq⟩ := into_in (k := x.key) (v := x.v) (l := l) hj hmw hb2
        exact ⟨q, by unfold stepT; rw [if_neg h3]; exact hq⟩
    rw [List.foldl_cons, takeS_some (a := (l, a, [])) hq]
    refine ih q.1 _ (fun u hu => hw u (List.mem_cons_of_mem _ hu)) (fun h3 => ⟨?_, fun r hr => ?_⟩)
    · have h2 := (hl h3).1
      simp only [List.length_cons] at h2
      omega
    · have h := hq
      unfold stepT at h
      rw [if_pos h3] at h
      exact late_rows hj hb (hl h3).2 h r hr
/-- FnOpLate in plain words. -/
theorem late_none {j : JobT} {s : OpStT} {x : ItmT} (hok : OpOkP j s) (h : ¬ x.t < w64 (s.mark - j.late)) : (opTakeL j s x).2.2.2 = [] := by
  unfold opTakeL
  split
  · rename_i hc
    have ht := recP_t hc.2.1
    have hj := hok.1
    have hj' := hj
    unfold JobOkP at hj'
    have hm := hok.2.1
    have e := w64_id (n := s.mark - j.late) (by omega)
    rw [e] at h
    refine takeL_late hj ht (by omega) _ _ [] (fun w hw => ?_) (fun h3 => ⟨?_, win_le hok⟩)
    · have := winsL_mem hw
      omega
    · rw [winsL_sess h3 (by omega) ht.1 ht.2]; exact Nat.le_refl _
  · rfl
end Go.Rk
/- How much a step adds. -/
namespace Go.Rk
set_option linter.unusedSimpArgs false
set_option linter.unusedVariables false
theorem slideF_len2 {size step t : Int} (hs : 1 ≤ step) : ∀ (k : Nat) (f : Int), (slideF size step t k f).length ≤ size.toNat ∧ (slideF size step t k f).length ≤ (t - f + 1).toNat
  | 0, f => by unfold slideF; exact ⟨Nat.zero_le _, Nat.zero_le _⟩
  | k + 1, f => by
    have ih := slideF_len2 (size := size) (t := t) hs k (f + step)
    unfold slideF
    split
    · rw [List.length_append]
      split
      · simp only [List.length_singleton]; omega
      · simp only [List.length_nil]; omega
    · exact ⟨Nat.zero_le _, Nat.zero_le _⟩
theorem winsL_len20 {j : JobT} (hj : JobOkP j) (t : Int) : (winsL j t).length ≤ 20 := by
  have hs : 1 ≤ winStep j := by
    unfold JobOkP at hj
    unfold winStep
    split
    · omega
    · split <;> omega
  have h := (slideF_len2 (size := j.size) (t := t) hs 100 (winFrom j t)).1
  unfold JobOkP at hj
  unfold winsL
  omega
theorem opTakeL_rows (j : JobT) (s : OpStT) (x : ItmT) : (opTakeL j s x).2.1.length ≤ s.rows.n + 20 := by
  unfold opTakeL
  split
  · rename_i hc
    have h := (takeL_len (j := j) (m := s.mark) (x := x) (l := rowsL s) (winsL j x.t)).1
    have h2 := winsL_len20 hc.1.1 x.t
    have h3 : (rowsL s).length = s.rows.n := by unfold rowsL; simp
    show (takeL j s.mark x (winsL j x.t) (rowsL s)).1.length ≤ _
    omega
  · exact Nat.zero_le _
end Go.Rk
/- At the end everything is told and closed. -/
namespace Go.Rk
set_option linter.unusedSimpArgs false
set_option linter.unusedVariables false
theorem keep_none {g : Nat → RowT} {d : RowT → Bool} : ∀ {n : Nat}, (∀ i, i < n → d (g i) = true) → keepN g d n = []
  | 0, _ => rfl
  | n + 1, h => by rw [keepN_succ, keep_none (n := n) fun i hi => h i (by omega), if_pos (h n (by omega))]; rfl
theorem tell_cnt {piece : Bool} {m : Int} {g : Nat → RowT} : ∀ {n : Nat}, (∀ i, i < n → (g i).win.e ≤ m) → (tellN piece m g n).length = cntB (fun i => !(g i).timely) n
  | 0, _ => rfl
  | n + 1, h => by
    rw [tellN_succ, List.length_append, tell_cnt (n := n) fun i hi => h i (by omega)]
    have ec : cntB (fun i => !(g i).timely) (n + 1) = cntB (fun i => !(g i).timely) n + (if (!(g n).timely) = true then 1 else 0) := rfl
    rw [ec]
    have h1 := h n (by omega)
    have e : dueB m (g n) = !(g n).timely := by unfold dueB; rw [decide_eq_true h1, Bool.and_true]
    rw [e]
    cases (g n).timely <;> rfl
theorem row_late {j : JobT} {s : OpStT} (hok : OpOkP j s) {i : Nat} (hi : i < s.rows.n) : (s.rows.g i).win.e ≤ 120 ∧ -1 ≤ (s.rows.g i).win.e ∧ w64 ((s.rows.g i).win.e + j.late) ≤ 140 ∧ s.mark < w64 ((s.rows.g i).win.e + j.late) := by
  have h := (hok.2.2.2 i hi).1
  have hw := h.2.1
  have hm := h.2.2.2.2.2.2.2.1
  have hj := hok.1
  unfold JobOkP at hj
  unfold WinOkP at hw
  have e0 := w64_id (n := (s.rows.g i).win.s + 1) (by omega)
  unfold w64 at e0
  rw [e0] at hw
  have e := w64_id (n := (s.rows.g i).win.e + j.late) (by omega)
  rw [e]
  unfold w64 at e
  rw [e] at hm
  omega
/-- The operator at the end: no rows; as many told as were not. -/
theorem mark_end {j : JobT} {s : OpStT} (hok : OpOkP j s) : (opMarkL j s 1000).1 = 1000 ∧ (opMarkL j s 1000).2.1 = [] ∧ (opMarkL j s 1000).2.2.length = cntB (fun i => !(s.rows.g i).timely) s.rows.n := by
  unfold opMarkL
  rw [if_neg (fun h => h ⟨hok, by omega, by omega⟩)]
  have hm := hok.2.1
  split
  · rename_i hle
    have e : s.mark = 1000 := by omega
    have hn : s.rows.n = 0 := by
      cases hc : s.rows.n with
      | zero => rfl
      | succ k =>
        have := row_late hok (i := 0) (by omega)
        omega
    rw [hn]
    exact ⟨e, rfl, rfl⟩
  · refine ⟨rfl, keep_none fun i hi => ?_, tell_cnt fun i hi => ?_⟩
    · have := row_late hok hi
      unfold overB
      rw [markR_win]
      exact decide_eq_true (by omega)
    · have := row_late hok hi
      omega
theorem lates_all {j : JobT} {m : Int} {x : ItmT} : ∀ (ws : List WinT) (a : List PaneT) (c : List LatT), (∀ w, w ∈ ws → stepT j m x w [] = none) → ws.foldl (takeS j m x) ([], a, c) = ([], a, c ++ ws.map fun w => ⟨x, w⟩)
  | [], a, c, _ => by simp
  | w :: ws, a, c, h => by
    rw [List.foldl_cons, takeS_none (a := ([], a, c)) (h w (by simp)), lates_all ws _ _ fun u hu => h u (List.mem_cons_of_mem _ hu)]
    simp
/-- A record behind the end is late in all its windows. -/
theorem take_end {j : JobT} {s : OpStT} {x : ItmT} (hj : JobOkP j) (hm : s.mark = 1000) (hn : s.rows.n = 0) (hx : RecP x) : opTakeL j s x = (1000, [], [], (winsL j x.t).map fun w => ⟨x, w⟩) := by
  have hok : OpOkP j s := ⟨hj, by omega, by omega, fun i hi => by omega⟩
  unfold opTakeL
  rw [if_pos ⟨hok, hx, by omega⟩]
  have e : rowsL s = [] := by unfold rowsL; rw [hn]; rfl
  rw [e, hm]
  unfold takeL
  have ht := recP_t hx
  have hj' := hj
  unfold JobOkP at hj'
  rw [lates_all (winsL j x.t) [] [] fun w hw => ?_]
  · simp
  · have h := winsL_mem hw
    have e2 := w64_id (n := w.e + j.late) (by omega)
    unfold stepT
    split
    · unfold sessL
      have e3 : spanL w (oldL x.key w []) = w := rfl
      rw [e3, e2, if_pos (by omega)]
    · unfold intoL
      rw [e2, if_pos (by omega)]
end Go.Rk
/- The numbers of what was taken are kept. -/
namespace Go.Rk
set_option linter.unusedSimpArgs false
set_option linter.unusedVariables false
def sumN (l : List RowT) : Int := sumI (l.map (·.all.n))
def AllN (B : Int) (l : List RowT) : Prop := ∀ r, r ∈ l → 1 ≤ r.all.n ∧ r.all.n ≤ B
theorem sumN_cons (r : RowT) (l : List RowT) : sumN (r :: l) = r.all.n + sumN l := rfl
theorem sumN_rIns (r : RowT) : ∀ l, sumN (rIns r l) = r.all.n + sumN l
  | [] => rfl
  | q :: l => by
    show sumN (if RA r q then r :: q :: l else q :: rIns r l) = _
    split
    · rfl
    · rw [sumN_cons, sumN_rIns r l, sumN_cons]; omega
theorem sumN_none {k : Int} {w : WinT} {l : List RowT} (h : ∀ q, q ∈ l → ¬ IsR k w q) : rFind k w l = none := by
  unfold rFind
  rw [List.find?_eq_none]
  intro q hq
  simp [h q hq]
/-- Taking out the one row of a window takes its number. -/
theorem sumN_rOut {k : Int} {w : WinT} : ∀ {l : List RowT}, RiseR l → sumN (rOut k w l) + (match rFind k w l with | some r => r.all.n | none => 0) = sumN l
  | [], _ => rfl
  | q :: l, h => by
    rw [RiseR, List.pairwise_cons] at h
    by_cases hq : IsR k w q
    · have hno : ∀ x, x ∈ l → ¬ IsR k w x := fun x hx => ra_ne (h.1 x hx) hq
      have e : rOut k w (q :: l) = l := by
        unfold rOut
        rw [List.filter_cons, if_neg (by simp [hq])]
        exact rOut_none hno
      have e2 : rFind k w (q :: l) = some q := by unfold rFind; rw [List.find?_cons, decide_eq_true hq]
      rw [e, e2, sumN_cons]
      show sumN l + q.all.n = _
      omega
    · have e : rOut k w (q :: l) = q :: rOut k w l := by
        unfold rOut
        rw [List.filter_cons, if_pos (by simp [hq])]
      have e2 : rFind k w (q :: l) = rFind k w l := by unfold rFind; rw [List.find?_cons, decide_eq_false hq]
      rw [e, e2, sumN_cons, sumN_cons, ← sumN_rOut (k := k) (w := w) (l := l) h.2]
      omega
theorem tellS_all (j : JobT) (m : Int) (r : RowT) : (tellS j m r).1.all = r.all ∧ (tellS j m r).1.key = r.key ∧ (tellS j m r).1.win = r.win := by
  unfold tellS
  split <;> exact ⟨rfl, rfl, rfl⟩
theorem add_n {a : AggT} {v : Int} (h : 0 ≤ a.n ∧ a.n ≤ 1000000) : (aggAdd a v).n = a.n + 1 := by
  unfold aggAdd aggB
  by_cases h0 : a.n = 0
  · rw [if_pos h0, h0]; rfl
  · rw [if_neg h0, if_neg (by show ¬ (1 : Int) = 0; omega)]
    exact w64_id (n := a.n + 1) (by omega)
theorem rfind_mem {k : Int} {w : WinT} {l : List RowT} {r : RowT} (h : rFind k w l = some r) : r ∈ l ∧ IsR k w r := by
  unfold rFind at h
  exact ⟨List.mem_of_find?_eq_some h, by simpa using List.find?_some h⟩
theorem into_sum {j : JobT} {m k v : Int} {w : WinT} {l : List RowT} {q : List RowT × List PaneT} {B : Int} (hr : RiseR l) (hB : 0 ≤ B ∧ B ≤ 900000) (hA : AllN B l) (he : intoL j m k v w l = some q) : sumN q.1 = sumN l + 1 ∧ AllN (B + 1) q.1 := by
  unfold intoL at he
  split at he
  · cases he
  · cases he
    obtain ⟨r0, hr0⟩ : ∃ r0, r0 = (rFind k w l).getD (nrow k w) := ⟨_, rfl⟩
    rw [← hr0]
    have hk : IsR k w r0 := by rw [hr0]; exact getD_is
    obtain ⟨t1, t2, t3⟩ := tellS_all j m (addR r0 v)
    have ek : (tellS j m (addR r0 v)).1.key = k := t2.trans (isR_eq hk).1
    have ew : (tellS j m (addR r0 v)).1.win = w := t3.trans (isR_eq hk).2
    have hb0 : 0 ≤ r0.all.n ∧ r0.all.n ≤ B := by
      rw [hr0]
      cases hf : rFind k w l with
      | none => exact ⟨Int.le_refl _, hB.1⟩
      | some r => have := hA r (rfind_mem hf).1; exact ⟨by show 0 ≤ r.all.n; omega, this.2⟩
    have hn : (tellS j m (addR r0 v)).1.all.n = r0.all.n + 1 := by
      rw [t1]
      exact add_n (a := r0.all) (by omega)
    have hs := sumN_rOut (k := k) (w := w) hr
    constructor
    · show sumN (rPut (tellS j m (addR r0 v)).1 l) = _
      unfold rPut
      rw [sumN_rIns, hn, ek, ew]
      cases hf : rFind k w l with
      | none => rw [hf] at hs hr0; rw [hr0]; have h : sumN (rOut k w l) + 0 = sumN l := hs; show (0 : Int) + 1 + _ = _; omega
      | some r => rw [hf] at hs hr0; rw [hr0]; have h : sumN (rOut k w l) + r.all.n = sumN l := hs; show r.all.n + 1 + _ = _; omega
    · intro r h
      rcases mem_rPut.1 h with e | ⟨h, _⟩
      · rw [e, hn]; omega
      · have := hA r h; omega
theorem fold_n : ∀ (L : List AggT) (a : AggT) (B : Int), 1 ≤ a.n → B ≤ 1000000 → (∀ b, b ∈ L → 1 ≤ b.n ∧ b.n ≤ B) → a.n + B * (L.length : Int) ≤ 1000000000000 → (L.foldl aggB a).n = a.n + sumI (L.map (·.n))
  | [], a, _, _, _, _, _ => by show a.n = a.n + 0; omega
  | b :: L, a, B, h1, hB, hb, hl => by
    have hb0 := hb b (by simp)
    have hlen : B * (L.length : Int) + B ≤ 1000000000000 - a.n := by
      have e : B * (((b :: L).length : Nat) : Int) = B * (L.length : Int) + B := by
        rw [List.length_cons]
        have : ((L.length + 1 : Nat) : Int) = (L.length : Int) + 1 := rfl
        rw [this, Int.mul_add, Int.mul_one]
      omega
    have hp : 0 ≤ B * (L.length : Int) := Int.mul_nonneg (by omega) (Int.natCast_nonneg _)
    have hn : (aggB a b).n = a.n + b.n := by
      unfold aggB
      rw [if_neg (by omega), if_neg (by omega)]
      exact w64_id (n := a.n + b.n) (by omega)
    rw [List.foldl_cons, fold_n L (aggB a b) B (by omega) hB (fun c hc => hb c (List.mem_cons_of_mem _ hc)) (by rw [hn]; omega), hn]
    show _ = a.n + (b.n + sumI (L.map (·.n)))
    omega
theorem sumN_split (k : Int) (w : WinT) : ∀ l, sumN (oldL k w l) + sumN (restL k w l) = sumN l
  | [] => rfl
  | r :: l => by
    have ih := sumN_split k w l
    unfold oldL restL at *
    rw [List.filter_cons, List.filter_cons]
    cases h : tchR k w r
    · simp only [Bool.not_false, if_true, Bool.false_eq_true, if_false, sumN_cons]; omega
    · simp only [Bool.not_true, if_true, Bool.false_eq_true, if_false, sumN_cons]; omega
end Go.Rk
/- What was taken is counted in a row, or told too late. -/
namespace Go.Rk
set_option linter.unusedSimpArgs false
set_option linter.unusedVariables false
theorem sess_sum {j : JobT} {m k v : Int} {w : WinT} {l : List RowT} {q : List RowT × List PaneT} {B : Int} (hr : RiseR l) (hB : 0 ≤ B ∧ B ≤ 900000) (hl : l.length ≤ 1000) (hA : AllN B l) (hw : w.s < w.e) (he : sessL j m k v w l = some q) : sumN q.1 = sumN l + 1 := by
  unfold sessL at he
  split at he
  · cases he
  · split at he
    · exact (into_sum hr hB hA he).1
    · cases he
      obtain ⟨a0, ha0⟩ : ∃ a0 : AggT, a0 = ((oldL k w l).map (·.all)).foldl aggB (agg1 v) := ⟨_, rfl⟩
      rw [← ha0]
      obtain ⟨r0, hr0⟩ : ∃ r0 : RowT, r0 = ⟨k, spanL w (oldL k w l), a0, a0, 0, false⟩ := ⟨_, rfl⟩
      rw [← hr0]
      obtain ⟨t1, t2, t3⟩ := tellS_all j m r0
      have hlen : (oldL k w l).length ≤ 1000 := Nat.le_trans (oldL_len k w l) hl
      have hn : a0.n = 1 + sumN (oldL k w l) := by
        rw [ha0]
        have h := fold_n ((oldL k w l).map (·.all)) (agg1 v) B (by show (1 : Int) ≤ 1; decide) (by omega) (fun b hb => by
          obtain ⟨r, hr, rfl⟩ := List.mem_map.1 hb
          exact hA r (List.mem_filter.1 hr).1) (by
            rw [List.length_map]
            have h1 : B * ((oldL k w l).length : Int) ≤ B * 1000 := Int.mul_le_mul_of_nonneg_left (by omega) hB.1
            show (1 : Int) + _ ≤ _
            omega)
        rw [h, List.map_map]
        rfl
      have hk : (tellS j m r0).1.key = k := by rw [t2, hr0]
      have hw2 : (tellS j m r0).1.win = spanL w (oldL k w l) := by rw [t3, hr0]
      show sumN (rPut (tellS j m r0).1 (restL k w l)) = _
      unfold rPut
      rw [sumN_rIns, t1, hk, hw2, rOut_none fun q hq => rest_no hw hq, ← sumN_split k w l]
      have e : r0.all.n = a0.n := by rw [hr0]
      rw [e, hn]
      omega
theorem takeW_sum {j : JobT} {m : Int} {x : ItmT} (hk : ¬ j.kind = 3) : ∀ (ws : List WinT) (l : List RowT) (a : List PaneT) (c : List LatT) (B : Int), RiseR l → 0 ≤ B → B + (ws.length : Int) ≤ 900000 → AllN B l →
    sumN (ws.foldl (takeS j m x) (l, a, c)).1 + ((ws.foldl (takeS j m x) (l, a, c)).2.2.length : Int) = sumN l + (ws.length : Int) + (c.length : Int) := by
  intro ws
  induction ws with
  | nil => intro l a c B _ _ _ _; show sumN l + (c.length : Int) = sumN l + 0 + (c.length : Int); omega
  | cons w ws ih =>
    intro l a c B hr hB hl hA
    have hl1 : B + (ws.length : Int) + 1 ≤ 900000 := by
      have : ((w :: ws).length : Int) = (ws.length : Int) + 1 := rfl
      omega
    have hg : ((w :: ws).length : Int) = (ws.length : Int) + 1 := rfl
    rw [List.foldl_cons]
    cases hq : stepT j m x w l with
    | none =>
      rw [takeS_none (a := (l, a, c)) hq]
      dsimp only
      rw [ih l a (c ++ [(⟨x, w⟩ : LatT)]) B hr hB (by omega) hA, List.length_append, hg]
      show sumN l + (ws.length : Int) + ((c.length + 1 : Nat) : Int) = _
      omega
    | some q =>
      rw [takeS_some (a := (l, a, c)) hq]
      dsimp only
      have he := hq
      unfold stepT at he
      rw [if_neg hk] at he
      obtain ⟨h1, h2⟩ := into_sum hr ⟨hB, by omega⟩ hA he
      rw [ih q.1 (a ++ q.2) c (B + 1) (rise_into hr he) (by omega) (by omega) h2, h1, hg]
      omega
/-- The records of rows and of what came too late are as many as they were, and one for each window. -/
theorem take_sum {j : JobT} {s : OpStT} {x : ItmT} (hok : OpOkP j s) (hx : RecP x) (h280 : s.rows.n ≤ 280) : sumN (opTakeL j s x).2.1 + ((opTakeL j s x).2.2.2.length : Int) = sumN (rowsL s) + ((winsL j x.t).length : Int) := by
  unfold opTakeL
  rw [if_pos ⟨hok, hx, h280⟩]
  show sumN (takeL j s.mark x (winsL j x.t) (rowsL s)).1 + ((takeL j s.mark x (winsL j x.t) (rowsL s)).2.2.length : Int) = _
  have hr := rise_ok hok
  have hA : AllN 1000 (rowsL s) := all_ok hok
  unfold takeL
  by_cases hk : j.kind = 3
  · have ht := recP_t hx
    have hj := hok.1
    unfold JobOkP at hj
    rw [winsL_sess hk (by omega) ht.1 ht.2]
    rw [List.foldl_cons, List.foldl_nil]
    cases hq : stepT j s.mark x ⟨x.t, x.t + j.size⟩ (rowsL s) with
    | none => rw [takeS_none (a := (rowsL s, [], [])) hq]; rfl
    | some q =>
      rw [takeS_some (a := (rowsL s, [], [])) hq]
      have he := hq
      unfold stepT at he
      rw [if_pos hk] at he
      have hlen : (rowsL s).length ≤ 1000 := by unfold rowsL; simp; omega
      have h := sess_sum hr (B := 1000) (by omega) hlen hA (by show x.t < x.t + j.size; omega) he
      show sumN q.1 + 0 = sumN (rowsL s) + 1
      omega
  · have h := takeW_sum hk (m := s.mark) (x := x) (winsL j x.t) (rowsL s) [] [] 1000 hr (by omega) (by have := winsL_len j x.t; omega) hA
    rw [h]
    show _ + 0 = _
    omega
end Go.Rk
/- What came too late is the record; where all of it did, nothing changes. -/
namespace Go.Rk
set_option linter.unusedSimpArgs false
set_option linter.unusedVariables false
theorem takeS_late {j : JobT} {m : Int} {x : ItmT} (ws : List WinT) : ∀ (l : List RowT) (a : List PaneT) (c : List LatT) (t : LatT), t ∈ (ws.foldl (takeS j m x) (l, a, c)).2.2 → t ∈ c ∨ (t.itm = x ∧ t.win ∈ ws ∧ (j.kind ≠ 3 → w64 (t.win.e + j.late) ≤ m)) := by
  induction ws with
  | nil => intro l a c t h; exact .inl h
  | cons w ws ih =>
    intro l a c t h
    rw [List.foldl_cons] at h
    cases hq : stepT j m x w l with
    | none =>
      rw [takeS_none (a := (l, a, c)) hq] at h
      dsimp only at h
      rcases ih _ _ _ _ h with h | ⟨h1, h2, h3⟩
      · rcases List.mem_append.1 h with h | h
        · exact .inl h
        · have e := List.mem_singleton.1 h
          subst e
          refine .inr ⟨rfl, by simp, fun hk => ?_⟩
          unfold stepT intoL at hq
          rw [if_neg hk] at hq
          by_cases hh : w64 (w.e + j.late) ≤ m
          · exact hh
          · rw [if_neg hh] at hq; cases hq
      · exact .inr ⟨h1, List.mem_cons_of_mem _ h2, h3⟩
    | some q =>
      rw [takeS_some (a := (l, a, c)) hq] at h
      dsimp only at h
      rcases ih _ _ _ _ h with h | ⟨h1, h2, h3⟩
      · exact .inl h
      · exact .inr ⟨h1, List.mem_cons_of_mem _ h2, h3⟩
theorem takeS_all {j : JobT} {m : Int} {x : ItmT} (ws : List WinT) : ∀ (l : List RowT) (a : List PaneT) (c : List LatT), (ws.foldl (takeS j m x) (l, a, c)).2.2.length ≤ c.length + ws.length ∧
    (c.length + ws.length ≤ (ws.foldl (takeS j m x) (l, a, c)).2.2.length → (ws.foldl (takeS j m x) (l, a, c)).1 = l ∧ (ws.foldl (takeS j m x) (l, a, c)).2.1 = a) := by
  induction ws with
  | nil => intro l a c; exact ⟨Nat.le_refl _, fun _ => ⟨rfl, rfl⟩⟩
  | cons w ws ih =>
    intro l a c
    rw [List.foldl_cons]
    cases hq : stepT j m x w l with
    | none =>
      rw [takeS_none (a := (l, a, c)) hq]
      dsimp only
      have h := ih l a (c ++ [(⟨x, w⟩ : LatT)])
      rw [List.length_append] at h
      simp only [List.length_cons, List.length_nil] at h ⊢
      exact ⟨by omega, fun h2 => h.2 (by omega)⟩
    | some q =>
      rw [takeS_some (a := (l, a, c)) hq]
      dsimp only
      have h := ih q.1 (a ++ q.2) c
      simp only [List.length_cons]
      exact ⟨by omega, fun h2 => by omega⟩
/-- FnOpTake in plain words. -/
theorem take_lates {j : JobT} {s : OpStT} {x : ItmT} {t : LatT} (h : t ∈ (opTakeL j s x).2.2.2) : OpOkP j s ∧ RecP x ∧ t.itm = x ∧ t.win ∈ winsL j x.t ∧ (j.kind ≠ 3 → w64 (t.win.e + j.late) ≤ s.mark) := by
  unfold opTakeL at h
  split at h
  · rename_i hc
    rcases takeS_late _ _ _ _ _ h with h | h
    · cases h
    · exact ⟨hc.1, hc.2.1, h⟩
  · cases h
theorem take_same {j : JobT} {s : OpStT} {x : ItmT} (hok : OpOkP j s) (hx : RecP x) (h280 : s.rows.n ≤ 280) (h : (winsL j x.t).length ≤ (opTakeL j s x).2.2.2.length) : (opTakeL j s x).1 = s.mark ∧ (opTakeL j s x).2.1 = rowsL s ∧ (opTakeL j s x).2.2.1 = [] := by
  unfold opTakeL at *
  rw [if_pos ⟨hok, hx, h280⟩] at *
  exact ⟨rfl, (takeS_all (winsL j x.t) (rowsL s) [] []).2 (by rw [List.length_nil, Nat.zero_add]; exact h)⟩
end Go.Rk
/- Sums that wrap; an operator where all came too late. -/
namespace Go.Rk
set_option linter.unusedSimpArgs false
set_option linter.unusedVariables false
theorem w64_add (a b : Int) : IntKind.i64.wrap (IntKind.i64.wrap a + b) = IntKind.i64.wrap (a + b) := by
  rw [IntKind.wrap_i64, IntKind.wrap_i64, IntKind.wrap_i64]; omega
theorem w64_sub (a b : Int) : IntKind.i64.wrap (IntKind.i64.wrap a - b) = IntKind.i64.wrap (a - b) := by
  rw [IntKind.wrap_i64, IntKind.wrap_i64, IntKind.wrap_i64]; omega
def preN (g : Nat → RowT) (i : Nat) : Int := sumN ((List.range i).map g)
theorem preN_succ (g : Nat → RowT) (i : Nat) : preN g (i + 1) = preN g i + (g i).all.n := by
  unfold preN sumN
  rw [List.range_succ, List.map_append, List.map_append, sumI_app]
  show _ + ((g i).all.n + 0) = _
  omega
theorem preN_lst {l : List RowT} {k : Nat} {G : Nat → RowT} (h : Lst zRow l k G) : preN G k = sumN l := by
  unfold preN
  congr 1
  apply List.ext_getElem?
  intro i
  by_cases hi : i < k
  · rw [List.getElem?_map, List.getElem?_range hi]
    have h2 : i < l.length := by rw [← h.1]; exact hi
    have := h.2 i hi
    rw [Option.map_some, this, List.getD_eq_getElem?_getD, List.getElem?_eq_getElem h2]
    rfl
  · rw [List.getElem?_eq_none (by simp; omega), List.getElem?_eq_none (by rw [← h.1]; omega)]
theorem sum_zero {nw d : Nat} {a b : Int} (h : b + (d : Int) = a + (nw : Int)) : (nw : Int) - (d : Int) + a - b = 0 := by omega
theorem pre_add (a : Int) (g : Nat → RowT) : IntKind.i64.wrap a = IntKind.i64.wrap (a + preN g 0) := by
  show _ = IntKind.i64.wrap (a + 0)
  rw [Int.add_zero]
theorem pre_sub (a : Int) (g : Nat → RowT) : IntKind.i64.wrap a = IntKind.i64.wrap (a - preN g 0) := by
  show _ = IntKind.i64.wrap (a - 0)
  rw [Int.sub_zero]
/-- What is answered, told by numbers, for FnOpTake. -/
theorem take_told (j : JobT) (s : OpStT) (m : ItmT) (x : Int × List RowT × List PaneT × List LatT) (hx : x = opTakeL j s m) (hs : s.rows.n ≤ 280) : ∃ (k : Nat) (G : Nat → RowT) (c : Nat) (P : Nat → PaneT) (d : Nat) (W : Nat → WinT),
    Lst zRow x.2.1 k G ∧ Lst zPan x.2.2.1 c P ∧ Lst zLat x.2.2.2 d (fun i => ⟨m, W i⟩) ∧ k ≤ 400 ∧ c ≤ 40000 ∧ d ≤ 100 ∧
    (¬ (OpOkP j s ∧ RecP m) → x.1 = 0 ∧ k = 0) ∧
    (OpOkP j s → RecP m → preN G k + (d : Int) = preN s.rows.g s.rows.n + ((winsL j m.t).length : Int)) ∧
    (∀ i, i < d → j.kind ≠ 3 → w64 ((W i).e + j.late) ≤ s.mark) ∧
    (OpOkP j s → RecP m → (winsL j m.t).length ≤ d → x.1 = s.mark ∧ k = s.rows.n ∧ G = s.rows.g ∧ c = 0) := by
  have hlen := opTakeL_len j s m
  rw [← hx] at hlen
  obtain ⟨d, Q, hQ⟩ := lst_ex zLat x.2.2.2
  have hW : ∀ i, i < d → (Q i).itm = m ∧ (j.kind ≠ 3 → w64 ((Q i).win.e + j.late) ≤ s.mark) := fun i hi => by
    have hil : i < x.2.2.2.length := by rw [← hQ.1]; exact hi
    have hmem : Q i ∈ x.2.2.2 := by
      rw [hQ.2 i hi, List.getD_eq_getElem?_getD, List.getElem?_eq_getElem hil]
      exact List.getElem_mem hil
    rw [hx] at hmem
    have h := take_lates hmem
    exact ⟨h.2.2.1, h.2.2.2.2⟩
  have hQ' : Lst zLat x.2.2.2 d (fun i => ⟨m, (Q i).win⟩) := ⟨hQ.1, fun i hi => by
    rw [← hQ.2 i hi, ← (hW i hi).1]⟩
  obtain ⟨k, G, c, P, hG, hP, hall⟩ : ∃ (k : Nat) (G : Nat → RowT) (c : Nat) (P : Nat → PaneT), Lst zRow x.2.1 k G ∧ Lst zPan x.2.2.1 c P ∧ (OpOkP j s → RecP m → (winsL j m.t).length ≤ d → x.1 = s.mark ∧ k = s.rows.n ∧ G = s.rows.g ∧ c = 0) := by
    by_cases h : OpOkP j s ∧ RecP m ∧ (winsL j m.t).length ≤ d
    · have h1 := take_same h.1 h.2.1 hs (by rw [← hx, ← hQ.1]; exact h.2.2)
      rw [← hx] at h1
      refine ⟨s.rows.n, s.rows.g, 0, fun _ => zPan, ?_, ?_, fun _ _ _ => ⟨h1.1, rfl, rfl, rfl⟩⟩
      · rw [h1.2.1]; exact lst_of zRow s.rows.n s.rows.g
      · rw [h1.2.2]; exact ⟨rfl, fun i hi => absurd hi (Nat.not_lt_zero i)⟩
    · obtain ⟨k, G, hG⟩ := lst_ex zRow x.2.1
      obtain ⟨c, P, hP⟩ := lst_ex zPan x.2.2.1
      exact ⟨k, G, c, P, hG, hP, fun a b c => absurd ⟨a, b, c⟩ h⟩
  refine ⟨k, G, c, P, d, fun i => (Q i).win, hG, hP, hQ', by rw [hG.1]; exact hlen.1, by rw [hP.1]; exact hlen.2.1, by rw [hQ.1]; exact hlen.2.2, fun hn => ?_, fun hok hr => ?_, fun i hi => (hW i hi).2, hall⟩
  · have e : x = (0, [], [], []) := by rw [hx]; unfold opTakeL; rw [if_neg (fun h => hn ⟨h.1, h.2.1⟩)]
    exact ⟨by rw [e], by rw [hG.1, e]; rfl⟩
  · have h := take_sum hok hr hs
    rw [← hx] at h
    rw [preN_lst hG, hQ.1, h]
    rfl
end Go.Rk
/- Operators that are ok, by lists; a record leaves them so. -/
namespace Go.Rk
set_option linter.unusedSimpArgs false
set_option linter.unusedVariables false
def OkL (j : JobT) (m : Int) (l : List RowT) : Prop :=
  (∀ r, r ∈ l → RowOkP j r m) ∧ RiseR l ∧ (j.kind = 3 → l.Pairwise fun a b => ¬ (a.key = b.key ∧ TouchP a.win b.win))
theorem okL_of {j : JobT} {s : OpStT} (h : OpOkP j s) : OkL j s.mark (rowsL s) := by
  refine ⟨fun r hr => ?_, rise_ok h, fun h3 => ?_⟩
  · obtain ⟨i, hi, rfl⟩ := List.mem_map.1 hr
    exact (h.2.2.2 i (List.mem_range.1 hi)).1
  · unfold rowsL
    rw [List.pairwise_map]
    refine List.Pairwise.imp_of_mem ?_ List.pairwise_lt_range
    intro a b ha hb hab
    exact (h.2.2.2 b (List.mem_range.1 hb)).2.2 h3 a hab
theorem pw_at {α : Type} {z : α} {R : α → α → Prop} {l : List α} {n : Nat} {G : Nat → α} (hL : Lst z l n G) (hp : l.Pairwise R) {a b : Nat} (hab : a < b) (hb : b < n) : R (G a) (G b) := by
  obtain ⟨h1, e1⟩ := List.getElem?_eq_some_iff.1 (lst_at hL (show a < n by omega))
  obtain ⟨h2, e2⟩ := List.getElem?_eq_some_iff.1 (lst_at hL hb)
  have := List.pairwise_iff_getElem.1 hp a b h1 h2 hab
  rw [e1, e2] at this
  exact this
theorem lst_in {α : Type} {z : α} {l : List α} {n : Nat} {G : Nat → α} (hL : Lst z l n G) {a : Nat} (h : a < n) : G a ∈ l := List.mem_of_getElem? (lst_at hL h)
theorem ok_of {j : JobT} {mk : Int} {l : List RowT} {n : Nat} {G : Nat → RowT} (hL : Lst zRow l n G) (hn : n ≤ maxLen) (hj : JobOkP j) (hm : 0 ≤ mk ∧ mk ≤ 1000) (hl : n ≤ 300) (h : OkL j mk l) : OpOkP j ⟨mk, ⟨n, G, hn⟩⟩ := by
  refine ⟨hj, hm, hl, fun i hi => ⟨h.1 _ (lst_in hL hi), fun h0 => ?_, fun h3 k hk => ?_⟩⟩
  · exact rise_at hL h.2.1 (show i - 1 < i by omega) hi
  · exact pw_at hL (h.2.2 h3) hk hi
theorem rowsL_lst {mk : Int} {l : List RowT} {n : Nat} {G : Nat → RowT} (hL : Lst zRow l n G) (hn : n ≤ maxLen) : rowsL ⟨mk, ⟨n, G, hn⟩⟩ = l := (lst_eq hL).symm
theorem mul_bd {n l : Int} (hn : 1 ≤ n ∧ n ≤ 1000) (hl : -9 ≤ l ∧ l ≤ 9) : -9000 ≤ n * l ∧ n * l ≤ 9000 := by
  have h1 : n * l ≤ n * 9 := Int.mul_le_mul_of_nonneg_left hl.2 (by omega)
  have h2 : n * (-9) ≤ n * l := Int.mul_le_mul_of_nonneg_left hl.1 (by omega)
  omega
theorem wrap_mul {n l : Int} (hn : 1 ≤ n ∧ n ≤ 1000) (hl : -9 ≤ l ∧ l ≤ 9) : IntKind.i64.wrap (n * l) = n * l := by
  have := mul_bd hn hl
  exact IntWalk.i64_in _ (by omega)
theorem aggOk_z : AggOkP zAgg := .inl ⟨rfl, rfl, rfl, rfl⟩
theorem aggOk_n {a : AggT} (h : AggOkP a) : 0 ≤ a.n ∧ a.n ≤ 1000 := by unfold AggOkP at h; omega
theorem aggOk_zero {a : AggT} (h : AggOkP a) (h0 : a.n = 0) : a = zAgg := by
  rcases h with ⟨h1, h2, h3, h4⟩ | ⟨h1, _⟩
  · cases a; simp_all [zAgg]
  · exact absurd h0 h1
theorem aggB_nn {a b : AggT} (ha : 0 ≤ a.n ∧ a.n ≤ 1000000000) (hb : 0 ≤ b.n ∧ b.n ≤ 1000000000) : (aggB a b).n = a.n + b.n := by
  unfold aggB
  by_cases h : a.n = 0
  · rw [if_pos h]; omega
  · rw [if_neg h]
    by_cases h2 : b.n = 0
    · rw [if_pos h2]; omega
    · rw [if_neg h2]
      exact w64_id (n := a.n + b.n) (by omega)
theorem aggOk_both {a b : AggT} (ha : AggOkP a) (hb : AggOkP b) (hn : a.n + b.n ≤ 1000) : AggOkP (aggB a b) := by
  unfold aggB
  by_cases h : a.n = 0
  · rw [if_pos h]; exact hb
  · rw [if_neg h]
    by_cases h2 : b.n = 0
    · rw [if_pos h2]; exact ha
    · rw [if_neg h2]
      rcases ha with ⟨h1, _⟩ | ⟨_, a1, a2, a3, a4⟩
      · exact absurd h1 h
      rcases hb with ⟨h1, _⟩ | ⟨_, b1, b2, b3, b4⟩
      · exact absurd h1 h2
      rw [wrap_mul a1 a2, wrap_mul a1 (show -9 ≤ a.most ∧ a.most ≤ 9 by omega)] at a4
      rw [wrap_mul b1 b2, wrap_mul b1 (show -9 ≤ b.most ∧ b.most ≤ 9 by omega)] at b4
      have am := mul_bd a1 a2
      have am2 := mul_bd a1 (show -9 ≤ a.most ∧ a.most ≤ 9 by omega)
      have bm := mul_bd b1 b2
      have bm2 := mul_bd b1 (show -9 ≤ b.most ∧ b.most ≤ 9 by omega)
      have en : w64 (a.n + b.n) = a.n + b.n := w64_id (by omega)
      have es : w64 (a.sum + b.sum) = a.sum + b.sum := w64_id (by omega)
      obtain ⟨lo, hlo⟩ : ∃ x, x = (if b.least < a.least then b.least else a.least) := ⟨_, rfl⟩
      obtain ⟨hi, hhi⟩ : ∃ x, x = (if a.most < b.most then b.most else a.most) := ⟨_, rfl⟩
      have l1 : lo ≤ a.least ∧ lo ≤ b.least ∧ -9 ≤ lo ∧ lo ≤ 9 := by rw [hlo]; split <;> omega
      have l2 : a.most ≤ hi ∧ b.most ≤ hi ∧ -9 ≤ hi ∧ hi ≤ 9 := by rw [hhi]; split <;> omega
      have c1 : a.n * lo ≤ a.n * a.least := Int.mul_le_mul_of_nonneg_left l1.1 (by omega)
      have c2 : b.n * lo ≤ b.n * b.least := Int.mul_le_mul_of_nonneg_left l1.2.1 (by omega)
      have c3 : a.n * a.most ≤ a.n * hi := Int.mul_le_mul_of_nonneg_left l2.1 (by omega)
      have c4 : b.n * b.most ≤ b.n * hi := Int.mul_le_mul_of_nonneg_left l2.2.1 (by omega)
      have e1 : (a.n + b.n) * lo = a.n * lo + b.n * lo := Int.add_mul _ _ _
      have e2 : (a.n + b.n) * hi = a.n * hi + b.n * hi := Int.add_mul _ _ _
      rw [← hlo, ← hhi]
      refine .inr ⟨?_, ?_, ?_, ?_, ?_⟩
      · show w64 (a.n + b.n) ≠ 0
        rw [en]; omega
      · show 1 ≤ w64 (a.n + b.n) ∧ w64 (a.n + b.n) ≤ 1000
        rw [en]; omega
      · exact ⟨l1.2.2.1, l1.2.2.2⟩
      · show lo ≤ hi ∧ hi ≤ 9
        omega
      · show IntKind.i64.wrap (w64 (a.n + b.n) * lo) ≤ w64 (a.sum + b.sum) ∧ w64 (a.sum + b.sum) ≤ IntKind.i64.wrap (w64 (a.n + b.n) * hi)
        rw [en, es, wrap_mul (show 1 ≤ a.n + b.n ∧ a.n + b.n ≤ 1000 by omega) ⟨l1.2.2.1, l1.2.2.2⟩, wrap_mul (show 1 ≤ a.n + b.n ∧ a.n + b.n ≤ 1000 by omega) ⟨l2.2.2.1, l2.2.2.2⟩, e1, e2]
        omega
theorem aggOk_one {v : Int} (h : -9 ≤ v ∧ v ≤ 9) : AggOkP (agg1 v) := by
  refine .inr ⟨by show (1 : Int) ≠ 0; decide, by show (1 : Int) ≤ 1 ∧ (1 : Int) ≤ 1000; decide, h, by show v ≤ v ∧ v ≤ 9; omega, ?_⟩
  show IntKind.i64.wrap (1 * v) ≤ v ∧ v ≤ IntKind.i64.wrap (1 * v)
  rw [Int.one_mul, IntWalk.i64_in _ (by omega)]
  exact ⟨Int.le_refl _, Int.le_refl _⟩
theorem aggOk_add {a : AggT} {v : Int} (ha : AggOkP a) (hv : -9 ≤ v ∧ v ≤ 9) (hn : a.n ≤ 999) : AggOkP (aggAdd a v) := aggOk_both ha (aggOk_one hv) (by show a.n + 1 ≤ 1000; omega)
theorem aggOk_fold : ∀ (L : List AggT) (a : AggT), AggOkP a → (∀ b, b ∈ L → AggOkP b) → a.n + sumI (L.map (·.n)) ≤ 1000 → AggOkP (L.foldl aggB a) ∧ (L.foldl aggB a).n = a.n + sumI (L.map (·.n))
  | [], a, ha, _, _ => ⟨ha, by show a.n = a.n + 0; omega⟩
  | b :: L, a, ha, hb, hn => by
    have hb0 := hb b (by simp)
    have e : sumI ((b :: L).map (·.n)) = b.n + sumI (L.map (·.n)) := rfl
    have hp : 0 ≤ sumI (L.map (·.n)) := by
      have : ∀ M : List AggT, (∀ b, b ∈ M → AggOkP b) → 0 ≤ sumI (M.map (·.n)) := by
        intro M
        induction M with
        | nil => intro _; exact Int.le_refl _
        | cons x M ih =>
          intro h
          have h1 := aggOk_n (h x (by simp))
          have h2 := ih fun y hy => h y (List.mem_cons_of_mem _ hy)
          show 0 ≤ x.n + sumI (M.map (·.n))
          omega
      exact this L fun y hy => hb y (List.mem_cons_of_mem _ hy)
    have h1 := aggOk_n ha
    have h2 := aggOk_n hb0
    rw [e] at hn ⊢
    have en := aggB_nn (a := a) (b := b) (by omega) (by omega)
    have := aggOk_fold L (aggB a b) (aggOk_both ha hb0 (by omega)) (fun c hc => hb c (List.mem_cons_of_mem _ hc)) (by rw [en]; omega)
    rw [List.foldl_cons]
    refine ⟨this.1, ?_⟩
    rw [this.2, en]; omega
end Go.Rk
/- A record leaves an operator ok, and tells panes that are. -/
namespace Go.Rk
set_option linter.unusedSimpArgs false
set_option linter.unusedVariables false
theorem winFrom_nn {j : JobT} (hj : JobOkP j) {t : Int} (h0 : 0 ≤ t) : 0 ≤ winFrom j t ∧ 1 ≤ winStep j := by
  unfold JobOkP at hj
  unfold winFrom winStep
  have c : t.tmod j.size ≤ t := by
    rw [Int.tmod_eq_emod_of_nonneg h0]
    have := Int.emod_add_mul_ediv t j.size
    have := Int.mul_nonneg (show 0 ≤ j.size by omega) (Int.ediv_nonneg h0 (show 0 ≤ j.size by omega))
    omega
  refine ⟨?_, ?_⟩ <;> split <;> (try split) <;> omega
theorem winOk_of {w : WinT} (h : 0 ≤ w.s ∧ w.s ≤ 60 ∧ w.s < w.e ∧ w.e ≤ 120) : WinOkP w := by
  unfold WinOkP
  rw [IntWalk.i64_in _ (by omega)]
  omega
theorem winOk_d {w : WinT} (h : WinOkP w) : 0 ≤ w.s ∧ w.s ≤ 60 ∧ w.s < w.e ∧ w.e ≤ 120 := by
  unfold WinOkP at h
  rw [IntWalk.i64_in _ (by omega)] at h
  omega
theorem winsL_ok {j : JobT} (hj : JobOkP j) {t : Int} (ht : 0 ≤ t ∧ t ≤ 60) {w : WinT} (hw : w ∈ winsL j t) : WinOkP w := by
  obtain ⟨h1, h2, h3, i, h4⟩ := winsL_mem hw
  have hp := winFrom_nn hj ht.1
  have := Int.mul_nonneg (show 0 ≤ winStep j by omega) (Int.natCast_nonneg i)
  unfold JobOkP at hj
  exact winOk_of ⟨by omega, by omega, by omega, by omega⟩
theorem slide_one {size step t : Int} (hs : 1 ≤ step) : ∀ (k : Nat) (f : Int), (f ≤ t → ((slideF size step t k f).length : Int) * step ≤ t - f + step) ∧ (t < f → (slideF size step t k f).length = 0)
  | 0, f => ⟨fun h => by show (0 : Int) * step ≤ _; rw [Int.zero_mul]; omega, fun _ => rfl⟩
  | k + 1, f => by
    obtain ⟨i1, i2⟩ := slide_one (size := size) (t := t) hs k (f + step)
    refine ⟨fun h => ?_, fun h => ?_⟩
    · unfold slideF
      rw [if_pos h, List.length_append, Int.natCast_add, Int.add_mul]
      have h1 : (((if t < f + size then [(⟨f, f + size⟩ : WinT)] else []).length : Nat) : Int) * step ≤ step := by
        split
        · show (1 : Int) * step ≤ step
          rw [Int.one_mul]; exact Int.le_refl _
        · show (0 : Int) * step ≤ step
          rw [Int.zero_mul]; omega
      by_cases h2 : f + step ≤ t
      · have := i1 h2; omega
      · have := i2 (by omega)
        rw [this]
        have e : ((0 : Nat) : Int) * step = 0 := Int.zero_mul _
        rw [e]; omega
    · unfold slideF
      rw [if_neg (by omega)]; rfl
theorem slide_few {size step t : Int} (hs : 1 ≤ step) (hz : 1 ≤ size) : ∀ (k : Nat) (f : Int), ((slideF size step t k f).length : Int) * step ≤ size - 1 + step
  | 0, f => by show (0 : Int) * step ≤ _; rw [Int.zero_mul]; omega
  | k + 1, f => by
    by_cases h : f ≤ t
    · by_cases hc : t < f + size
      · have := (slide_one (size := size) hs (k + 1) f).1 h; omega
      · have ih := slide_few (t := t) hs hz k (f + step)
        have e : slideF size step t (k + 1) f = slideF size step t k (f + step) := by
          show (if f ≤ t then (if t < f + size then [(⟨f, f + size⟩ : WinT)] else []) ++ slideF size step t k (f + step) else []) = _
          rw [if_pos h, if_neg hc]; rfl
        rw [e]; exact ih
    · have := (slide_one (size := size) (t := t) hs (k + 1) f).2 (by omega)
      rw [this]
      have e : ((0 : Nat) : Int) * step = 0 := Int.zero_mul _
      rw [e]; omega
theorem winsL_len4 {j : JobT} (hj : JobOkP j) {t : Int} (ht : 0 ≤ t ∧ t ≤ 60) : (winsL j t).length ≤ 4 := by
  have hj' := hj
  unfold JobOkP at hj
  by_cases h1 : j.kind = 1
  · rw [winsL_fixed h1 (by omega) ht.1 ht.2]; exact (by decide : 1 ≤ 4)
  · by_cases h3 : j.kind = 3
    · rw [winsL_sess h3 (by omega) ht.1 ht.2]; exact (by decide : 1 ≤ 4)
    · have h2 : j.kind = 2 := by omega
      have e : winStep j = j.step := by unfold winStep; rw [if_neg h1, if_pos h2]
      have h := slide_few (size := j.size) (step := j.step) (t := t) (by omega) (by omega) 100 (winFrom j t)
      have h5 : ((winsL j t).length : Int) * j.step ≤ j.size - 1 + j.step := by unfold winsL; rw [e]; exact h
      refine Nat.le_of_not_lt fun hlt => ?_
      have h6 : (5 : Int) * j.step ≤ ((winsL j t).length : Int) * j.step := Int.mul_le_mul_of_nonneg_right (by omega) (by omega)
      omega
theorem late_w {j : JobT} (hj : JobOkP j) {w : WinT} (hw : WinOkP w) : w64 (w.e + j.late) = w.e + j.late := by
  have := winOk_d hw
  unfold JobOkP at hj
  exact w64_id (by omega)
theorem tell_ok {j : JobT} {m : Int} {r : RowT} (hk : 0 ≤ r.key ∧ r.key ≤ 3) (hw : WinOkP r.win) (ha : AggOkP r.all) (hf : AggOkP r.fresh) (h0 : 1 ≤ r.fresh.n) (h1 : r.fresh.n ≤ r.all.n) (hto : 0 ≤ r.told ∧ r.told ≤ 1499) (hm : m < IntKind.i64.wrap (r.win.e + j.late))
    (ht : r.timely = true → 0 < r.told ∧ r.win.e ≤ m) (hn : r.timely = false → r.told = 0) : RowOkP j (tellS j m r).1 m ∧ ∀ p, p ∈ (tellS j m r).2 → PaneOkP p ∧ p.key = r.key := by
  unfold tellS
  by_cases hme : m < r.win.e
  · rw [if_pos hme]
    have htf : r.timely = false := by
      cases h : r.timely with
      | false => rfl
      | true => have := ht h; omega
    refine ⟨⟨hk, hw, ha, hf, (show r.all.n ≠ 0 by omega), h1, (show 0 ≤ r.told ∧ r.told ≤ 1500 by omega), hm, ?_, ?_, ?_⟩, fun p hp => by simp at hp⟩
    · show r.timely = true ↔ r.win.e ≤ m
      rw [htf]; constructor
      · intro h; cases h
      · intro h; omega
    · show 0 < r.told ↔ r.win.e ≤ m
      have := hn htf; omega
    · show r.fresh.n = 0 ↔ r.win.e ≤ m
      omega
  · rw [if_neg hme]
    have et : w64 (r.told + 1) = r.told + 1 := w64_id (by omega)
    refine ⟨⟨hk, hw, ha, aggOk_z, by show r.all.n ≠ 0; omega, by show (0 : Int) ≤ r.all.n; omega, ?_, hm, ?_, ?_, ?_⟩, fun p hp => ?_⟩
    · show 0 ≤ w64 (r.told + 1) ∧ w64 (r.told + 1) ≤ 1500
      rw [et]; omega
    · show true = true ↔ r.win.e ≤ m
      exact ⟨fun _ => by omega, fun _ => rfl⟩
    · show 0 < w64 (r.told + 1) ↔ r.win.e ≤ m
      rw [et]; omega
    · show (0 : Int) = 0 ↔ r.win.e ≤ m
      exact ⟨fun _ => by omega, fun _ => rfl⟩
    · simp only [List.mem_singleton] at hp
      subst hp
      refine ⟨⟨hk, hw, by show 0 ≤ r.told ∧ r.told ≤ 1500; omega, ?_, ?_⟩, rfl⟩
      · show AggOkP (if j.piece = true then r.fresh else r.all)
        split
        · exact hf
        · exact ha
      · have hag : 0 < (if j.piece = true then r.fresh else r.all).n := by split <;> omega
        show (kindT r = 1 ∧ r.told = 0 ∧ 0 < _) ∨ (kindT r = 2 ∧ 0 < r.told ∧ 0 < _) ∨ (kindT r = 3 ∧ 0 < r.told ∧ _)
        unfold kindT
        cases h : r.timely with
        | false => exact .inl ⟨by simp, hn h, hag⟩
        | true => exact .inr (.inl ⟨by simp, (ht h).1, hag⟩)
theorem pw_rIns {S : RowT → RowT → Prop} {r : RowT} : ∀ {l : List RowT}, l.Pairwise S → (∀ q, q ∈ l → S r q ∧ S q r) → (rIns r l).Pairwise S
  | [], _, _ => by simp [rIns]
  | q :: l, h, hn => by
    have h' := h
    rw [List.pairwise_cons] at h
    show (if RA r q then r :: q :: l else q :: rIns r l).Pairwise S
    split
    · rw [List.pairwise_cons]
      exact ⟨fun x hx => (hn x hx).1, h'⟩
    · rw [List.pairwise_cons]
      refine ⟨fun x hx => ?_, pw_rIns h.2 fun y hy => hn y (List.mem_cons_of_mem _ hy)⟩
      rcases mem_rIns.1 hx with rfl | hx
      · exact (hn q (by simp)).2
      · exact h.1 x hx
theorem pw_rPut {S : RowT → RowT → Prop} {r : RowT} {l : List RowT} (h : l.Pairwise S) (hn : ∀ q, q ∈ l → ¬ IsR r.key r.win q → S r q ∧ S q r) : (rPut r l).Pairwise S :=
  pw_rIns (List.Pairwise.filter _ h) fun q hq => hn q (mem_rOut.1 hq).1 (mem_rOut.1 hq).2
theorem touch_sym {a b : WinT} (h : TouchP a b) : TouchP b a := ⟨h.2, h.1⟩
/-- What a window has in it, or nothing yet. -/
theorem getD_ok {j : JobT} {m k : Int} {w : WinT} {l : List RowT} (h : ∀ r, r ∈ l → RowOkP j r m) {r0 : RowT} (hr0 : r0 = (rFind k w l).getD (nrow k w)) : (r0 ∈ l ∧ RowOkP j r0 m) ∨ r0 = nrow k w := by
  rw [hr0]
  cases hf : rFind k w l with
  | none => exact .inr rfl
  | some r => exact .inl ⟨(rfind_mem hf).1, h r (rfind_mem hf).1⟩
theorem add_row_ok {j : JobT} {m k v : Int} {w : WinT} {r0 : RowT} (hr : RowOkP j r0 m ∨ r0 = nrow k w) (hkw : IsR k w r0) (hk : 0 ≤ k ∧ k ≤ 3) (hv : -9 ≤ v ∧ v ≤ 9) (hw : WinOkP w) (hm : m < w64 (w.e + j.late)) (hn : r0.all.n ≤ 999) (ht : r0.told ≤ 1499) :
    RowOkP j (tellS j m (addR r0 v)).1 m ∧ (∀ p, p ∈ (tellS j m (addR r0 v)).2 → PaneOkP p ∧ p.key = k) ∧ (tellS j m (addR r0 v)).1.all.n = r0.all.n + 1 ∧ (tellS j m (addR r0 v)).1.told ≤ r0.told + 1 := by
  obtain ⟨ek, ew⟩ := isR_eq hkw
  have hb : AggOkP r0.all ∧ AggOkP r0.fresh ∧ r0.fresh.n ≤ r0.all.n ∧ 0 ≤ r0.told ∧ (r0.timely = true → 0 < r0.told ∧ r0.win.e ≤ m) ∧ (r0.timely = false → r0.told = 0) := by
    rcases hr with h | h
    · obtain ⟨_, _, a1, a2, _, a3, a4, _, a5, a6, _⟩ := h
      refine ⟨a1, a2, a3, a4.1, fun h => ⟨a6.2 (a5.1 h), a5.1 h⟩, fun h => ?_⟩
      have h9 : ¬ r0.win.e ≤ m := fun h2 => by have := a5.2 h2; rw [h] at this; cases this
      have : ¬ 0 < r0.told := fun h2 => h9 (a6.1 h2)
      omega
    · rw [h]
      exact ⟨aggOk_z, aggOk_z, Int.le_refl _, Int.le_refl _, (fun h => by cases h), (fun _ => rfl)⟩
  obtain ⟨a1, a2, a3, a4, a5, a6⟩ := hb
  have n1 := aggOk_n a1
  have n2 := aggOk_n a2
  have e1 : (aggAdd r0.all v).n = r0.all.n + 1 := add_n ⟨n1.1, by omega⟩
  have e2 : (aggAdd r0.fresh v).n = r0.fresh.n + 1 := add_n ⟨n2.1, by omega⟩
  have h := tell_ok (j := j) (m := m) (r := addR r0 v) (by show 0 ≤ r0.key ∧ r0.key ≤ 3; rw [ek]; exact hk) (by show WinOkP r0.win; rw [ew]; exact hw) (aggOk_add a1 hv hn) (aggOk_add a2 hv (by omega))
    (by show 1 ≤ (aggAdd r0.fresh v).n; omega) (by show (aggAdd r0.fresh v).n ≤ (aggAdd r0.all v).n; omega) ⟨a4, ht⟩ (by show m < IntKind.i64.wrap (r0.win.e + j.late); rw [ew]; exact hm) a5 a6
  refine ⟨h.1, fun p hp => ⟨(h.2 p hp).1, (h.2 p hp).2.trans ek⟩, ?_, ?_⟩
  · rw [(tellS_all j m (addR r0 v)).1]; exact e1
  · unfold tellS
    split
    · show r0.told ≤ r0.told + 1
      omega
    · show w64 (r0.told + 1) ≤ r0.told + 1
      rw [w64_id (by omega)]
      exact Int.le_refl _
/-- One row more, or one that was turned. -/
theorem put_ok {j : JobT} {m : Int} {r : RowT} {l : List RowT} (h : OkL j m l) (hr : RowOkP j r m) (ht : j.kind = 3 → ∀ q, q ∈ l → ¬ IsR r.key r.win q → q.key = r.key → ¬ TouchP q.win r.win) : OkL j m (rPut r l) := by
  refine ⟨fun q hq => ?_, rise_rPut h.2.1, fun h3 => pw_rPut (h.2.2 h3) fun q hq hn => ⟨fun hc => ?_, fun hc => ?_⟩⟩
  · rcases mem_rPut.1 hq with rfl | ⟨hq, _⟩
    · exact hr
    · exact h.1 q hq
  · exact ht h3 q hq hn hc.1.symm (touch_sym hc.2)
  · exact ht h3 q hq hn hc.1 hc.2
theorem into_ok {j : JobT} {m k v : Int} {w : WinT} {l : List RowT} {q : List RowT × List PaneT} {B T : Int} (h : OkL j m l) (hk : 0 ≤ k ∧ k ≤ 3) (hv : -9 ≤ v ∧ v ≤ 9) (hw : WinOkP w) (hB : 0 ≤ B ∧ B ≤ 999) (hT : 0 ≤ T ∧ T ≤ 1499) (hb : ∀ r, r ∈ l → r.all.n ≤ B ∧ r.told ≤ T)
    (ht : j.kind = 3 → ∀ q, q ∈ l → ¬ IsR k w q → q.key = k → ¬ TouchP q.win w) (he : intoL j m k v w l = some q) : OkL j m q.1 ∧ (∀ r, r ∈ q.1 → r.all.n ≤ B + 1 ∧ r.told ≤ T + 1) ∧ ∀ p, p ∈ q.2 → PaneOkP p ∧ p.key = k := by
  unfold intoL at he
  split at he
  · cases he
  · rename_i hm
    cases he
    obtain ⟨r0, hr0⟩ : ∃ r0, r0 = (rFind k w l).getD (nrow k w) := ⟨_, rfl⟩
    rw [← hr0]
    have hkw : IsR k w r0 := by rw [hr0]; exact getD_is
    have hok := getD_ok h.1 hr0
    have hb0 : r0.all.n ≤ B ∧ r0.told ≤ T := by
      rcases hok with ⟨h1, _⟩ | h1
      · exact hb r0 h1
      · rw [h1]; exact ⟨hB.1, hT.1⟩
    obtain ⟨c1, c2, c3, c4⟩ := add_row_ok (v := v) (hok.imp And.right id) hkw hk hv hw (by omega) (by omega) (by omega)
    obtain ⟨t1, t2, t3⟩ := tellS_all j m (addR r0 v)
    have ek : (tellS j m (addR r0 v)).1.key = k := t2.trans (isR_eq hkw).1
    have ew : (tellS j m (addR r0 v)).1.win = w := t3.trans (isR_eq hkw).2
    refine ⟨put_ok h c1 (by rw [ek, ew]; exact ht), fun r hr => ?_, c2⟩
    rcases mem_rPut.1 hr with rfl | ⟨hr, _⟩
    · omega
    · have := hb r hr; omega
end Go.Rk
