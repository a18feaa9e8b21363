/- The walk over this seat's functions, part 7: what each of them answers, at all data. -/
import Derived.Test.YtaceckhmclddeaaM1
import Derived.Test.YtaceckhmclddeaaM2
import Derived.Test.YtaceckhmclddeaaM3
import Derived.Test.YtaceckhmclddeaaM4
import Derived.Test.YtaceckhmclddeaaM5
import Derived.Test.YtaceckhmclddeaaM6
/- A worker's methods: session. -/
namespace Go.Rk
set_option linter.unusedSimpArgs false
set_option linter.unusedVariables false
open Go.Proofs
set_option maxRecDepth 100000
set_option maxHeartbeats 1000000
open Classical in
set_option maxRecDepth 100000 in
theorem c_touched (r : RowT) (x : ItmT) (w : WinT) : ∃ b, (b = true ↔ tchR x.key w r = true) ∧ Meets Try.prog 138 [xd (eRow r), .c (.d (.p (eItm x))), .c (.d (.p (eWin w)))] ⟨.one (.c (.d (eB b))), [none, none, none]⟩ := by
  obtain ⟨b, hb⟩ : ∃ b, b = decide (tchR x.key w r = true) := ⟨_, rfl⟩
  refine ⟨b, by rw [hb, decide_eq_true_eq], ?_⟩
  refine meets_of (H := []) (EX := EXA) ttok mixed Try.func138 rfl (by kernel_rfl) (by decide) ?_
  generalize hA : real = A
  generalize hM : MeetsB Try.prog = M
  cbv
  repeat' first
    | apply And.intro
    | exact True.intro
    | with_reducible rfl
    | exact same_of hA rfl
    | refine br_of hA (fun _ => ?_) (fun _ => ?_)
    | exact imp_of hA id
    | (refine imp_of hA ?_; subst hA; simp only [real, Bool.true_and]; exact id)
    | (refine ind_of hA ?_; decide +kernel)
    | (refine call_ex hA hM (c_WinTouch _ _ _ _) (fun _ _ => ?_); cbv)
  all_goals obtain ⟨k, ⟨s, e⟩, ⟨x1, x2, x3, x4⟩, ⟨x5, x6, x7, x8⟩, x9, x10⟩ := r; obtain ⟨s2, e2⟩ := w; obtain ⟨z1, z2, z3, z4, z5⟩ := x
  all_goals subst hA
  all_goals refine congrArg (fun b => XA.one (.c (.d (eB b)))) (Bool.eq_iff_iff.2 ?_)
  all_goals subst_vars
  all_goals simp only [real, bifA, bifB, bifC, bifD, beqB, decide_eq_true_eq, decide_eq_false_iff_not, beqI, bneI, beqIF, bneIF, ne_eq, Bool.and_eq_true, Bool.or_eq_true, Bool.not_eq_true', Bool.not_eq_false', Bool.and_eq_false_iff, Bool.or_eq_false_iff, Bool.false_eq_true, and_false, false_and, or_false, false_or, and_true, true_and, not_true_eq_false, not_false_eq_true, true_iff, false_iff, IntKind.wrap_i64, tchR, WinOkP, AggOkP] at *
  all_goals first | omega | exact decide_eq_true_iff.symm
def EXSg : FuncId → List Nat × Bool := fun f => bif nbeq f 1 then ([3000], false) else bif nbeq f 66 then ([0], false) else bif nbeq f 65 then ([99], false) else bif nbeq f 140 then ([99], false) else bif nbeq f 141 then ([99], false) else bif nbeq f 139 then ([99], false) else ([], false)
def st_s1g (j : JobT) (mk : Int) (n : Nat) (R : Nat → RowT) (c : Nat) (P : Nat → PaneT) (d : Nat) (Q : Nat → LatT) (x : ItmT) (w : WinT) (i k : Nat) (G : Nat → RowT) (sp : WinT) (kn : AggT) : St := ⟨[(24, .c (.d (eI i))), (23, .c (.d (eI n))), (22, .c (.own 1793 0 n 1)), (9, .c (.own 3600 0 k 1)), (6, .c (.clo 138 [(3256, 1), (3320, 1)])), (4, .c (.bp 3256 1 0)), (5, .c (.bp 3320 1 0)), (7, .c (.bp 3448 1 0)), (8, .c (.bp 3512 1 0)), (0, .c (.bp 1920 1 0))], [(1920, 1, .box [.d (eI j.srcs), .d (eI j.tsks), .d (eI j.kind), .d (eI j.size), .d (eI j.step), .d (eI j.late), .d (eI j.tell), .d (eB j.piece), .d (eI j.least), .d (eI j.room), .d (eI mk), .own 1793 0 n 1, .own 2001 0 c 1, .own 2002 0 d 1]), (1793, 1, .arr 13 n fun i => eRow (R i)), (2001, 1, .arr 9 c fun i => ePane (P i)), (2002, 1, .arr 7 d fun i => eLat (Q i)), (3256, 1, .box ((eItm x).map .d)), (3320, 1, .box ((eWin w).map .d)), (3448, 1, .box ((eWin sp).map .d)), (3512, 1, .box ((eAgg kn).map .d)), (3600, 1, .arr 13 k fun i => eRow (G i))]⟩
theorem k_sg (j : JobT) (mk : Int) (n : Nat) (R : Nat → RowT) (c : Nat) (hc : c ≤ 1080000) (P : Nat → PaneT) (d : Nat) (hd : d ≤ 1080000) (Q : Nat → LatT) (x : ItmT) (w : WinT) (hn : n ≤ 300) (hcs : c ≤ 1000000) (L : List RowT) (hl : Lst zRow L n R) (sp : WinT) (hsp : sp = spanL w (oldL x.key w L)) (hov : w64 (sp.e + j.late) ≤ mk) (Q' : Nat → LatT) (hQ' : ∀ i, i < d + 1 → Q' i = if i < d then Q i else ⟨x, w⟩) : MeetsO Try.prog 105 [.c (.bp 1920 1 0), .agg ((eItm x).map .d), .agg ((eWin w).map .d)]
    [(1920, 1, .box [.d (eI j.srcs), .d (eI j.tsks), .d (eI j.kind), .d (eI j.size), .d (eI j.step), .d (eI j.late), .d (eI j.tell), .d (eB j.piece), .d (eI j.least), .d (eI j.room), .d (eI mk), .own 1793 0 n 1, .own 2001 0 c 1, .own 2002 0 d 1]), (1793, 1, .arr 13 n fun i => eRow (R i)), (2001, 1, .arr 9 c fun i => ePane (P i)), (2002, 1, .arr 7 d fun i => eLat (Q i))] (.tup [])
    [(1920, 1, .box [.d (eI j.srcs), .d (eI j.tsks), .d (eI j.kind), .d (eI j.size), .d (eI j.step), .d (eI j.late), .d (eI j.tell), .d (eB j.piece), .d (eI j.least), .d (eI j.room), .d (eI mk), .own 1793 0 n 1, .own 2001 0 c 1, .own 2002 0 (d + 1) 2]), (1793, 1, .arr 13 n fun i => eRow (R i)), (2001, 1, .arr 9 c fun i => ePane (P i)), (2002, 2, .arr 7 (d + 1) fun i => eLat (Q' i)), (3256, 1, .dead), (3320, 1, .dead), (3448, 1, .dead), (3512, 1, .dead), (3600, 1, .dead), (4320, 1, .dead), (4384, 1, .dead), (4448, 1, .dead), (5984, 1, .dead)] := by
  have hnL : n ≤ maxLen := Nat.le_trans (show n ≤ 1080000 by omega) (by decide)
  refine inl_ofH [999, 10] (EX := EXSg) ttok mixed Try.func105 rfl (by kernel_rfl) (by decide) rfl rfl rfl rfl ?_
  generalize hA : real = A
  generalize hM : MeetsB Try.prog = M
  cbv
  repeat' first
    | apply And.intro
    | exact True.intro
    | with_reducible rfl
    | exact same_of hA rfl
    | refine br_of hA (fun _ => ?_) (fun _ => ?_)
    | exact imp_of hA id
    | (refine imp_of hA ?_; subst hA; simp only [real, Bool.true_and]; exact id)
    | (refine ind_of hA ?_; decide +kernel)
  refine loop_ofG hA (α := { y : Nat × Nat × (Nat → RowT) × WinT × AggT // y.1 ≤ n ∧ Lst zRow (oldL x.key w (L.take y.1)) y.2.1 y.2.2.1 ∧ y.2.2.2.1 = spanL w (oldL x.key w (L.take y.1)) ∧ y.2.2.2.2 = ((oldL x.key w (L.take y.1)).map (·.all)).foldl aggB zAgg }) (fun y => st_s1g j mk n R c P d Q x w y.1.1 y.1.2.1 y.1.2.2.1 y.1.2.2.2.1 y.1.2.2.2.2) (fun y => n - y.1.1) ⟨(0, 0, (fun _ => zRow), w, zAgg), Nat.zero_le _, ⟨rfl, fun k h => absurd h (Nat.not_lt_zero k)⟩, rfl, rfl⟩ ?_ ?_
  · refine cov_prom 9 3600 1 13 (fun _ => eRow zRow) rfl rfl (cov_ofG ?_ ?_ ?_)
    · subst hA; (repeat' first | exact True.intro | exact rfl | apply And.intro | (intro _ _; first | rfl | trivial))
    · subst hA; (repeat' first | exact True.intro | exact rfl | apply And.intro | (intro _ _; first | rfl | trivial) )
    · subst hA; (repeat' first | exact True.intro | exact rfl | apply And.intro | exact .inl rfl | exact .inr (le_of_nble rfl))
  rintro ⟨⟨u, k, G, s1, kn⟩, hu, hG, hs1, hkn⟩
  have hu : u ≤ n := hu
  have hG : Lst zRow (oldL x.key w (L.take u)) k G := hG
  have hs1 : s1 = spanL w (oldL x.key w (L.take u)) := hs1
  have hkn : kn = ((oldL x.key w (L.take u)).map (·.all)).foldl aggB zAgg := hkn
  have hki : k ≤ u := by
    rw [hG.1]
    refine Nat.le_trans (oldL_len _ _ _) ?_
    rw [List.length_take]; omega
  obtain ⟨sp2, hsp2⟩ : ∃ z, z = winSpan s1 (R u).win := ⟨_, rfl⟩
  obtain ⟨kn2, hkn2⟩ : ∃ z, z = aggB kn (R u).all := ⟨_, rfl⟩
  have cS := fun q (e : q = u) => c_WinSpan s1 (R q).win sp2 (by rw [e]; exact hsp2)
  have cB := fun q (e : q = u) => c_AggBoth kn (R q).all kn2 (by rw [e]; exact hkn2)
  have eq0 : A.add 0 (A.nat (Int.ofNat u)) = u := by subst hA; exact Nat.zero_add u
  have hsn : u < n → oldL x.key w (L.take (u + 1)) = oldL x.key w (L.take u) ++ if tchR x.key w (R u) = true then [R u] else [] := fun h => by rw [lst_take hl h, oldL_snoc]
  cbv
  repeat' first
    | apply And.intro
    | exact True.intro
    | with_reducible rfl
    | exact same_of hA rfl
    | refine br_of hA (fun _ => ?_) (fun _ => ?_)
    | exact imp_of hA id
    | (refine imp_of hA ?_; subst hA; simp only [real, Bool.true_and]; exact id)
    | (refine ind_of hA ?_; decide +kernel)
    | (refine call_of hA hM _ (cS _ eq0) ?_; cbv)
    | (refine call_of hA hM _ (cB _ eq0) ?_; cbv)
    | (refine call_ex hA hM (c_touched _ x w) (fun _ _ => ?_); cbv)
    | (refine inb_lt hA ?_; first | exact lt2_of hA (by assumption) | exact lt_of hA (by assumption))
    | exact room_add2 hA (by omega) (by decide)
    | exact flat_row hA _ _
  · rename_i hlt b hb hc
    have hlt' : u < n := lt2_of hA hlt
    have ht : tchR x.key w (R u) = true := by
      rw [← eq0]
      exact hb.1 hc
    refine ⟨⟨(u + 1, k + 1, (fun q => if q < k then G q else R u), sp2, kn2), hlt', ?_, ?_, ?_⟩, by dsimp only; omega, cov_ofG ?_ ?_ ?_⟩
    · dsimp only; rw [hsn hlt', if_pos ht]
      exact lst_snoc hG
    · dsimp only; rw [hsn hlt', if_pos ht]
      rw [spanL_app, ← hs1]; exact hsp2
    · dsimp only; rw [hsn hlt', if_pos ht]
      rw [List.map_append, List.foldl_append, ← hkn]; exact hkn2
    · subst hA; (repeat' first | exact True.intro | exact rfl | apply And.intro | exact congrArg (fun x => DV.v (.int .i64 x)) (up64 hlt' hnL))
    · subst hA
      (repeat' first | exact True.intro | exact rfl | apply And.intro | (intro _ _; first | rfl | trivial) | (intro q hq; refine Eq.trans (push_if (A := real) eRow rfl k G (R (0 + u)) (fun _ => eRow zRow) q hq) (congrArg eRow (by rw [Nat.zero_add]))))
    · subst hA; (repeat' first | exact True.intro | exact rfl | apply And.intro | exact .inl rfl | exact .inr (le_of_nble rfl))
  · rename_i hlt b hb hc
    have hlt' : u < n := lt2_of hA hlt
    have ht : ¬ tchR x.key w (R u) = true := by
      rw [← eq0]
      intro h; have := hb.2 h; rw [hc] at this; cases this
    refine ⟨⟨(u + 1, k, G, s1, kn), hlt', ?_, ?_, ?_⟩, by dsimp only; omega, cov_ofG ?_ ?_ ?_⟩
    · dsimp only; rw [hsn hlt', if_neg ht]
      rw [List.append_nil]; exact hG
    · dsimp only; rw [hsn hlt', if_neg ht]
      rw [List.append_nil]; exact hs1
    · dsimp only; rw [hsn hlt', if_neg ht]
      rw [List.append_nil]; exact hkn
    · subst hA; (repeat' first | exact True.intro | exact rfl | apply And.intro | exact congrArg (fun x => DV.v (.int .i64 x)) (up64 hlt' hnL))
    · subst hA; (repeat' first | exact True.intro | exact rfl | apply And.intro | (intro _ _; first | rfl | trivial))
    · subst hA; (repeat' first | exact True.intro | exact rfl | apply And.intro | exact .inl rfl | exact .inr (le_of_nble rfl))
  rename_i hge
  have hin : n = u := by have := ge2_of hA hge; omega
  subst hin
  rw [lst_all hl] at hG hs1 hkn
  have hss : s1 = sp := hs1.trans hsp.symm
  subst hss
  refine stop_ofG hA ⟨[(0, .c (.bp 1920 1 0)), (4, .c (.bp 3256 1 0)), (5, .c (.bp 3320 1 0)), (6, .c (.clo 138 [(3256, 1), (3320, 1)])), (7, .c (.bp 3448 1 0)), (8, .c (.bp 3512 1 0)), (9, .c (.own 3600 0 k 1))], [(1920, 1, .box [.d (eI j.srcs), .d (eI j.tsks), .d (eI j.kind), .d (eI j.size), .d (eI j.step), .d (eI j.late), .d (eI j.tell), .d (eB j.piece), .d (eI j.least), .d (eI j.room), .d (eI mk), .own 1793 0 n 1, .own 2001 0 c 1, .own 2002 0 d 1]), (1793, 1, .arr 13 n fun i => eRow (R i)), (2001, 1, .arr 9 c fun i => ePane (P i)), (2002, 1, .arr 7 d fun i => eLat (Q i)), (3256, 1, .box ((eItm x).map .d)), (3320, 1, .box ((eWin w).map .d)), (3448, 1, .box ((eWin s1).map .d)), (3512, 1, .box ((eAgg kn).map .d)), (3600, 1, .arr 13 k fun i => eRow (G i))]⟩ (cov_ofG ?_ ?_ ?_) ?_
  · subst hA; (repeat' first | exact True.intro | exact rfl | apply And.intro | (intro _ _; first | rfl | trivial))
  · subst hA; (repeat' first | exact True.intro | exact rfl | apply And.intro | (intro _ _; first | rfl | trivial) )
  · subst hA; (repeat' first | exact True.intro | exact rfl | apply And.intro | exact .inl rfl | exact .inr (le_of_nble rfl))
  cbv
  have kG := k_gonet j mk n R c hc P d hd Q x w s1 hov Q' hQ'
  repeat' first
    | (exfalso; rename_i h; cases h; done)
    | apply And.intro
    | exact True.intro
    | with_reducible rfl
    | exact same_of hA rfl
    | refine br_of hA (fun _ => ?_) (fun _ => ?_)
    | exact imp_of hA id
    | (refine imp_of hA ?_; subst hA; simp only [real, Bool.true_and]; exact id)
    | (refine ind_of hA ?_; decide +kernel)
    | (refine inl_call hA _ _ _ ⟨fun _ => (by rw [← hM]; exact kG), (by cbv; repeat' first | apply And.intro | exact True.intro | rfl | exact .inr trivial | exact .inl trivial), ?_⟩; cbv)
    | (intro _ _; first | rfl | trivial)
def EXSo : FuncId → List Nat × Bool := fun f => bif nbeq f 1 then ([3000], false) else bif nbeq f 66 then ([0], false) else bif nbeq f 65 then ([99], false) else bif nbeq f 140 then ([99], false) else bif nbeq f 141 then ([99], false) else bif nbeq f 139 then ([99], false) else ([], false)
def st_s1o (j : JobT) (mk : Int) (n : Nat) (R : Nat → RowT) (c : Nat) (P : Nat → PaneT) (d : Nat) (Q : Nat → LatT) (x : ItmT) (w : WinT) (i k : Nat) (G : Nat → RowT) (sp : WinT) (kn : AggT) : St := ⟨[(24, .c (.d (eI i))), (23, .c (.d (eI n))), (22, .c (.own 1793 0 n 1)), (9, .c (.own 3600 0 k 1)), (6, .c (.clo 138 [(3256, 1), (3320, 1)])), (4, .c (.bp 3256 1 0)), (5, .c (.bp 3320 1 0)), (7, .c (.bp 3448 1 0)), (8, .c (.bp 3512 1 0)), (0, .c (.bp 1920 1 0))], [(1920, 1, .box [.d (eI j.srcs), .d (eI j.tsks), .d (eI j.kind), .d (eI j.size), .d (eI j.step), .d (eI j.late), .d (eI j.tell), .d (eB j.piece), .d (eI j.least), .d (eI j.room), .d (eI mk), .own 1793 0 n 1, .own 2001 0 c 1, .own 2002 0 d 1]), (1793, 1, .arr 13 n fun i => eRow (R i)), (2001, 1, .arr 9 c fun i => ePane (P i)), (2002, 1, .arr 7 d fun i => eLat (Q i)), (3256, 1, .box ((eItm x).map .d)), (3320, 1, .box ((eWin w).map .d)), (3448, 1, .box ((eWin sp).map .d)), (3512, 1, .box ((eAgg kn).map .d)), (3600, 1, .arr 13 k fun i => eRow (G i))]⟩
theorem k_so (j : JobT) (mk : Int) (n : Nat) (R : Nat → RowT) (c : Nat) (hc : c ≤ 1080000) (P : Nat → PaneT) (d : Nat) (hd : d ≤ 1080000) (Q : Nat → LatT) (x : ItmT) (w : WinT) (hn : n ≤ 300) (hcs : c ≤ 1000000) (L : List RowT) (hl : Lst zRow L n R) (sp : WinT) (hsp : sp = spanL w (oldL x.key w L)) (hov : mk < w64 (sp.e + j.late)) (hone : oneB sp (oldL x.key w L) = true) (i : Nat) (hi : i < n) (he : IsR x.key sp (R i)) (hb : ∀ q, q < i → ¬ IsR x.key sp (R q)) (t : RowT × List PaneT) (ht : t = tellS j mk (addR (R i) x.v)) (R' : Nat → RowT) (hR' : ∀ q, q < n → R' q = if q = i then t.1 else R q) (c' : Nat) (P' : Nat → PaneT) (hP' : Ext zPan c P t.2 c' P') : MeetsO Try.prog 105 [.c (.bp 1920 1 0), .agg ((eItm x).map .d), .agg ((eWin w).map .d)]
    [(1920, 1, .box [.d (eI j.srcs), .d (eI j.tsks), .d (eI j.kind), .d (eI j.size), .d (eI j.step), .d (eI j.late), .d (eI j.tell), .d (eB j.piece), .d (eI j.least), .d (eI j.room), .d (eI mk), .own 1793 0 n 1, .own 2001 0 c 1, .own 2002 0 d 1]), (1793, 1, .arr 13 n fun i => eRow (R i)), (2001, 1, .arr 9 c fun i => ePane (P i)), (2002, 1, .arr 7 d fun i => eLat (Q i))] (.tup [])
    [(1920, 1, .box [.d (eI j.srcs), .d (eI j.tsks), .d (eI j.kind), .d (eI j.size), .d (eI j.step), .d (eI j.late), .d (eI j.tell), .d (eB j.piece), .d (eI j.least), .d (eI j.room), .d (eI mk), .own 1793 0 n 1, .own 2001 0 c' 2, .own 2002 0 d 1]), (1793, 1, .arr 13 n fun i => eRow (R' i)), (2001, 2, .arr 9 c' fun i => ePane (P' i)), (2002, 1, .arr 7 d fun i => eLat (Q i)), (3256, 1, .dead), (3320, 1, .dead), (3448, 1, .dead), (3512, 1, .dead), (3600, 1, .dead), (4320, 1, .dead), (4384, 1, .dead), (4448, 1, .dead), (6384, 1, .dead), (8560, 1, .dead)] := by
  have hnL : n ≤ maxLen := Nat.le_trans (show n ≤ 1080000 by omega) (by decide)
  refine inl_ofH [999, 10] (EX := EXSo) ttok mixed Try.func105 rfl (by kernel_rfl) (by decide) rfl rfl rfl rfl ?_
  generalize hA : real = A
  generalize hM : MeetsB Try.prog = M
  cbv
  repeat' first
    | apply And.intro
    | exact True.intro
    | with_reducible rfl
    | exact same_of hA rfl
    | refine br_of hA (fun _ => ?_) (fun _ => ?_)
    | exact imp_of hA id
    | (refine imp_of hA ?_; subst hA; simp only [real, Bool.true_and]; exact id)
    | (refine ind_of hA ?_; decide +kernel)
  refine loop_ofG hA (α := { y : Nat × Nat × (Nat → RowT) × WinT × AggT // y.1 ≤ n ∧ Lst zRow (oldL x.key w (L.take y.1)) y.2.1 y.2.2.1 ∧ y.2.2.2.1 = spanL w (oldL x.key w (L.take y.1)) ∧ y.2.2.2.2 = ((oldL x.key w (L.take y.1)).map (·.all)).foldl aggB zAgg }) (fun y => st_s1o j mk n R c P d Q x w y.1.1 y.1.2.1 y.1.2.2.1 y.1.2.2.2.1 y.1.2.2.2.2) (fun y => n - y.1.1) ⟨(0, 0, (fun _ => zRow), w, zAgg), Nat.zero_le _, ⟨rfl, fun k h => absurd h (Nat.not_lt_zero k)⟩, rfl, rfl⟩ ?_ ?_
  · refine cov_prom 9 3600 1 13 (fun _ => eRow zRow) rfl rfl (cov_ofG ?_ ?_ ?_)
    · subst hA; (repeat' first | exact True.intro | exact rfl | apply And.intro | (intro _ _; first | rfl | trivial))
    · subst hA; (repeat' first | exact True.intro | exact rfl | apply And.intro | (intro _ _; first | rfl | trivial) )
    · subst hA; (repeat' first | exact True.intro | exact rfl | apply And.intro | exact .inl rfl | exact .inr (le_of_nble rfl))
  rintro ⟨⟨u, k, G, s1, kn⟩, hu, hG, hs1, hkn⟩
  have hu : u ≤ n := hu
  have hG : Lst zRow (oldL x.key w (L.take u)) k G := hG
  have hs1 : s1 = spanL w (oldL x.key w (L.take u)) := hs1
  have hkn : kn = ((oldL x.key w (L.take u)).map (·.all)).foldl aggB zAgg := hkn
  have hki : k ≤ u := by
    rw [hG.1]
    refine Nat.le_trans (oldL_len _ _ _) ?_
    rw [List.length_take]; omega
  obtain ⟨sp2, hsp2⟩ : ∃ z, z = winSpan s1 (R u).win := ⟨_, rfl⟩
  obtain ⟨kn2, hkn2⟩ : ∃ z, z = aggB kn (R u).all := ⟨_, rfl⟩
  have cS := fun q (e : q = u) => c_WinSpan s1 (R q).win sp2 (by rw [e]; exact hsp2)
  have cB := fun q (e : q = u) => c_AggBoth kn (R q).all kn2 (by rw [e]; exact hkn2)
  have eq0 : A.add 0 (A.nat (Int.ofNat u)) = u := by subst hA; exact Nat.zero_add u
  have hsn : u < n → oldL x.key w (L.take (u + 1)) = oldL x.key w (L.take u) ++ if tchR x.key w (R u) = true then [R u] else [] := fun h => by rw [lst_take hl h, oldL_snoc]
  cbv
  repeat' first
    | apply And.intro
    | exact True.intro
    | with_reducible rfl
    | exact same_of hA rfl
    | refine br_of hA (fun _ => ?_) (fun _ => ?_)
    | exact imp_of hA id
    | (refine imp_of hA ?_; subst hA; simp only [real, Bool.true_and]; exact id)
    | (refine ind_of hA ?_; decide +kernel)
    | (refine call_of hA hM _ (cS _ eq0) ?_; cbv)
    | (refine call_of hA hM _ (cB _ eq0) ?_; cbv)
    | (refine call_ex hA hM (c_touched _ x w) (fun _ _ => ?_); cbv)
    | (refine inb_lt hA ?_; first | exact lt2_of hA (by assumption) | exact lt_of hA (by assumption))
    | exact room_add2 hA (by omega) (by decide)
    | exact flat_row hA _ _
  · rename_i hlt b hb hc
    have hlt' : u < n := lt2_of hA hlt
    have ht : tchR x.key w (R u) = true := by
      rw [← eq0]
      exact hb.1 hc
    refine ⟨⟨(u + 1, k + 1, (fun q => if q < k then G q else R u), sp2, kn2), hlt', ?_, ?_, ?_⟩, by dsimp only; omega, cov_ofG ?_ ?_ ?_⟩
    · dsimp only; rw [hsn hlt', if_pos ht]
      exact lst_snoc hG
    · dsimp only; rw [hsn hlt', if_pos ht]
      rw [spanL_app, ← hs1]; exact hsp2
    · dsimp only; rw [hsn hlt', if_pos ht]
      rw [List.map_append, List.foldl_append, ← hkn]; exact hkn2
    · subst hA; (repeat' first | exact True.intro | exact rfl | apply And.intro | exact congrArg (fun x => DV.v (.int .i64 x)) (up64 hlt' hnL))
    · subst hA
      (repeat' first | exact True.intro | exact rfl | apply And.intro | (intro _ _; first | rfl | trivial) | (intro q hq; refine Eq.trans (push_if (A := real) eRow rfl k G (R (0 + u)) (fun _ => eRow zRow) q hq) (congrArg eRow (by rw [Nat.zero_add]))))
    · subst hA; (repeat' first | exact True.intro | exact rfl | apply And.intro | exact .inl rfl | exact .inr (le_of_nble rfl))
  · rename_i hlt b hb hc
    have hlt' : u < n := lt2_of hA hlt
    have ht : ¬ tchR x.key w (R u) = true := by
      rw [← eq0]
      intro h; have := hb.2 h; rw [hc] at this; cases this
    refine ⟨⟨(u + 1, k, G, s1, kn), hlt', ?_, ?_, ?_⟩, by dsimp only; omega, cov_ofG ?_ ?_ ?_⟩
    · dsimp only; rw [hsn hlt', if_neg ht]
      rw [List.append_nil]; exact hG
    · dsimp only; rw [hsn hlt', if_neg ht]
      rw [List.append_nil]; exact hs1
    · dsimp only; rw [hsn hlt', if_neg ht]
      rw [List.append_nil]; exact hkn
    · subst hA; (repeat' first | exact True.intro | exact rfl | apply And.intro | exact congrArg (fun x => DV.v (.int .i64 x)) (up64 hlt' hnL))
    · subst hA; (repeat' first | exact True.intro | exact rfl | apply And.intro | (intro _ _; first | rfl | trivial))
    · subst hA; (repeat' first | exact True.intro | exact rfl | apply And.intro | exact .inl rfl | exact .inr (le_of_nble rfl))
  rename_i hge
  have hin : n = u := by have := ge2_of hA hge; omega
  subst hin
  rw [lst_all hl] at hG hs1 hkn
  have hss : s1 = sp := hs1.trans hsp.symm
  subst hss
  refine stop_ofG hA ⟨[(0, .c (.bp 1920 1 0)), (4, .c (.bp 3256 1 0)), (5, .c (.bp 3320 1 0)), (6, .c (.clo 138 [(3256, 1), (3320, 1)])), (7, .c (.bp 3448 1 0)), (8, .c (.bp 3512 1 0)), (9, .c (.own 3600 0 k 1))], [(1920, 1, .box [.d (eI j.srcs), .d (eI j.tsks), .d (eI j.kind), .d (eI j.size), .d (eI j.step), .d (eI j.late), .d (eI j.tell), .d (eB j.piece), .d (eI j.least), .d (eI j.room), .d (eI mk), .own 1793 0 n 1, .own 2001 0 c 1, .own 2002 0 d 1]), (1793, 1, .arr 13 n fun i => eRow (R i)), (2001, 1, .arr 9 c fun i => ePane (P i)), (2002, 1, .arr 7 d fun i => eLat (Q i)), (3256, 1, .box ((eItm x).map .d)), (3320, 1, .box ((eWin w).map .d)), (3448, 1, .box ((eWin s1).map .d)), (3512, 1, .box ((eAgg kn).map .d)), (3600, 1, .arr 13 k fun i => eRow (G i))]⟩ (cov_ofG ?_ ?_ ?_) ?_
  · subst hA; (repeat' first | exact True.intro | exact rfl | apply And.intro | (intro _ _; first | rfl | trivial))
  · subst hA; (repeat' first | exact True.intro | exact rfl | apply And.intro | (intro _ _; first | rfl | trivial) )
  · subst hA; (repeat' first | exact True.intro | exact rfl | apply And.intro | exact .inl rfl | exact .inr (le_of_nble rfl))
  cbv
  have kG := k_gonef j mk n R c hc P d hd Q x w s1 hov
  have hk1 : k = 1 ∧ (G 0).win.s = s1.s ∧ (G 0).win.e = s1.e := (one_iff hG).1 hone
  obtain ⟨hk1, hg1, hg2⟩ := hk1
  subst hk1
  obtain ⟨z, hz, cF⟩ := c_find mk n (by omega) R x.key s1
  have hzi : z = (i : Int) := firstIx_one hz (.at i hi he hb)
  subst hzi
  have kA := fun q (e : q = i) => k_addf j mk n R c hc P d hd Q q (by omega) x.v (addR (R q) x.v) rfl t (by rw [e]; exact ht) R' (by rw [e]; exact hR') c' hP'.1 P' hP'.2
  repeat' first
    | (exfalso; rename_i h; cases h; done)
    | (exfalso; rename_i h; subst hA; simp [real, hg1, hg2] at h; done)
    | apply And.intro
    | exact True.intro
    | with_reducible rfl
    | exact same_of hA rfl
    | refine br_of hA (fun _ => ?_) (fun _ => ?_)
    | exact imp_of hA id
    | (refine imp_of hA ?_; subst hA; simp only [real, Bool.true_and]; exact id)
    | (refine ind_of hA ?_; decide +kernel)
    | (refine inl_call hA _ _ _ ⟨fun _ => (by rw [← hM]; exact kG), (by cbv; repeat' first | apply And.intro | exact True.intro | rfl | exact .inr trivial | exact .inl trivial), ?_⟩; cbv)
    | exact flat_row hA _ _
    | (refine inb_of hA fun _ => ?_; exact ⟨Int.le_refl 0, Int.one_pos⟩)
    | (refine call_of2 hA hM _ cF (by (subst hA; first | rfl | (simp only [sub0r]; try rfl))) ?_; cbv)
    | (refine inl_call hA _ _ _ ⟨fun _ => (by rw [← hM]; exact kA (A.add 0 (A.nat (i : Int))) (by subst hA; exact Nat.zero_add i)), (by cbv; repeat' first | apply And.intro | exact True.intro | rfl | exact .inr trivial | exact .inl trivial), ?_⟩; cbv)
    | (refine inb_of hA fun h => ?_; exact ⟨Int.natCast_nonneg _, Int.ofNat_lt.2 hi⟩)
    | (intro _ _; first | rfl | trivial)
end Go.Rk
/- A worker's methods: session. -/
namespace Go.Rk
set_option linter.unusedSimpArgs false
set_option linter.unusedVariables false
open Go.Proofs
set_option maxRecDepth 100000
set_option maxHeartbeats 1000000
def EXSt : FuncId → List Nat × Bool := fun f => bif nbeq f 1 then ([3000], false) else bif nbeq f 66 then ([0], false) else bif nbeq f 65 then ([99], false) else bif nbeq f 140 then ([99], false) else bif nbeq f 141 then ([99], false) else bif nbeq f 139 then ([99], false) else ([], false)
def st_s1t (j : JobT) (mk : Int) (n : Nat) (R : Nat → RowT) (c : Nat) (P : Nat → PaneT) (d : Nat) (Q : Nat → LatT) (x : ItmT) (w : WinT) (i k : Nat) (G : Nat → RowT) (sp : WinT) (kn : AggT) : St := ⟨[(24, .c (.d (eI i))), (23, .c (.d (eI n))), (22, .c (.own 1793 0 n 1)), (9, .c (.own 3600 0 k 1)), (6, .c (.clo 138 [(3256, 1), (3320, 1)])), (4, .c (.bp 3256 1 0)), (5, .c (.bp 3320 1 0)), (7, .c (.bp 3448 1 0)), (8, .c (.bp 3512 1 0)), (0, .c (.bp 1920 1 0))], [(1920, 1, .box [.d (eI j.srcs), .d (eI j.tsks), .d (eI j.kind), .d (eI j.size), .d (eI j.step), .d (eI j.late), .d (eI j.tell), .d (eB j.piece), .d (eI j.least), .d (eI j.room), .d (eI mk), .own 1793 0 n 1, .own 2001 0 c 1, .own 2002 0 d 1]), (1793, 1, .arr 13 n fun i => eRow (R i)), (2001, 1, .arr 9 c fun i => ePane (P i)), (2002, 1, .arr 7 d fun i => eLat (Q i)), (3256, 1, .box ((eItm x).map .d)), (3320, 1, .box ((eWin w).map .d)), (3448, 1, .box ((eWin sp).map .d)), (3512, 1, .box ((eAgg kn).map .d)), (3600, 1, .arr 13 k fun i => eRow (G i))]⟩
def st_s2t (j : JobT) (mk : Int) (kr : Nat) (Rr : Nat → RowT) (k : Nat) (G : Nat → RowT) (x : ItmT) (sp : WinT) (kn : AggT) (u c : Nat) (P : Nat → PaneT) (pv d : Nat) (Q : Nat → LatT) : St := ⟨[(91, .c (.d (eI u))), (90, .c (.d (eI k))), (89, .c (.own 3600 0 k 1)), (4, .c (.bp 3256 1 0)), (7, .c (.bp 3448 1 0)), (8, .c (.bp 3512 1 0)), (0, .c (.bp 1920 1 0))], [(1920, 1, .box [.d (eI j.srcs), .d (eI j.tsks), .d (eI j.kind), .d (eI j.size), .d (eI j.step), .d (eI j.late), .d (eI j.tell), .d (eB j.piece), .d (eI j.least), .d (eI j.room), .d (eI mk), .own 8440 0 kr 1, .own 2001 0 c pv, .own 2002 0 d 1]), (8440, 1, .arr 13 kr fun i => eRow (Rr i)), (2001, pv, .arr 9 c fun i => ePane (P i)), (2002, 1, .arr 7 d fun i => eLat (Q i)), (1793, 2, .dead), (3256, 1, .box ((eItm x).map .d)), (3448, 1, .box ((eWin sp).map .d)), (3512, 1, .box ((eAgg kn).map .d)), (3600, 1, .arr 13 k fun i => eRow (G i))]⟩
theorem k_st (j : JobT) (mk : Int) (n : Nat) (R : Nat → RowT) (c : Nat) (hc : c ≤ 1080000) (P : Nat → PaneT) (d : Nat) (hd : d ≤ 1080000) (Q : Nat → LatT) (x : ItmT) (w : WinT) (hn : n ≤ 300) (hcs : c ≤ 1000000) (L : List RowT) (hl : Lst zRow L n R) (sp : WinT) (hsp : sp = spanL w (oldL x.key w L)) (hov : mk < w64 (sp.e + j.late)) (hone : oneB sp (oldL x.key w L) = false) (a : AggT) (ha : a = aggAdd (((oldL x.key w L).map (·.all)).foldl aggB zAgg) x.v) (kr : Nat) (Rr : Nat → RowT) (hr : Lst zRow (restL x.key w L) kr Rr) (cg : Nat) (Pg : Nat → PaneT) (hPg : Ext zPan c P (goneL (oldL x.key w L)) cg Pg) (vp : Nat) (hvp : vp = (goneL (oldL x.key w L)).length + 2) (r0 : RowT) (hr0 : r0 = ⟨x.key, sp, a, a, 0, false⟩) (i : Nat) (hi : i ≤ kr) (h1 : ∀ q, q < i → RA (Rr q) r0) (h2 : ∀ q, i ≤ q → q < kr → ¬ RA (Rr q) r0) (hm : ¬ mk < sp.e) (R' : Nat → RowT) (hR' : ∀ q, q < kr + 1 → R' q = if q < i then Rr q else if q = i then toldR r0 else Rr (q - 1)) (P' : Nat → PaneT) (hP' : ∀ q, q < cg + 1 → P' q = if q < cg then Pg q else paneP j.piece r0 1) : MeetsO Try.prog 105 [.c (.bp 1920 1 0), .agg ((eItm x).map .d), .agg ((eWin w).map .d)]
    [(1920, 1, .box [.d (eI j.srcs), .d (eI j.tsks), .d (eI j.kind), .d (eI j.size), .d (eI j.step), .d (eI j.late), .d (eI j.tell), .d (eB j.piece), .d (eI j.least), .d (eI j.room), .d (eI mk), .own 1793 0 n 1, .own 2001 0 c 1, .own 2002 0 d 1]), (1793, 1, .arr 13 n fun i => eRow (R i)), (2001, 1, .arr 9 c fun i => ePane (P i)), (2002, 1, .arr 7 d fun i => eLat (Q i))] (.tup [])
    [(1920, 1, .box [.d (eI j.srcs), .d (eI j.tsks), .d (eI j.kind), .d (eI j.size), .d (eI j.step), .d (eI j.late), .d (eI j.tell), .d (eB j.piece), .d (eI j.least), .d (eI j.room), .d (eI mk), .own 2664 0 (kr + 1) 1, .own 2001 0 (cg + 1) vp, .own 2002 0 d 1]), (2664, 1, .arr 13 (kr + 1) fun i => eRow (R' i)), (2001, vp, .arr 9 (cg + 1) fun i => ePane (P' i)), (2002, 1, .arr 7 d fun i => eLat (Q i)), (3256, 1, .dead), (3320, 1, .dead), (3448, 1, .dead), (3512, 1, .dead), (3600, 1, .dead), (4320, 1, .dead), (4384, 1, .dead), (4448, 1, .dead), (6384, 1, .dead), (8560, 1, .dead), (1793, 2, .dead), (8440, 2, .dead), (1192, 1, .dead), (2600, 2, .dead)] := by
  have hnL : n ≤ maxLen := Nat.le_trans (show n ≤ 1080000 by omega) (by decide)
  refine inl_ofH [999, 10, 20, 22] (EX := EXSt) ttok mixed Try.func105 rfl (by kernel_rfl) (by decide) rfl rfl rfl rfl ?_
  generalize hA : real = A
  generalize hM : MeetsB Try.prog = M
  cbv
  repeat' first
    | apply And.intro
    | exact True.intro
    | with_reducible rfl
    | exact same_of hA rfl
    | refine br_of hA (fun _ => ?_) (fun _ => ?_)
    | exact imp_of hA id
    | (refine imp_of hA ?_; subst hA; simp only [real, Bool.true_and]; exact id)
    | (refine ind_of hA ?_; decide +kernel)
  refine loop_ofG hA (α := { y : Nat × Nat × (Nat → RowT) × WinT × AggT // y.1 ≤ n ∧ Lst zRow (oldL x.key w (L.take y.1)) y.2.1 y.2.2.1 ∧ y.2.2.2.1 = spanL w (oldL x.key w (L.take y.1)) ∧ y.2.2.2.2 = ((oldL x.key w (L.take y.1)).map (·.all)).foldl aggB zAgg }) (fun y => st_s1t j mk n R c P d Q x w y.1.1 y.1.2.1 y.1.2.2.1 y.1.2.2.2.1 y.1.2.2.2.2) (fun y => n - y.1.1) ⟨(0, 0, (fun _ => zRow), w, zAgg), Nat.zero_le _, ⟨rfl, fun k h => absurd h (Nat.not_lt_zero k)⟩, rfl, rfl⟩ ?_ ?_
  · refine cov_prom 9 3600 1 13 (fun _ => eRow zRow) rfl rfl (cov_ofG ?_ ?_ ?_)
    · subst hA; (repeat' first | exact True.intro | exact rfl | apply And.intro | (intro _ _; first | rfl | trivial))
    · subst hA; (repeat' first | exact True.intro | exact rfl | apply And.intro | (intro _ _; first | rfl | trivial) )
    · subst hA; (repeat' first | exact True.intro | exact rfl | apply And.intro | exact .inl rfl | exact .inr (le_of_nble rfl))
  rintro ⟨⟨u, k, G, s1, kn⟩, hu, hG, hs1, hkn⟩
  have hu : u ≤ n := hu
  have hG : Lst zRow (oldL x.key w (L.take u)) k G := hG
  have hs1 : s1 = spanL w (oldL x.key w (L.take u)) := hs1
  have hkn : kn = ((oldL x.key w (L.take u)).map (·.all)).foldl aggB zAgg := hkn
  have hki : k ≤ u := by
    rw [hG.1]
    refine Nat.le_trans (oldL_len _ _ _) ?_
    rw [List.length_take]; omega
  obtain ⟨sp2, hsp2⟩ : ∃ z, z = winSpan s1 (R u).win := ⟨_, rfl⟩
  obtain ⟨kn2, hkn2⟩ : ∃ z, z = aggB kn (R u).all := ⟨_, rfl⟩
  have cS := fun q (e : q = u) => c_WinSpan s1 (R q).win sp2 (by rw [e]; exact hsp2)
  have cB := fun q (e : q = u) => c_AggBoth kn (R q).all kn2 (by rw [e]; exact hkn2)
  have eq0 : A.add 0 (A.nat (Int.ofNat u)) = u := by subst hA; exact Nat.zero_add u
  have hsn : u < n → oldL x.key w (L.take (u + 1)) = oldL x.key w (L.take u) ++ if tchR x.key w (R u) = true then [R u] else [] := fun h => by rw [lst_take hl h, oldL_snoc]
  cbv
  repeat' first
    | apply And.intro
    | exact True.intro
    | with_reducible rfl
    | exact same_of hA rfl
    | refine br_of hA (fun _ => ?_) (fun _ => ?_)
    | exact imp_of hA id
    | (refine imp_of hA ?_; subst hA; simp only [real, Bool.true_and]; exact id)
    | (refine ind_of hA ?_; decide +kernel)
    | (refine call_of hA hM _ (cS _ eq0) ?_; cbv)
    | (refine call_of hA hM _ (cB _ eq0) ?_; cbv)
    | (refine call_ex hA hM (c_touched _ x w) (fun _ _ => ?_); cbv)
    | (refine inb_lt hA ?_; first | exact lt2_of hA (by assumption) | exact lt_of hA (by assumption))
    | exact room_add2 hA (by omega) (by decide)
    | exact flat_row hA _ _
  · rename_i hlt b hb hc
    have hlt' : u < n := lt2_of hA hlt
    have ht : tchR x.key w (R u) = true := by
      rw [← eq0]
      exact hb.1 hc
    refine ⟨⟨(u + 1, k + 1, (fun q => if q < k then G q else R u), sp2, kn2), hlt', ?_, ?_, ?_⟩, by dsimp only; omega, cov_ofG ?_ ?_ ?_⟩
    · dsimp only; rw [hsn hlt', if_pos ht]
      exact lst_snoc hG
    · dsimp only; rw [hsn hlt', if_pos ht]
      rw [spanL_app, ← hs1]; exact hsp2
    · dsimp only; rw [hsn hlt', if_pos ht]
      rw [List.map_append, List.foldl_append, ← hkn]; exact hkn2
    · subst hA; (repeat' first | exact True.intro | exact rfl | apply And.intro | exact congrArg (fun x => DV.v (.int .i64 x)) (up64 hlt' hnL))
    · subst hA
      (repeat' first | exact True.intro | exact rfl | apply And.intro | (intro _ _; first | rfl | trivial) | (intro q hq; refine Eq.trans (push_if (A := real) eRow rfl k G (R (0 + u)) (fun _ => eRow zRow) q hq) (congrArg eRow (by rw [Nat.zero_add]))))
    · subst hA; (repeat' first | exact True.intro | exact rfl | apply And.intro | exact .inl rfl | exact .inr (le_of_nble rfl))
  · rename_i hlt b hb hc
    have hlt' : u < n := lt2_of hA hlt
    have ht : ¬ tchR x.key w (R u) = true := by
      rw [← eq0]
      intro h; have := hb.2 h; rw [hc] at this; cases this
    refine ⟨⟨(u + 1, k, G, s1, kn), hlt', ?_, ?_, ?_⟩, by dsimp only; omega, cov_ofG ?_ ?_ ?_⟩
    · dsimp only; rw [hsn hlt', if_neg ht]
      rw [List.append_nil]; exact hG
    · dsimp only; rw [hsn hlt', if_neg ht]
      rw [List.append_nil]; exact hs1
    · dsimp only; rw [hsn hlt', if_neg ht]
      rw [List.append_nil]; exact hkn
    · subst hA; (repeat' first | exact True.intro | exact rfl | apply And.intro | exact congrArg (fun x => DV.v (.int .i64 x)) (up64 hlt' hnL))
    · subst hA; (repeat' first | exact True.intro | exact rfl | apply And.intro | (intro _ _; first | rfl | trivial))
    · subst hA; (repeat' first | exact True.intro | exact rfl | apply And.intro | exact .inl rfl | exact .inr (le_of_nble rfl))
  rename_i hge
  have hin : n = u := by have := ge2_of hA hge; omega
  subst hin
  rw [lst_all hl] at hG hs1 hkn
  have hss : s1 = sp := hs1.trans hsp.symm
  subst hss
  refine stop_ofG hA ⟨[(0, .c (.bp 1920 1 0)), (4, .c (.bp 3256 1 0)), (5, .c (.bp 3320 1 0)), (6, .c (.clo 138 [(3256, 1), (3320, 1)])), (7, .c (.bp 3448 1 0)), (8, .c (.bp 3512 1 0)), (9, .c (.own 3600 0 k 1))], [(1920, 1, .box [.d (eI j.srcs), .d (eI j.tsks), .d (eI j.kind), .d (eI j.size), .d (eI j.step), .d (eI j.late), .d (eI j.tell), .d (eB j.piece), .d (eI j.least), .d (eI j.room), .d (eI mk), .own 1793 0 n 1, .own 2001 0 c 1, .own 2002 0 d 1]), (1793, 1, .arr 13 n fun i => eRow (R i)), (2001, 1, .arr 9 c fun i => ePane (P i)), (2002, 1, .arr 7 d fun i => eLat (Q i)), (3256, 1, .box ((eItm x).map .d)), (3320, 1, .box ((eWin w).map .d)), (3448, 1, .box ((eWin s1).map .d)), (3512, 1, .box ((eAgg kn).map .d)), (3600, 1, .arr 13 k fun i => eRow (G i))]⟩ (cov_ofG ?_ ?_ ?_) ?_
  · subst hA; (repeat' first | exact True.intro | exact rfl | apply And.intro | (intro _ _; first | rfl | trivial))
  · subst hA; (repeat' first | exact True.intro | exact rfl | apply And.intro | (intro _ _; first | rfl | trivial) )
  · subst hA; (repeat' first | exact True.intro | exact rfl | apply And.intro | exact .inl rfl | exact .inr (le_of_nble rfl))
  cbv
  have kG := k_gonef j mk n R c hc P d hd Q x w s1 hov
  have hno : ¬ (k = 1 ∧ (G 0).win.s = s1.s ∧ (G 0).win.e = s1.e) := fun h => by rw [(one_iff hG).2 h] at hone; cases hone
  have hT : ∀ r, Meets Try.prog 138 [xd (eRow r), .c (.d (.p (eItm x))), .c (.d (.p (eWin w)))] ⟨.one (.c (.d (eB (tchR x.key w r)))), [none, none, none]⟩ := fun r => by
    obtain ⟨b, hb, hm⟩ := c_touched r x w
    have e : b = tchR x.key w r := Bool.eq_iff_iff.2 hb
    rw [← e]; exact hm
  have hkeep : Lst zRow (keepN R (tchR x.key w) n) kr Rr := by
    have e : restL x.key w L = keepN R (tchR x.key w) n := by rw [lst_eq hl]; rfl
    rw [← e]; exact hr
  have cD := c_DeleteRow2 n (by omega) R 138 _ _ (tchR x.key w) hT kr Rr hkeep
  have hkrn : kr ≤ n := by rw [hr.1, hl.1]; exact restL_len _ _ _
  have hkn' : k ≤ n := by rw [hG.1, hl.1]; exact oldL_len _ _ _
  obtain ⟨old, hold⟩ : ∃ old, old = oldL x.key w L := ⟨_, rfl⟩
  rw [← hold] at hG hPg hvp hkn ha
  repeat' first
    | (exfalso; rename_i h; cases h; done)
    | (exfalso; rename_i h; subst hA; simp [real] at h; exact hno ⟨by omega, h.2.1, h.2.2⟩)
    | apply And.intro
    | exact True.intro
    | with_reducible rfl
    | exact same_of hA rfl
    | refine br_of hA (fun _ => ?_) (fun _ => ?_)
    | exact imp_of hA id
    | (refine imp_of hA ?_; subst hA; simp only [real, Bool.true_and]; exact id)
    | (refine ind_of hA ?_; decide +kernel)
    | (refine inl_call hA _ _ _ ⟨fun _ => (by rw [← hM]; exact kG), (by cbv; repeat' first | apply And.intro | exact True.intro | rfl | exact .inr trivial | exact .inl trivial | exact .inl (Nat.le_refl _)), ?_⟩; cbv)
    | exact flat_row hA _ _
    | (refine inb_of hA fun h => ?_; subst hA; have h1 : ((k : Nat) : Int) = 1 := of_decide_eq_true h; exact ⟨Int.le_refl 0, by omega⟩)
    | (refine call_of2 hA hM _ cD (by (subst hA; first | rfl | (simp only [sub0r]; try rfl))) ?_; cbv)
  refine loop_ofG hA (α := { y : Nat × Nat × (Nat → PaneT) // y.1 ≤ k ∧ Ext zPan c P (goneL (old.take y.1)) y.2.1 y.2.2 }) (fun y => st_s2t j mk kr Rr k G x s1 kn y.1.1 y.1.2.1 y.1.2.2 (1 + (y.1.2.1 - c)) d Q) (fun y => k - y.1.1) ⟨(0, c, P), Nat.zero_le _, ext_nil zPan c P⟩ ?_ ?_
  · refine cov_ofG ?_ ?_ ?_
    · subst hA; (repeat' first | exact True.intro | exact rfl | apply And.intro)
    · subst hA; (repeat' first | exact True.intro | exact rfl | apply And.intro | (intro _ _; first | rfl | trivial) | exact (show 1 = 1 + (c - c) by omega) | exact (show 1 + (c - c) = 1 by omega))
    · subst hA; (repeat' first | exact True.intro | exact rfl | apply And.intro | exact .inl rfl | exact .inr (le_of_nble rfl) | exact .inr (show 1 ≤ 1 + (c - c) by omega))
  rintro ⟨⟨u2, c2, P2⟩, hu2, hE⟩
  have hu2 : u2 ≤ k := hu2
  have hE : Ext zPan c P (goneL (old.take u2)) c2 P2 := hE
  have hc2 : c ≤ c2 ∧ c2 ≤ c + u2 := by
    have h1 := gone_len (old.take u2)
    rw [List.length_take] at h1
    have := hE.1
    omega
  have hcb : c2 + 1 ≤ 1080000 := by omega
  obtain ⟨v2, hv2⟩ : ∃ v2, v2 = 1 + (c2 - c) := ⟨_, rfl⟩
  dsimp only
  rw [← hv2]
  cbv
  repeat' first
    | apply And.intro
    | exact True.intro
    | with_reducible rfl
    | exact same_of hA rfl
    | refine br_of hA (fun _ => ?_) (fun _ => ?_)
    | exact imp_of hA id
    | (refine imp_of hA ?_; subst hA; simp only [real, Bool.true_and]; exact id)
    | (refine ind_of hA ?_; decide +kernel)
    | (refine inb_lt hA ?_; first | exact lt2_of hA (by assumption) | exact lt_of hA (by assumption))
    | exact room_add2 hA (by omega) (by decide)
    | exact flat_row hA _ _
  all_goals have eq2 : A.add 0 (A.nat (Int.ofNat u2)) = u2 := by subst hA; exact Nat.zero_add u2
  · rename_i hlt hc3
    have hlt' : u2 < k := lt2_of hA hlt
    have hto : 0 < (G u2).told := by
      rw [← eq2]
      subst hA
      exact of_decide_eq_true hc3
    have htk : goneL (old.take (u2 + 1)) = goneL (old.take u2) ++ [goneP (G u2)] := by
      rw [lst_take hG hlt', goneL_snoc, if_pos hto]
    refine ⟨⟨(u2 + 1, c2 + 1, fun q => if q < c2 then P2 q else goneP (G u2)), hlt', ?_⟩, by dsimp only; omega, cov_ofG ?_ ?_ ?_⟩
    · dsimp only; rw [htk]
      exact ext_snoc hE fun q _ => rfl
    · subst hA; (repeat' first | exact True.intro | exact rfl | apply And.intro | exact congrArg (fun x => DV.v (.int .i64 x)) (up64 hlt' (Nat.le_trans (show k ≤ 1080000 by omega) (by decide))))
    · subst hA
      (repeat' first | exact True.intro | exact rfl | apply And.intro | (intro _ _; first | rfl | trivial) | (intro q hq; refine Eq.trans (push_if (A := real) ePane rfl c2 P2 (goneP (G (0 + u2))) (fun _ => [eI 0, eI 0, eI 0, eI 0, eI 0, eI 0, eI 0, eI 0, eI 0]) q hq) (congrArg ePane (by rw [Nat.zero_add]))) | exact (show v2 + 1 = 1 + (c2 + 1 - c) by omega) | exact (show 1 + (c2 + 1 - c) = v2 + 1 by omega) | exact (show v2 = 1 + (c2 - c) by omega) | exact (show 1 + (c2 - c) = v2 by omega))
    · subst hA; (repeat' first | exact True.intro | exact rfl | apply And.intro | exact .inl rfl | exact .inr (le_of_nble rfl) | exact .inr (show v2 + 1 ≤ 1 + (c2 + 1 - c) by omega) | exact .inr (show v2 ≤ 1 + (c2 + 1 - c) by omega) | exact .inr (show v2 ≤ 1 + (c2 - c) by omega))
  · rename_i hlt hc3
    have hlt' : u2 < k := lt2_of hA hlt
    have hto : ¬ 0 < (G u2).told := by
      rw [← eq2]
      subst hA
      exact of_decide_eq_false hc3
    have htk : goneL (old.take (u2 + 1)) = goneL (old.take u2) ++ [] := by
      rw [lst_take hG hlt', goneL_snoc, if_neg hto]
    refine ⟨⟨(u2 + 1, c2, P2), hlt', ?_⟩, by dsimp only; omega, cov_ofG ?_ ?_ ?_⟩
    · dsimp only; rw [htk]
      rw [List.append_nil]; exact hE
    · subst hA; (repeat' first | exact True.intro | exact rfl | apply And.intro | exact congrArg (fun x => DV.v (.int .i64 x)) (up64 hlt' (Nat.le_trans (show k ≤ 1080000 by omega) (by decide))))
    · subst hA
      (repeat' first | exact True.intro | exact rfl | apply And.intro | (intro _ _; first | rfl | trivial) | exact (show v2 + 1 = 1 + (c2 + 1 - c) by omega) | exact (show 1 + (c2 + 1 - c) = v2 + 1 by omega) | exact (show v2 = 1 + (c2 - c) by omega) | exact (show 1 + (c2 - c) = v2 by omega))
    · subst hA; (repeat' first | exact True.intro | exact rfl | apply And.intro | exact .inl rfl | exact .inr (le_of_nble rfl) | exact .inr (show v2 + 1 ≤ 1 + (c2 + 1 - c) by omega) | exact .inr (show v2 ≤ 1 + (c2 + 1 - c) by omega) | exact .inr (show v2 ≤ 1 + (c2 - c) by omega))
  rename_i hge
  have hk2 : k = u2 := by have := ge2_of hA hge; omega
  subst hk2
  rw [show old.take k = old from lst_all hG] at hE
  have hcc : c2 = cg := hE.1.trans hPg.1.symm
  subst hcc
  have hPP : ∀ q, q < c2 → P2 q = Pg q := fun q hq => (hE.2 q hq).trans (hPg.2 q hq).symm
  have hvv : vp = v2 + 1 := by have := hPg.1; omega
  subst hvv
  have cAA := c_AggAdd kn x.v a (by rw [ha, hkn])
  obtain ⟨R1, hR1⟩ : ∃ R1 : Nat → RowT, R1 = fun q => if q < i then Rr q else if q = i then r0 else Rr (q - 1) := ⟨_, rfl⟩
  have e1 : R1 i = r0 := by rw [hR1]; dsimp only; rw [if_neg (Nat.lt_irrefl i), if_pos rfl]
  have kP := k_puts j mk kr Rr c2 (by omega) Pg d hd Q v2 (by omega) r0 i hi h1 h2 R1 (fun q _ => by rw [hR1])
  rw [hr0] at kP
  refine stop_ofG hA ⟨[(0, .c (.bp 1920 1 0)), (4, .c (.bp 3256 1 0)), (7, .c (.bp 3448 1 0)), (8, .c (.bp 3512 1 0))], [(1920, 1, .box [.d (eI j.srcs), .d (eI j.tsks), .d (eI j.kind), .d (eI j.size), .d (eI j.step), .d (eI j.late), .d (eI j.tell), .d (eB j.piece), .d (eI j.least), .d (eI j.room), .d (eI mk), .own 8440 0 kr 1, .own 2001 0 c2 v2, .own 2002 0 d 1]), (8440, 1, .arr 13 kr fun i => eRow (Rr i)), (2001, v2, .arr 9 c2 fun i => ePane (Pg i)), (2002, 1, .arr 7 d fun i => eLat (Q i)), (1793, 2, .dead), (3256, 1, .box ((eItm x).map .d)), (3448, 1, .box ((eWin s1).map .d)), (3512, 1, .box ((eAgg kn).map .d))]⟩ (cov_ofG ?_ ?_ ?_) ?_
  · subst hA; (repeat' first | exact True.intro | exact rfl | apply And.intro)
  · subst hA; (repeat' first | exact True.intro | exact rfl | apply And.intro | (intro _ _; first | rfl | trivial) | (intro q hq; exact congrArg ePane (hPP q hq)))
  · subst hA; (repeat' first | exact True.intro | exact rfl | apply And.intro | exact .inl rfl | exact .inr (le_of_nble rfl) | exact .inr (Nat.le_refl _))
  cbv
  repeat' first
    | apply And.intro
    | exact True.intro
    | with_reducible rfl
    | exact same_of hA rfl
    | refine br_of hA (fun _ => ?_) (fun _ => ?_)
    | exact imp_of hA id
    | (refine imp_of hA ?_; subst hA; simp only [real, Bool.true_and]; exact id)
    | (refine ind_of hA ?_; decide +kernel)
    | (refine call_of hA hM _ cAA ?_; cbv)
    | (refine inl_call hA _ _ _ ⟨fun _ => (by rw [← hM]; exact kP), (by cbv; repeat' first | apply And.intro | exact True.intro | rfl | exact .inr trivial | exact .inl trivial | exact .inl (Nat.le_refl _)), ?_⟩; cbv)
    | exact flat_row hA _ _
  have kT := k_telln j mk (kr + 1) R1 c2 (by omega) Pg d hd Q v2 i (by omega) 1 R' (fun q hq => by
    rw [hR' q hq, e1, hR1]
    dsimp only
    by_cases a : q < i
    · rw [if_pos a, if_neg (by omega), if_pos a]
    · rw [if_neg a]
      by_cases b : q = i
      · rw [if_pos b, if_pos b]
      · rw [if_neg b, if_neg b, if_neg a, if_neg b]) P' (fun q hq => by rw [hP' q hq, e1])
  have esp : s1.e = r0.win.e := by rw [hr0]
  refine stop_ofG hA ⟨[(0, .c (.bp 1920 1 0)), (7, .c (.bp 3448 1 0)), (14, .c (.op 2664 1 i 0))], [(1920, 1, .box [.d (eI j.srcs), .d (eI j.tsks), .d (eI j.kind), .d (eI j.size), .d (eI j.step), .d (eI j.late), .d (eI j.tell), .d (eB j.piece), .d (eI j.least), .d (eI j.room), .d (eI mk), .own 2664 0 (kr + 1) 1, .own 2001 0 c2 v2, .own 2002 0 d 1]), (2664, 1, .arr 13 (kr + 1) fun i => eRow (R1 i)), (2001, v2, .arr 9 c2 fun i => ePane (Pg i)), (2002, 1, .arr 7 d fun i => eLat (Q i)), (3256, 1, .dead), (3320, 1, .dead), (3448, 1, .box ((eWin s1).map .d)), (3512, 1, .dead), (3600, 1, .dead), (4320, 1, .dead), (4384, 1, .dead), (4448, 1, .dead), (1793, 2, .dead), (8440, 2, .dead), (1192, 1, .dead), (2600, 2, .dead)]⟩ (cov_ofG ?_ ?_ ?_) ?_
  · subst hA; (repeat' first | exact True.intro | exact rfl | apply And.intro)
  · subst hA; (repeat' first | exact True.intro | exact rfl | apply And.intro | (intro _ _; first | rfl | trivial))
  · subst hA; (repeat' first | exact True.intro | exact rfl | apply And.intro | exact .inl rfl | exact .inr (le_of_nble rfl) | exact .inr (Nat.le_refl _) | exact .inr (Nat.le_succ _))
  have no : ∀ {A : Ar}, real = A → A.cmp .geq mk s1.e = false → False := fun hA h => by
    subst hA
    have h : decide (mk ≥ s1.e) = false := h
    simp at h; omega
  cbv
  repeat' first
    | exact (no hA (by assumption)).elim
    | apply And.intro
    | exact True.intro
    | with_reducible rfl
    | exact same_of hA rfl
    | refine br_of hA (fun _ => ?_) (fun _ => ?_)
    | exact imp_of hA id
    | (refine imp_of hA ?_; subst hA; simp only [real, Bool.true_and]; exact id)
    | (refine ind_of hA ?_; decide +kernel)
    | (refine inl_call hA _ _ _ ⟨fun _ => (by rw [← hM]; exact kT), (by cbv; repeat' first | apply And.intro | exact True.intro | rfl | exact .inr trivial | exact .inl trivial | exact .inl (Nat.le_refl _)), ?_⟩; cbv)
    | (intro _ _; first | rfl | trivial)
def EXSn : FuncId → List Nat × Bool := fun f => bif nbeq f 1 then ([3000], false) else bif nbeq f 66 then ([0], false) else bif nbeq f 65 then ([99], false) else bif nbeq f 140 then ([99], false) else bif nbeq f 141 then ([99], false) else bif nbeq f 139 then ([99], false) else ([], false)
def st_s1n (j : JobT) (mk : Int) (n : Nat) (R : Nat → RowT) (c : Nat) (P : Nat → PaneT) (d : Nat) (Q : Nat → LatT) (x : ItmT) (w : WinT) (i k : Nat) (G : Nat → RowT) (sp : WinT) (kn : AggT) : St := ⟨[(24, .c (.d (eI i))), (23, .c (.d (eI n))), (22, .c (.own 1793 0 n 1)), (9, .c (.own 3600 0 k 1)), (6, .c (.clo 138 [(3256, 1), (3320, 1)])), (4, .c (.bp 3256 1 0)), (5, .c (.bp 3320 1 0)), (7, .c (.bp 3448 1 0)), (8, .c (.bp 3512 1 0)), (0, .c (.bp 1920 1 0))], [(1920, 1, .box [.d (eI j.srcs), .d (eI j.tsks), .d (eI j.kind), .d (eI j.size), .d (eI j.step), .d (eI j.late), .d (eI j.tell), .d (eB j.piece), .d (eI j.least), .d (eI j.room), .d (eI mk), .own 1793 0 n 1, .own 2001 0 c 1, .own 2002 0 d 1]), (1793, 1, .arr 13 n fun i => eRow (R i)), (2001, 1, .arr 9 c fun i => ePane (P i)), (2002, 1, .arr 7 d fun i => eLat (Q i)), (3256, 1, .box ((eItm x).map .d)), (3320, 1, .box ((eWin w).map .d)), (3448, 1, .box ((eWin sp).map .d)), (3512, 1, .box ((eAgg kn).map .d)), (3600, 1, .arr 13 k fun i => eRow (G i))]⟩
def st_s2n (j : JobT) (mk : Int) (kr : Nat) (Rr : Nat → RowT) (k : Nat) (G : Nat → RowT) (x : ItmT) (sp : WinT) (kn : AggT) (u c : Nat) (P : Nat → PaneT) (pv d : Nat) (Q : Nat → LatT) : St := ⟨[(91, .c (.d (eI u))), (90, .c (.d (eI k))), (89, .c (.own 3600 0 k 1)), (4, .c (.bp 3256 1 0)), (7, .c (.bp 3448 1 0)), (8, .c (.bp 3512 1 0)), (0, .c (.bp 1920 1 0))], [(1920, 1, .box [.d (eI j.srcs), .d (eI j.tsks), .d (eI j.kind), .d (eI j.size), .d (eI j.step), .d (eI j.late), .d (eI j.tell), .d (eB j.piece), .d (eI j.least), .d (eI j.room), .d (eI mk), .own 8440 0 kr 1, .own 2001 0 c pv, .own 2002 0 d 1]), (8440, 1, .arr 13 kr fun i => eRow (Rr i)), (2001, pv, .arr 9 c fun i => ePane (P i)), (2002, 1, .arr 7 d fun i => eLat (Q i)), (1793, 2, .dead), (3256, 1, .box ((eItm x).map .d)), (3448, 1, .box ((eWin sp).map .d)), (3512, 1, .box ((eAgg kn).map .d)), (3600, 1, .arr 13 k fun i => eRow (G i))]⟩
theorem k_sn (j : JobT) (mk : Int) (n : Nat) (R : Nat → RowT) (c : Nat) (hc : c ≤ 1080000) (P : Nat → PaneT) (d : Nat) (hd : d ≤ 1080000) (Q : Nat → LatT) (x : ItmT) (w : WinT) (hn : n ≤ 300) (hcs : c ≤ 1000000) (L : List RowT) (hl : Lst zRow L n R) (sp : WinT) (hsp : sp = spanL w (oldL x.key w L)) (hov : mk < w64 (sp.e + j.late)) (hone : oneB sp (oldL x.key w L) = false) (a : AggT) (ha : a = aggAdd (((oldL x.key w L).map (·.all)).foldl aggB zAgg) x.v) (kr : Nat) (Rr : Nat → RowT) (hr : Lst zRow (restL x.key w L) kr Rr) (cg : Nat) (Pg : Nat → PaneT) (hPg : Ext zPan c P (goneL (oldL x.key w L)) cg Pg) (vp : Nat) (hvp : vp = (goneL (oldL x.key w L)).length + 2) (r0 : RowT) (hr0 : r0 = ⟨x.key, sp, a, a, 0, false⟩) (i : Nat) (hi : i ≤ kr) (h1 : ∀ q, q < i → RA (Rr q) r0) (h2 : ∀ q, i ≤ q → q < kr → ¬ RA (Rr q) r0) (hm : mk < sp.e) (R' : Nat → RowT) (hR' : ∀ q, q < kr + 1 → R' q = if q < i then Rr q else if q = i then r0 else Rr (q - 1)) : MeetsO Try.prog 105 [.c (.bp 1920 1 0), .agg ((eItm x).map .d), .agg ((eWin w).map .d)]
    [(1920, 1, .box [.d (eI j.srcs), .d (eI j.tsks), .d (eI j.kind), .d (eI j.size), .d (eI j.step), .d (eI j.late), .d (eI j.tell), .d (eB j.piece), .d (eI j.least), .d (eI j.room), .d (eI mk), .own 1793 0 n 1, .own 2001 0 c 1, .own 2002 0 d 1]), (1793, 1, .arr 13 n fun i => eRow (R i)), (2001, 1, .arr 9 c fun i => ePane (P i)), (2002, 1, .arr 7 d fun i => eLat (Q i))] (.tup [])
    [(1920, 1, .box [.d (eI j.srcs), .d (eI j.tsks), .d (eI j.kind), .d (eI j.size), .d (eI j.step), .d (eI j.late), .d (eI j.tell), .d (eB j.piece), .d (eI j.least), .d (eI j.room), .d (eI mk), .own 2664 0 (kr + 1) 1, .own 2001 0 cg vp, .own 2002 0 d 1]), (2664, 1, .arr 13 (kr + 1) fun i => eRow (R' i)), (2001, vp, .arr 9 cg fun i => ePane (Pg i)), (2002, 1, .arr 7 d fun i => eLat (Q i)), (3256, 1, .dead), (3320, 1, .dead), (3448, 1, .dead), (3512, 1, .dead), (3600, 1, .dead), (4320, 1, .dead), (4384, 1, .dead), (4448, 1, .dead), (6384, 1, .dead), (8560, 1, .dead), (1793, 2, .dead), (8440, 2, .dead), (1192, 1, .dead), (2600, 2, .dead)] := by
  have hnL : n ≤ maxLen := Nat.le_trans (show n ≤ 1080000 by omega) (by decide)
  refine inl_ofH [999, 10, 20, 22] (EX := EXSn) ttok mixed Try.func105 rfl (by kernel_rfl) (by decide) rfl rfl rfl rfl ?_
  generalize hA : real = A
  generalize hM : MeetsB Try.prog = M
  cbv
  repeat' first
    | apply And.intro
    | exact True.intro
    | with_reducible rfl
    | exact same_of hA rfl
    | refine br_of hA (fun _ => ?_) (fun _ => ?_)
    | exact imp_of hA id
    | (refine imp_of hA ?_; subst hA; simp only [real, Bool.true_and]; exact id)
    | (refine ind_of hA ?_; decide +kernel)
  refine loop_ofG hA (α := { y : Nat × Nat × (Nat → RowT) × WinT × AggT // y.1 ≤ n ∧ Lst zRow (oldL x.key w (L.take y.1)) y.2.1 y.2.2.1 ∧ y.2.2.2.1 = spanL w (oldL x.key w (L.take y.1)) ∧ y.2.2.2.2 = ((oldL x.key w (L.take y.1)).map (·.all)).foldl aggB zAgg }) (fun y => st_s1n j mk n R c P d Q x w y.1.1 y.1.2.1 y.1.2.2.1 y.1.2.2.2.1 y.1.2.2.2.2) (fun y => n - y.1.1) ⟨(0, 0, (fun _ => zRow), w, zAgg), Nat.zero_le _, ⟨rfl, fun k h => absurd h (Nat.not_lt_zero k)⟩, rfl, rfl⟩ ?_ ?_
  · refine cov_prom 9 3600 1 13 (fun _ => eRow zRow) rfl rfl (cov_ofG ?_ ?_ ?_)
    · subst hA; (repeat' first | exact True.intro | exact rfl | apply And.intro | (intro _ _; first | rfl | trivial))
    · subst hA; (repeat' first | exact True.intro | exact rfl | apply And.intro | (intro _ _; first | rfl | trivial) )
    · subst hA; (repeat' first | exact True.intro | exact rfl | apply And.intro | exact .inl rfl | exact .inr (le_of_nble rfl))
  rintro ⟨⟨u, k, G, s1, kn⟩, hu, hG, hs1, hkn⟩
  have hu : u ≤ n := hu
  have hG : Lst zRow (oldL x.key w (L.take u)) k G := hG
  have hs1 : s1 = spanL w (oldL x.key w (L.take u)) := hs1
  have hkn : kn = ((oldL x.key w (L.take u)).map (·.all)).foldl aggB zAgg := hkn
  have hki : k ≤ u := by
    rw [hG.1]
    refine Nat.le_trans (oldL_len _ _ _) ?_
    rw [List.length_take]; omega
  obtain ⟨sp2, hsp2⟩ : ∃ z, z = winSpan s1 (R u).win := ⟨_, rfl⟩
  obtain ⟨kn2, hkn2⟩ : ∃ z, z = aggB kn (R u).all := ⟨_, rfl⟩
  have cS := fun q (e : q = u) => c_WinSpan s1 (R q).win sp2 (by rw [e]; exact hsp2)
  have cB := fun q (e : q = u) => c_AggBoth kn (R q).all kn2 (by rw [e]; exact hkn2)
  have eq0 : A.add 0 (A.nat (Int.ofNat u)) = u := by subst hA; exact Nat.zero_add u
  have hsn : u < n → oldL x.key w (L.take (u + 1)) = oldL x.key w (L.take u) ++ if tchR x.key w (R u) = true then [R u] else [] := fun h => by rw [lst_take hl h, oldL_snoc]
  cbv
  repeat' first
    | apply And.intro
    | exact True.intro
    | with_reducible rfl
    | exact same_of hA rfl
    | refine br_of hA (fun _ => ?_) (fun _ => ?_)
    | exact imp_of hA id
    | (refine imp_of hA ?_; subst hA; simp only [real, Bool.true_and]; exact id)
    | (refine ind_of hA ?_; decide +kernel)
    | (refine call_of hA hM _ (cS _ eq0) ?_; cbv)
    | (refine call_of hA hM _ (cB _ eq0) ?_; cbv)
    | (refine call_ex hA hM (c_touched _ x w) (fun _ _ => ?_); cbv)
    | (refine inb_lt hA ?_; first | exact lt2_of hA (by assumption) | exact lt_of hA (by assumption))
    | exact room_add2 hA (by omega) (by decide)
    | exact flat_row hA _ _
  · rename_i hlt b hb hc
    have hlt' : u < n := lt2_of hA hlt
    have ht : tchR x.key w (R u) = true := by
      rw [← eq0]
      exact hb.1 hc
    refine ⟨⟨(u + 1, k + 1, (fun q => if q < k then G q else R u), sp2, kn2), hlt', ?_, ?_, ?_⟩, by dsimp only; omega, cov_ofG ?_ ?_ ?_⟩
    · dsimp only; rw [hsn hlt', if_pos ht]
      exact lst_snoc hG
    · dsimp only; rw [hsn hlt', if_pos ht]
      rw [spanL_app, ← hs1]; exact hsp2
    · dsimp only; rw [hsn hlt', if_pos ht]
      rw [List.map_append, List.foldl_append, ← hkn]; exact hkn2
    · subst hA; (repeat' first | exact True.intro | exact rfl | apply And.intro | exact congrArg (fun x => DV.v (.int .i64 x)) (up64 hlt' hnL))
    · subst hA
      (repeat' first | exact True.intro | exact rfl | apply And.intro | (intro _ _; first | rfl | trivial) | (intro q hq; refine Eq.trans (push_if (A := real) eRow rfl k G (R (0 + u)) (fun _ => eRow zRow) q hq) (congrArg eRow (by rw [Nat.zero_add]))))
    · subst hA; (repeat' first | exact True.intro | exact rfl | apply And.intro | exact .inl rfl | exact .inr (le_of_nble rfl))
  · rename_i hlt b hb hc
    have hlt' : u < n := lt2_of hA hlt
    have ht : ¬ tchR x.key w (R u) = true := by
      rw [← eq0]
      intro h; have := hb.2 h; rw [hc] at this; cases this
    refine ⟨⟨(u + 1, k, G, s1, kn), hlt', ?_, ?_, ?_⟩, by dsimp only; omega, cov_ofG ?_ ?_ ?_⟩
    · dsimp only; rw [hsn hlt', if_neg ht]
      rw [List.append_nil]; exact hG
    · dsimp only; rw [hsn hlt', if_neg ht]
      rw [List.append_nil]; exact hs1
    · dsimp only; rw [hsn hlt', if_neg ht]
      rw [List.append_nil]; exact hkn
    · subst hA; (repeat' first | exact True.intro | exact rfl | apply And.intro | exact congrArg (fun x => DV.v (.int .i64 x)) (up64 hlt' hnL))
    · subst hA; (repeat' first | exact True.intro | exact rfl | apply And.intro | (intro _ _; first | rfl | trivial))
    · subst hA; (repeat' first | exact True.intro | exact rfl | apply And.intro | exact .inl rfl | exact .inr (le_of_nble rfl))
  rename_i hge
  have hin : n = u := by have := ge2_of hA hge; omega
  subst hin
  rw [lst_all hl] at hG hs1 hkn
  have hss : s1 = sp := hs1.trans hsp.symm
  subst hss
  refine stop_ofG hA ⟨[(0, .c (.bp 1920 1 0)), (4, .c (.bp 3256 1 0)), (5, .c (.bp 3320 1 0)), (6, .c (.clo 138 [(3256, 1), (3320, 1)])), (7, .c (.bp 3448 1 0)), (8, .c (.bp 3512 1 0)), (9, .c (.own 3600 0 k 1))], [(1920, 1, .box [.d (eI j.srcs), .d (eI j.tsks), .d (eI j.kind), .d (eI j.size), .d (eI j.step), .d (eI j.late), .d (eI j.tell), .d (eB j.piece), .d (eI j.least), .d (eI j.room), .d (eI mk), .own 1793 0 n 1, .own 2001 0 c 1, .own 2002 0 d 1]), (1793, 1, .arr 13 n fun i => eRow (R i)), (2001, 1, .arr 9 c fun i => ePane (P i)), (2002, 1, .arr 7 d fun i => eLat (Q i)), (3256, 1, .box ((eItm x).map .d)), (3320, 1, .box ((eWin w).map .d)), (3448, 1, .box ((eWin s1).map .d)), (3512, 1, .box ((eAgg kn).map .d)), (3600, 1, .arr 13 k fun i => eRow (G i))]⟩ (cov_ofG ?_ ?_ ?_) ?_
  · subst hA; (repeat' first | exact True.intro | exact rfl | apply And.intro | (intro _ _; first | rfl | trivial))
  · subst hA; (repeat' first | exact True.intro | exact rfl | apply And.intro | (intro _ _; first | rfl | trivial) )
  · subst hA; (repeat' first | exact True.intro | exact rfl | apply And.intro | exact .inl rfl | exact .inr (le_of_nble rfl))
  cbv
  have kG := k_gonef j mk n R c hc P d hd Q x w s1 hov
  have hno : ¬ (k = 1 ∧ (G 0).win.s = s1.s ∧ (G 0).win.e = s1.e) := fun h => by rw [(one_iff hG).2 h] at hone; cases hone
  have hT : ∀ r, Meets Try.prog 138 [xd (eRow r), .c (.d (.p (eItm x))), .c (.d (.p (eWin w)))] ⟨.one (.c (.d (eB (tchR x.key w r)))), [none, none, none]⟩ := fun r => by
    obtain ⟨b, hb, hm⟩ := c_touched r x w
    have e : b = tchR x.key w r := Bool.eq_iff_iff.2 hb
    rw [← e]; exact hm
  have hkeep : Lst zRow (keepN R (tchR x.key w) n) kr Rr := by
    have e : restL x.key w L = keepN R (tchR x.key w) n := by rw [lst_eq hl]; rfl
    rw [← e]; exact hr
  have cD := c_DeleteRow2 n (by omega) R 138 _ _ (tchR x.key w) hT kr Rr hkeep
  have hkrn : kr ≤ n := by rw [hr.1, hl.1]; exact restL_len _ _ _
  have hkn' : k ≤ n := by rw [hG.1, hl.1]; exact oldL_len _ _ _
  obtain ⟨old, hold⟩ : ∃ old, old = oldL x.key w L := ⟨_, rfl⟩
  rw [← hold] at hG hPg hvp hkn ha
  repeat' first
    | (exfalso; rename_i h; cases h; done)
    | (exfalso; rename_i h; subst hA; simp [real] at h; exact hno ⟨by omega, h.2.1, h.2.2⟩)
    | apply And.intro
    | exact True.intro
    | with_reducible rfl
    | exact same_of hA rfl
    | refine br_of hA (fun _ => ?_) (fun _ => ?_)
    | exact imp_of hA id
    | (refine imp_of hA ?_; subst hA; simp only [real, Bool.true_and]; exact id)
    | (refine ind_of hA ?_; decide +kernel)
    | (refine inl_call hA _ _ _ ⟨fun _ => (by rw [← hM]; exact kG), (by cbv; repeat' first | apply And.intro | exact True.intro | rfl | exact .inr trivial | exact .inl trivial | exact .inl (Nat.le_refl _)), ?_⟩; cbv)
    | exact flat_row hA _ _
    | (refine inb_of hA fun h => ?_; subst hA; have h1 : ((k : Nat) : Int) = 1 := of_decide_eq_true h; exact ⟨Int.le_refl 0, by omega⟩)
    | (refine call_of2 hA hM _ cD (by (subst hA; first | rfl | (simp only [sub0r]; try rfl))) ?_; cbv)
  refine loop_ofG hA (α := { y : Nat × Nat × (Nat → PaneT) // y.1 ≤ k ∧ Ext zPan c P (goneL (old.take y.1)) y.2.1 y.2.2 }) (fun y => st_s2n j mk kr Rr k G x s1 kn y.1.1 y.1.2.1 y.1.2.2 (1 + (y.1.2.1 - c)) d Q) (fun y => k - y.1.1) ⟨(0, c, P), Nat.zero_le _, ext_nil zPan c P⟩ ?_ ?_
  · refine cov_ofG ?_ ?_ ?_
    · subst hA; (repeat' first | exact True.intro | exact rfl | apply And.intro)
    · subst hA; (repeat' first | exact True.intro | exact rfl | apply And.intro | (intro _ _; first | rfl | trivial) | exact (show 1 = 1 + (c - c) by omega) | exact (show 1 + (c - c) = 1 by omega))
    · subst hA; (repeat' first | exact True.intro | exact rfl | apply And.intro | exact .inl rfl | exact .inr (le_of_nble rfl) | exact .inr (show 1 ≤ 1 + (c - c) by omega))
  rintro ⟨⟨u2, c2, P2⟩, hu2, hE⟩
  have hu2 : u2 ≤ k := hu2
  have hE : Ext zPan c P (goneL (old.take u2)) c2 P2 := hE
  have hc2 : c ≤ c2 ∧ c2 ≤ c + u2 := by
    have h1 := gone_len (old.take u2)
    rw [List.length_take] at h1
    have := hE.1
    omega
  have hcb : c2 + 1 ≤ 1080000 := by omega
  obtain ⟨v2, hv2⟩ : ∃ v2, v2 = 1 + (c2 - c) := ⟨_, rfl⟩
  dsimp only
  rw [← hv2]
  cbv
  repeat' first
    | apply And.intro
    | exact True.intro
    | with_reducible rfl
    | exact same_of hA rfl
    | refine br_of hA (fun _ => ?_) (fun _ => ?_)
    | exact imp_of hA id
    | (refine imp_of hA ?_; subst hA; simp only [real, Bool.true_and]; exact id)
    | (refine ind_of hA ?_; decide +kernel)
    | (refine inb_lt hA ?_; first | exact lt2_of hA (by assumption) | exact lt_of hA (by assumption))
    | exact room_add2 hA (by omega) (by decide)
    | exact flat_row hA _ _
  all_goals have eq2 : A.add 0 (A.nat (Int.ofNat u2)) = u2 := by subst hA; exact Nat.zero_add u2
  · rename_i hlt hc3
    have hlt' : u2 < k := lt2_of hA hlt
    have hto : 0 < (G u2).told := by
      rw [← eq2]
      subst hA
      exact of_decide_eq_true hc3
    have htk : goneL (old.take (u2 + 1)) = goneL (old.take u2) ++ [goneP (G u2)] := by
      rw [lst_take hG hlt', goneL_snoc, if_pos hto]
    refine ⟨⟨(u2 + 1, c2 + 1, fun q => if q < c2 then P2 q else goneP (G u2)), hlt', ?_⟩, by dsimp only; omega, cov_ofG ?_ ?_ ?_⟩
    · dsimp only; rw [htk]
      exact ext_snoc hE fun q _ => rfl
    · subst hA; (repeat' first | exact True.intro | exact rfl | apply And.intro | exact congrArg (fun x => DV.v (.int .i64 x)) (up64 hlt' (Nat.le_trans (show k ≤ 1080000 by omega) (by decide))))
    · subst hA
      (repeat' first | exact True.intro | exact rfl | apply And.intro | (intro _ _; first | rfl | trivial) | (intro q hq; refine Eq.trans (push_if (A := real) ePane rfl c2 P2 (goneP (G (0 + u2))) (fun _ => [eI 0, eI 0, eI 0, eI 0, eI 0, eI 0, eI 0, eI 0, eI 0]) q hq) (congrArg ePane (by rw [Nat.zero_add]))) | exact (show v2 + 1 = 1 + (c2 + 1 - c) by omega) | exact (show 1 + (c2 + 1 - c) = v2 + 1 by omega) | exact (show v2 = 1 + (c2 - c) by omega) | exact (show 1 + (c2 - c) = v2 by omega))
    · subst hA; (repeat' first | exact True.intro | exact rfl | apply And.intro | exact .inl rfl | exact .inr (le_of_nble rfl) | exact .inr (show v2 + 1 ≤ 1 + (c2 + 1 - c) by omega) | exact .inr (show v2 ≤ 1 + (c2 + 1 - c) by omega) | exact .inr (show v2 ≤ 1 + (c2 - c) by omega))
  · rename_i hlt hc3
    have hlt' : u2 < k := lt2_of hA hlt
    have hto : ¬ 0 < (G u2).told := by
      rw [← eq2]
      subst hA
      exact of_decide_eq_false hc3
    have htk : goneL (old.take (u2 + 1)) = goneL (old.take u2) ++ [] := by
      rw [lst_take hG hlt', goneL_snoc, if_neg hto]
    refine ⟨⟨(u2 + 1, c2, P2), hlt', ?_⟩, by dsimp only; omega, cov_ofG ?_ ?_ ?_⟩
    · dsimp only; rw [htk]
      rw [List.append_nil]; exact hE
    · subst hA; (repeat' first | exact True.intro | exact rfl | apply And.intro | exact congrArg (fun x => DV.v (.int .i64 x)) (up64 hlt' (Nat.le_trans (show k ≤ 1080000 by omega) (by decide))))
    · subst hA
      (repeat' first | exact True.intro | exact rfl | apply And.intro | (intro _ _; first | rfl | trivial) | exact (show v2 + 1 = 1 + (c2 + 1 - c) by omega) | exact (show 1 + (c2 + 1 - c) = v2 + 1 by omega) | exact (show v2 = 1 + (c2 - c) by omega) | exact (show 1 + (c2 - c) = v2 by omega))
    · subst hA; (repeat' first | exact True.intro | exact rfl | apply And.intro | exact .inl rfl | exact .inr (le_of_nble rfl) | exact .inr (show v2 + 1 ≤ 1 + (c2 + 1 - c) by omega) | exact .inr (show v2 ≤ 1 + (c2 + 1 - c) by omega) | exact .inr (show v2 ≤ 1 + (c2 - c) by omega))
  rename_i hge
  have hk2 : k = u2 := by have := ge2_of hA hge; omega
  subst hk2
  rw [show old.take k = old from lst_all hG] at hE
  have hcc : c2 = cg := hE.1.trans hPg.1.symm
  subst hcc
  have hPP : ∀ q, q < c2 → P2 q = Pg q := fun q hq => (hE.2 q hq).trans (hPg.2 q hq).symm
  have hvv : vp = v2 + 1 := by have := hPg.1; omega
  subst hvv
  have cAA := c_AggAdd kn x.v a (by rw [ha, hkn])
  obtain ⟨R1, hR1⟩ : ∃ R1 : Nat → RowT, R1 = fun q => if q < i then Rr q else if q = i then r0 else Rr (q - 1) := ⟨_, rfl⟩
  have e1 : R1 i = r0 := by rw [hR1]; dsimp only; rw [if_neg (Nat.lt_irrefl i), if_pos rfl]
  have kP := k_puts j mk kr Rr c2 (by omega) Pg d hd Q v2 (by omega) r0 i hi h1 h2 R1 (fun q _ => by rw [hR1])
  rw [hr0] at kP
  refine stop_ofG hA ⟨[(0, .c (.bp 1920 1 0)), (4, .c (.bp 3256 1 0)), (7, .c (.bp 3448 1 0)), (8, .c (.bp 3512 1 0))], [(1920, 1, .box [.d (eI j.srcs), .d (eI j.tsks), .d (eI j.kind), .d (eI j.size), .d (eI j.step), .d (eI j.late), .d (eI j.tell), .d (eB j.piece), .d (eI j.least), .d (eI j.room), .d (eI mk), .own 8440 0 kr 1, .own 2001 0 c2 v2, .own 2002 0 d 1]), (8440, 1, .arr 13 kr fun i => eRow (Rr i)), (2001, v2, .arr 9 c2 fun i => ePane (Pg i)), (2002, 1, .arr 7 d fun i => eLat (Q i)), (1793, 2, .dead), (3256, 1, .box ((eItm x).map .d)), (3448, 1, .box ((eWin s1).map .d)), (3512, 1, .box ((eAgg kn).map .d))]⟩ (cov_ofG ?_ ?_ ?_) ?_
  · subst hA; (repeat' first | exact True.intro | exact rfl | apply And.intro)
  · subst hA; (repeat' first | exact True.intro | exact rfl | apply And.intro | (intro _ _; first | rfl | trivial) | (intro q hq; exact congrArg ePane (hPP q hq)))
  · subst hA; (repeat' first | exact True.intro | exact rfl | apply And.intro | exact .inl rfl | exact .inr (le_of_nble rfl) | exact .inr (Nat.le_refl _))
  cbv
  repeat' first
    | apply And.intro
    | exact True.intro
    | with_reducible rfl
    | exact same_of hA rfl
    | refine br_of hA (fun _ => ?_) (fun _ => ?_)
    | exact imp_of hA id
    | (refine imp_of hA ?_; subst hA; simp only [real, Bool.true_and]; exact id)
    | (refine ind_of hA ?_; decide +kernel)
    | (refine call_of hA hM _ cAA ?_; cbv)
    | (refine inl_call hA _ _ _ ⟨fun _ => (by rw [← hM]; exact kP), (by cbv; repeat' first | apply And.intro | exact True.intro | rfl | exact .inr trivial | exact .inl trivial | exact .inl (Nat.le_refl _)), ?_⟩; cbv)
    | exact flat_row hA _ _
  have esp : s1.e = r0.win.e := by rw [hr0]
  refine stop_ofG hA ⟨[(0, .c (.bp 1920 1 0)), (7, .c (.bp 3448 1 0)), (14, .c (.op 2664 1 i 0))], [(1920, 1, .box [.d (eI j.srcs), .d (eI j.tsks), .d (eI j.kind), .d (eI j.size), .d (eI j.step), .d (eI j.late), .d (eI j.tell), .d (eB j.piece), .d (eI j.least), .d (eI j.room), .d (eI mk), .own 2664 0 (kr + 1) 1, .own 2001 0 c2 (v2 + 1), .own 2002 0 d 1]), (2664, 1, .arr 13 (kr + 1) fun i => eRow (R1 i)), (2001, (v2 + 1), .arr 9 c2 fun i => ePane (Pg i)), (2002, 1, .arr 7 d fun i => eLat (Q i)), (3256, 1, .dead), (3320, 1, .dead), (3448, 1, .box ((eWin s1).map .d)), (3512, 1, .dead), (3600, 1, .dead), (4320, 1, .dead), (4384, 1, .dead), (4448, 1, .dead), (6384, 1, .dead), (8560, 1, .dead), (1793, 2, .dead), (8440, 2, .dead), (1192, 1, .dead), (2600, 2, .dead)]⟩ (cov_ofG ?_ ?_ ?_) ?_
  · subst hA; (repeat' first | exact True.intro | exact rfl | apply And.intro)
  · subst hA; (repeat' first | exact True.intro | exact rfl | apply And.intro | (intro _ _; first | rfl | trivial))
  · subst hA; (repeat' first | exact True.intro | exact rfl | apply And.intro | exact .inl rfl | exact .inr (le_of_nble rfl) | exact .inr (Nat.le_refl _) | exact .inr (Nat.le_succ _))
  have no : ∀ {A : Ar}, real = A → A.cmp .geq mk s1.e = true → False := fun hA h => by
    subst hA
    have h : decide (mk ≥ s1.e) = true := h
    simp at h; omega
  cbv
  repeat' first
    | exact (no hA (by assumption)).elim
    | apply And.intro
    | exact True.intro
    | with_reducible rfl
    | exact same_of hA rfl
    | refine br_of hA (fun _ => ?_) (fun _ => ?_)
    | exact imp_of hA id
    | (refine imp_of hA ?_; subst hA; simp only [real, Bool.true_and]; exact id)
    | (refine ind_of hA ?_; decide +kernel)
    | (intro q hq; exact congrArg eRow ((congrFun hR1 q).trans (hR' q hq).symm))
    | (intro _ _; first | rfl | trivial)
end Go.Rk
/- The windows of a time. -/
namespace Go.Rk
set_option linter.unusedSimpArgs false
set_option linter.unusedVariables false
open Go.Proofs
theorem c_JobOkP (j : JobT) : ∃ b, (b = true ↔ JobOkP j) ∧ Meets Try.prog 84 [xd (eJob j)] ⟨.one (.c (.d (eB b))), [none]⟩ := by
  obtain ⟨b, hb, hm⟩ := c_JobOk j.srcs j.tsks j.kind j.size j.step j.late j.tell j.piece j.least j.room
  exact ⟨b, by rw [hb, decide_eq_true_eq]; exact Iff.rfl, hm⟩
theorem nz_of {A : Ar} (hA : real = A) {g : Bool} {n : Int} (h : n ≠ 0) : A.nz g n := by subst hA; exact fun _ => h
def st_wo (j : JobT) (t sp f : Int) (n : Nat) (row : Nat → List DV) : St := ⟨[(5, .c (.d (eI f))), (6, .c (.d (eI sp))), (1, .c (.d (eI t))), (2, .c (.bp 128 1 0)), (7, .c (.own 3392 0 n 1))], [(128, 1, .box ((eJob j).map .d)), (3392, 1, .arr 2 n row)]⟩
set_option maxRecDepth 100000 in
theorem c_WinOf (j : JobT) (t : Int) (hj : JobOkP j) (ht : 0 ≤ t ∧ t ≤ 60) (n : Nat) (g : Nat → WinT) (hl : Tells zWin eWin (winsL j t) n (fun i => eWin (g i))) : Meets Try.prog 51 [xd (eJob j), .c (.d (eI t))] ⟨.one (.c (.own 2 n fun i => eWin (g i))), [none, none]⟩ := by
  have hsz : 1 ≤ j.size ∧ j.size ≤ 20 := hj.2.2.2.1
  have hst := hj.2.2.2.2.1
  have a := Int.tmod_nonneg j.size ht.1
  have b := Int.tmod_lt_of_pos t (show 0 < j.size by omega)
  have c : t.tmod j.size ≤ t := by
    rw [Int.tmod_eq_emod_of_nonneg ht.1]
    have := Int.emod_add_mul_ediv t j.size
    have := Int.mul_nonneg (show 0 ≤ j.size by omega) (Int.ediv_nonneg ht.1 (show 0 ≤ j.size by omega))
    omega
  refine meets_of (H := [14]) (EX := EXA) ttok mixed Try.func51 rfl (by kernel_rfl) (by decide) ?_
  generalize hA : real = A
  generalize hM : MeetsB Try.prog = M
  cbv
  repeat' first
    | apply And.intro
    | exact True.intro
    | with_reducible rfl
    | exact same_of hA rfl
    | refine br_of hA (fun _ => ?_) (fun _ => ?_)
    | exact imp_of hA id
    | (refine imp_of hA ?_; subst hA; simp only [real, Bool.true_and]; exact id)
    | (refine ind_of hA ?_; decide +kernel)
    | (refine call_ex hA hM (c_JobOkP j) (fun _ _ => ?_); cbv)
    | (refine call_ex hA hM (c_in _ _ _) (fun _ _ => ?_); cbv)
    | exact nz_of hA (show j.size ≠ 0 by omega)
  · exfalso
    rename_i b1 hb1 b2 hb2 hbad
    subst hA; subst hb2
    simp only [real, bifA, bifB, bifC, bifD, beqB, decide_eq_true_eq, decide_eq_false_iff_not, beqI, bneI, beqIF, bneIF, ne_eq, Classical.not_not, Bool.and_eq_true, Bool.or_eq_true, Bool.not_eq_true', Bool.not_eq_false', Bool.and_eq_false_iff, Bool.or_eq_false_iff, Bool.false_eq_true, and_false, false_and, or_false, false_or, and_true, true_and, not_true_eq_false, not_false_eq_true, true_iff, false_iff, Int.ofNat_eq_natCast, Int.toNat_natCast] at hbad
    rcases hbad with h | h
    · have := hb1.2 hj
      rw [h] at this; cases this
    · exact h ht
  · rename_i b1 hb1 b2 hb2 hgood hk1
    have hk : j.kind = 1 := by subst hA; have h : (j.kind == 1) = true := hk1; simpa using h
    have hsp : 1 ≤ j.size := hsz.1
    have hf0 : IntKind.i64.wrap (t - t.tmod j.size) = t - t.tmod j.size := IntWalk.i64_in _ (by omega)
    have hs0 : j.size = j.size := rfl
    have hall : [] ++ slideF j.size j.size t 100 (t - t.tmod j.size) = winsL j t := by unfold winsL winStep winFrom; rw [if_pos hk, if_pos hk]; rfl
    refine loop_of hA (α := { q : Int × Nat × (Nat → List DV) × List WinT // (0 ≤ q.1 ∧ q.1 ≤ 80) ∧ Tells zWin eWin q.2.2.2 q.2.1 q.2.2.1 ∧ q.2.2.2 ++ slideF j.size j.size t 100 q.1 = winsL j t }) (fun y => st_wo j t j.size y.1.1 y.1.2.1 y.1.2.2.1) (fun y => (61 - y.1.1).toNat) ⟨((t - t.tmod j.size), 0, fun _ => [], []), ⟨by simp only; omega, by simp only; omega⟩, ⟨rfl, fun k h => absurd h (Nat.not_lt_zero k)⟩, hall⟩ ?_ ?_
    · refine cov_prom 7 3392 1 2 (fun _ => []) (by cbv) (by cbv) (cov_of ?_ ?_ ?_)
      · cbv; try (subst hA; repeat' first | apply And.intro | exact True.intro | exact congrArg (fun x => DV.v (.int .i64 x)) hf0 | exact congrArg (fun x => DV.v (.int .i64 x)) hs0 | rfl)
      · cbv; try (subst hA; repeat' first | apply And.intro | exact True.intro | rfl | exact (fun _ _ => rfl) | (intro k hk; exact absurd hk (Nat.not_lt_zero k)))
      · cbv
    rintro ⟨⟨f, n1, row, l⟩, hf, hT, hw⟩
    have hf : 0 ≤ f ∧ f ≤ 80 := hf
    have hT : Tells zWin eWin l n1 row := hT
    have hw : l ++ slideF j.size j.size t 100 f = winsL j t := hw
    have hn1 : n1 ≤ 100 := by
      have := congrArg List.length hw
      rw [List.length_append] at this
      have := winsL_len j t
      have := hT.1
      omega
    have hws : IntKind.i64.wrap (f + j.size) = f + j.size := IntWalk.i64_in _ (by omega)
    have hwp : IntKind.i64.wrap (f + j.size) = f + j.size := IntWalk.i64_in _ (by omega)
    cbv
    repeat' first
      | apply And.intro
      | exact True.intro
      | with_reducible rfl
      | exact same_of hA rfl
      | refine br_of hA (fun _ => ?_) (fun _ => ?_)
      | exact imp_of hA id
      | (refine imp_of hA ?_; subst hA; simp only [real, Bool.true_and]; exact id)
      | (refine ind_of hA ?_; decide +kernel)
      | exact room_add hA (by omega) (by decide)
    · rename_i hlt hin
      have hlt : f ≤ t := by subst hA; exact of_decide_eq_true hlt
      have hin : t < f + j.size := by
        subst hA
        have h : t < IntKind.i64.wrap (f + j.size) := of_decide_eq_true hin
        rw [hws] at h; exact h
      have hg := slideF_go (size := j.size) (step := j.size) (t := t) (f := f) hsp hf.1 ht.2 hlt
      rw [if_pos hin] at hg
      refine ⟨⟨(f + j.size, n1 + 1, fun k => if k < n1 then row k else eWin ⟨f, f + j.size⟩, l ++ [⟨f, f + j.size⟩]), ⟨by simp only; omega, by simp only; omega⟩, tells_snoc hT (fun k _ => rfl), by rw [List.append_assoc, ← hw, hg]⟩, by simp only; omega, cov_of ?_ ?_ ?_⟩
      · cbv
        subst hA
        repeat' first | apply And.intro | exact True.intro | exact congrArg (fun x => DV.v (.int .i64 x)) hwp | rfl | (intro k hk; exact push_at rfl _ _ _ _ k hk)
      · cbv
        subst hA
        repeat' first | apply And.intro | exact True.intro | rfl | (intro k hk; exact (push_at rfl _ _ _ _ k hk).trans (congrArg (fun x => if k < n1 then row k else [eI f, eI x]) hws))
      · cbv
    · rename_i hlt hin
      have hlt : f ≤ t := by subst hA; exact of_decide_eq_true hlt
      have hin : ¬ t < f + j.size := by
        subst hA
        have h : ¬ t < IntKind.i64.wrap (f + j.size) := of_decide_eq_false hin
        rw [hws] at h; exact h
      have hg := slideF_go (size := j.size) (step := j.size) (t := t) (f := f) hsp hf.1 ht.2 hlt
      rw [if_neg hin] at hg
      refine ⟨⟨(f + j.size, n1, row, l), ⟨by simp only; omega, by simp only; omega⟩, hT, by rw [← hw, hg]; rfl⟩, by simp only; omega, cov_of ?_ ?_ ?_⟩
      · cbv
        subst hA
        repeat' first | apply And.intro | exact True.intro | exact congrArg (fun x => DV.v (.int .i64 x)) hwp | rfl | (intro k hk; exact push_at rfl _ _ _ _ k hk)
      · cbv; try (subst hA; repeat' first | apply And.intro | exact True.intro | rfl | (intro _ _; rfl))
      · cbv
    · rename_i hlt
      have hlt : ¬ f ≤ t := by subst hA; exact of_decide_eq_false hlt
      rw [slideF_end hlt, List.append_nil] at hw
      subst hw
      have hnn : n1 = n := hT.1.trans hl.1.symm
      subst hnn
      refine stop_of hA ⟨[(7, .c (.own 3392 0 n1 1))], [(3392, 1, .arr 2 n1 fun i => eWin (g i))]⟩ (cov_of ?_ ?_ ?_) ?_
      · cbv
      · cbv
        exact ⟨fun q hq => (hT.2 q hq).trans (hl.2 q hq).symm, trivial⟩
      · cbv
      · cbv
        repeat' first
          | apply And.intro
          | exact True.intro
          | with_reducible rfl
          | exact same_of hA rfl
          | refine br_of hA (fun _ => ?_) (fun _ => ?_)
          | exact imp_of hA id
          | (refine imp_of hA ?_; subst hA; simp only [real, Bool.true_and]; exact id)
          | (refine ind_of hA ?_; decide +kernel)
  · rename_i b1 hb1 b2 hb2 hgood hk1 hk2
    have hk : j.kind = 2 := by subst hA; have h : (j.kind == 2) = true := hk2; simpa using h
    have hsp : 1 ≤ j.step ∧ j.step ≤ 20 := by omega
    have hsp2 := hsp.2
    have hsp : 1 ≤ j.step := hsp.1
    have hf0 : (0 : Int) = 0 := rfl
    have hs0 : j.step = j.step := rfl
    have hall : [] ++ slideF j.size j.step t 100 0 = winsL j t := by unfold winsL winStep winFrom; rw [if_neg (by omega), if_pos hk, if_neg (by omega), if_pos hk]; rfl
    refine loop_of hA (α := { q : Int × Nat × (Nat → List DV) × List WinT // (0 ≤ q.1 ∧ q.1 ≤ 80) ∧ Tells zWin eWin q.2.2.2 q.2.1 q.2.2.1 ∧ q.2.2.2 ++ slideF j.size j.step t 100 q.1 = winsL j t }) (fun y => st_wo j t j.step y.1.1 y.1.2.1 y.1.2.2.1) (fun y => (61 - y.1.1).toNat) ⟨(0, 0, fun _ => [], []), ⟨by simp only; omega, by simp only; omega⟩, ⟨rfl, fun k h => absurd h (Nat.not_lt_zero k)⟩, hall⟩ ?_ ?_
    · refine cov_prom 7 3392 1 2 (fun _ => []) (by cbv) (by cbv) (cov_of ?_ ?_ ?_)
      · cbv; try (subst hA; repeat' first | apply And.intro | exact True.intro | exact congrArg (fun x => DV.v (.int .i64 x)) hf0 | exact congrArg (fun x => DV.v (.int .i64 x)) hs0 | rfl)
      · cbv; try (subst hA; repeat' first | apply And.intro | exact True.intro | rfl | exact (fun _ _ => rfl) | (intro k hk; exact absurd hk (Nat.not_lt_zero k)))
      · cbv
    rintro ⟨⟨f, n1, row, l⟩, hf, hT, hw⟩
    have hf : 0 ≤ f ∧ f ≤ 80 := hf
    have hT : Tells zWin eWin l n1 row := hT
    have hw : l ++ slideF j.size j.step t 100 f = winsL j t := hw
    have hn1 : n1 ≤ 100 := by
      have := congrArg List.length hw
      rw [List.length_append] at this
      have := winsL_len j t
      have := hT.1
      omega
    have hws : IntKind.i64.wrap (f + j.size) = f + j.size := IntWalk.i64_in _ (by omega)
    have hwp : IntKind.i64.wrap (f + j.step) = f + j.step := IntWalk.i64_in _ (by omega)
    cbv
    repeat' first
      | apply And.intro
      | exact True.intro
      | with_reducible rfl
      | exact same_of hA rfl
      | refine br_of hA (fun _ => ?_) (fun _ => ?_)
      | exact imp_of hA id
      | (refine imp_of hA ?_; subst hA; simp only [real, Bool.true_and]; exact id)
      | (refine ind_of hA ?_; decide +kernel)
      | exact room_add hA (by omega) (by decide)
    · rename_i hlt hin
      have hlt : f ≤ t := by subst hA; exact of_decide_eq_true hlt
      have hin : t < f + j.size := by
        subst hA
        have h : t < IntKind.i64.wrap (f + j.size) := of_decide_eq_true hin
        rw [hws] at h; exact h
      have hg := slideF_go (size := j.size) (step := j.step) (t := t) (f := f) hsp hf.1 ht.2 hlt
      rw [if_pos hin] at hg
      refine ⟨⟨(f + j.step, n1 + 1, fun k => if k < n1 then row k else eWin ⟨f, f + j.size⟩, l ++ [⟨f, f + j.size⟩]), ⟨by simp only; omega, by simp only; omega⟩, tells_snoc hT (fun k _ => rfl), by rw [List.append_assoc, ← hw, hg]⟩, by simp only; omega, cov_of ?_ ?_ ?_⟩
      · cbv
        subst hA
        repeat' first | apply And.intro | exact True.intro | exact congrArg (fun x => DV.v (.int .i64 x)) hwp | rfl | (intro k hk; exact push_at rfl _ _ _ _ k hk)
      · cbv
        subst hA
        repeat' first | apply And.intro | exact True.intro | rfl | (intro k hk; exact (push_at rfl _ _ _ _ k hk).trans (congrArg (fun x => if k < n1 then row k else [eI f, eI x]) hws))
      · cbv
    · rename_i hlt hin
      have hlt : f ≤ t := by subst hA; exact of_decide_eq_true hlt
      have hin : ¬ t < f + j.size := by
        subst hA
        have h : ¬ t < IntKind.i64.wrap (f + j.size) := of_decide_eq_false hin
        rw [hws] at h; exact h
      have hg := slideF_go (size := j.size) (step := j.step) (t := t) (f := f) hsp hf.1 ht.2 hlt
      rw [if_neg hin] at hg
      refine ⟨⟨(f + j.step, n1, row, l), ⟨by simp only; omega, by simp only; omega⟩, hT, by rw [← hw, hg]; rfl⟩, by simp only; omega, cov_of ?_ ?_ ?_⟩
      · cbv
        subst hA
        repeat' first | apply And.intro | exact True.intro | exact congrArg (fun x => DV.v (.int .i64 x)) hwp | rfl | (intro k hk; exact push_at rfl _ _ _ _ k hk)
      · cbv; try (subst hA; repeat' first | apply And.intro | exact True.intro | rfl | (intro _ _; rfl))
      · cbv
    · rename_i hlt
      have hlt : ¬ f ≤ t := by subst hA; exact of_decide_eq_false hlt
      rw [slideF_end hlt, List.append_nil] at hw
      subst hw
      have hnn : n1 = n := hT.1.trans hl.1.symm
      subst hnn
      refine stop_of hA ⟨[(7, .c (.own 3392 0 n1 1))], [(3392, 1, .arr 2 n1 fun i => eWin (g i))]⟩ (cov_of ?_ ?_ ?_) ?_
      · cbv
      · cbv
        exact ⟨fun q hq => (hT.2 q hq).trans (hl.2 q hq).symm, trivial⟩
      · cbv
      · cbv
        repeat' first
          | apply And.intro
          | exact True.intro
          | with_reducible rfl
          | exact same_of hA rfl
          | refine br_of hA (fun _ => ?_) (fun _ => ?_)
          | exact imp_of hA id
          | (refine imp_of hA ?_; subst hA; simp only [real, Bool.true_and]; exact id)
          | (refine ind_of hA ?_; decide +kernel)
  · rename_i b1 hb1 b2 hb2 hgood hk1 hk2
    have hk1 : ¬ j.kind = 1 := by subst hA; have h : (j.kind == 1) = false := hk1; simpa using h
    have hk2 : ¬ j.kind = 2 := by subst hA; have h : (j.kind == 2) = false := hk2; simpa using h
    have hsp : (1 : Int) ≤ 1 := Int.le_refl _
    have hf0 : t = t := rfl
    have hs0 : (1 : Int) = 1 := rfl
    have hall : [] ++ slideF j.size 1 t 100 t = winsL j t := by unfold winsL winStep winFrom; rw [if_neg hk1, if_neg hk2, if_neg hk1, if_neg hk2]; rfl
    refine loop_of hA (α := { q : Int × Nat × (Nat → List DV) × List WinT // (0 ≤ q.1 ∧ q.1 ≤ 80) ∧ Tells zWin eWin q.2.2.2 q.2.1 q.2.2.1 ∧ q.2.2.2 ++ slideF j.size 1 t 100 q.1 = winsL j t }) (fun y => st_wo j t 1 y.1.1 y.1.2.1 y.1.2.2.1) (fun y => (61 - y.1.1).toNat) ⟨(t, 0, fun _ => [], []), ⟨by simp only; omega, by simp only; omega⟩, ⟨rfl, fun k h => absurd h (Nat.not_lt_zero k)⟩, hall⟩ ?_ ?_
    · refine cov_prom 7 3392 1 2 (fun _ => []) (by cbv) (by cbv) (cov_of ?_ ?_ ?_)
      · cbv; try (subst hA; repeat' first | apply And.intro | exact True.intro | exact congrArg (fun x => DV.v (.int .i64 x)) hf0 | exact congrArg (fun x => DV.v (.int .i64 x)) hs0 | rfl)
      · cbv; try (subst hA; repeat' first | apply And.intro | exact True.intro | rfl | exact (fun _ _ => rfl) | (intro k hk; exact absurd hk (Nat.not_lt_zero k)))
      · cbv
    rintro ⟨⟨f, n1, row, l⟩, hf, hT, hw⟩
    have hf : 0 ≤ f ∧ f ≤ 80 := hf
    have hT : Tells zWin eWin l n1 row := hT
    have hw : l ++ slideF j.size 1 t 100 f = winsL j t := hw
    have hn1 : n1 ≤ 100 := by
      have := congrArg List.length hw
      rw [List.length_append] at this
      have := winsL_len j t
      have := hT.1
      omega
    have hws : IntKind.i64.wrap (f + j.size) = f + j.size := IntWalk.i64_in _ (by omega)
    have hwp : IntKind.i64.wrap (f + 1) = f + 1 := IntWalk.i64_in _ (by omega)
    cbv
    repeat' first
      | apply And.intro
      | exact True.intro
      | with_reducible rfl
      | exact same_of hA rfl
      | refine br_of hA (fun _ => ?_) (fun _ => ?_)
      | exact imp_of hA id
      | (refine imp_of hA ?_; subst hA; simp only [real, Bool.true_and]; exact id)
      | (refine ind_of hA ?_; decide +kernel)
      | exact room_add hA (by omega) (by decide)
    · rename_i hlt hin
      have hlt : f ≤ t := by subst hA; exact of_decide_eq_true hlt
      have hin : t < f + j.size := by
        subst hA
        have h : t < IntKind.i64.wrap (f + j.size) := of_decide_eq_true hin
        rw [hws] at h; exact h
      have hg := slideF_go (size := j.size) (step := 1) (t := t) (f := f) hsp hf.1 ht.2 hlt
      rw [if_pos hin] at hg
      refine ⟨⟨(f + 1, n1 + 1, fun k => if k < n1 then row k else eWin ⟨f, f + j.size⟩, l ++ [⟨f, f + j.size⟩]), ⟨by simp only; omega, by simp only; omega⟩, tells_snoc hT (fun k _ => rfl), by rw [List.append_assoc, ← hw, hg]⟩, by simp only; omega, cov_of ?_ ?_ ?_⟩
      · cbv
        subst hA
        repeat' first | apply And.intro | exact True.intro | exact congrArg (fun x => DV.v (.int .i64 x)) hwp | rfl | (intro k hk; exact push_at rfl _ _ _ _ k hk)
      · cbv
        subst hA
        repeat' first | apply And.intro | exact True.intro | rfl | (intro k hk; exact (push_at rfl _ _ _ _ k hk).trans (congrArg (fun x => if k < n1 then row k else [eI f, eI x]) hws))
      · cbv
    · rename_i hlt hin
      have hlt : f ≤ t := by subst hA; exact of_decide_eq_true hlt
      have hin : ¬ t < f + j.size := by
        subst hA
        have h : ¬ t < IntKind.i64.wrap (f + j.size) := of_decide_eq_false hin
        rw [hws] at h; exact h
      have hg := slideF_go (size := j.size) (step := 1) (t := t) (f := f) hsp hf.1 ht.2 hlt
      rw [if_neg hin] at hg
      refine ⟨⟨(f + 1, n1, row, l), ⟨by simp only; omega, by simp only; omega⟩, hT, by rw [← hw, hg]; rfl⟩, by simp only; omega, cov_of ?_ ?_ ?_⟩
      · cbv
        subst hA
        repeat' first | apply And.intro | exact True.intro | exact congrArg (fun x => DV.v (.int .i64 x)) hwp | rfl | (intro k hk; exact push_at rfl _ _ _ _ k hk)
      · cbv; try (subst hA; repeat' first | apply And.intro | exact True.intro | rfl | (intro _ _; rfl))
      · cbv
    · rename_i hlt
      have hlt : ¬ f ≤ t := by subst hA; exact of_decide_eq_false hlt
      rw [slideF_end hlt, List.append_nil] at hw
      subst hw
      have hnn : n1 = n := hT.1.trans hl.1.symm
      subst hnn
      refine stop_of hA ⟨[(7, .c (.own 3392 0 n1 1))], [(3392, 1, .arr 2 n1 fun i => eWin (g i))]⟩ (cov_of ?_ ?_ ?_) ?_
      · cbv
      · cbv
        exact ⟨fun q hq => (hT.2 q hq).trans (hl.2 q hq).symm, trivial⟩
      · cbv
      · cbv
        repeat' first
          | apply And.intro
          | exact True.intro
          | with_reducible rfl
          | exact same_of hA rfl
          | refine br_of hA (fun _ => ?_) (fun _ => ?_)
          | exact imp_of hA id
          | (refine imp_of hA ?_; subst hA; simp only [real, Bool.true_and]; exact id)
          | (refine ind_of hA ?_; decide +kernel)
end Go.Rk
/- What a record does, step by step, at rows that rise. -/
namespace Go.Rk
set_option linter.unusedSimpArgs false
set_option linter.unusedVariables false
theorem rise_at {l : List RowT} {n : Nat} {R : Nat → RowT} (hL : Lst zRow l n R) (hs : RiseR l) {a b : Nat} (hab : a < b) (hb : b < n) : RA (R a) (R b) := by
  have := List.pairwise_iff_getElem.1 hs a b (by rw [← hL.1]; omega) (by rw [← hL.1]; exact hb) hab
  have ea := lst_at hL (show a < n by omega)
  have eb := lst_at hL hb
  rw [List.getElem?_eq_getElem (by rw [← hL.1]; omega)] at ea
  rw [List.getElem?_eq_getElem (by rw [← hL.1]; exact hb)] at eb
  simp only [Option.some.injEq] at ea eb
  rwa [ea, eb] at this
theorem pos_ex {l : List RowT} {n : Nat} {R : Nat → RowT} (hL : Lst zRow l n R) (hs : RiseR l) (r : RowT) : ∃ i, i ≤ n ∧ (∀ q, q < i → RA (R q) r) ∧ ∀ q, i ≤ q → q < n → ¬ RA (R q) r := by
  obtain ⟨x, hx⟩ := firstIx_ex n fun q => ¬ RA (R q) r
  cases hx with
  | «at» i hi hp hb =>
    refine ⟨i, Nat.le_of_lt hi, fun q hq => Classical.byContradiction (hb q hq), fun q h1 h2 ha => ?_⟩
    by_cases e : q = i
    · subst e; exact hp ha
    · exact hp (ra_tr (rise_at hL hs (show i < q by omega) h2) ha)
  | none hb => exact ⟨n, Nat.le_refl _, fun q hq => Classical.byContradiction (hb q hq), fun q h1 h2 => by omega⟩
theorem into_found {j : JobT} {m k v : Int} {w : WinT} {l : List RowT} {n i : Nat} {R : Nat → RowT} (hL : Lst zRow l n R) (ho : m < w64 (w.e + j.late)) (hi : i < n) (he : IsR k w (R i)) (hb : ∀ q, q < i → ¬ IsR k w (R q)) :
    intoL j m k v w l = some (rPut (tellS j m (addR (R i) v)).1 l, (tellS j m (addR (R i) v)).2) := by
  unfold intoL
  rw [if_neg (by omega), rfind_some hL hi he hb]; rfl
theorem into_new {j : JobT} {m k v : Int} {w : WinT} {l : List RowT} {n : Nat} {R : Nat → RowT} (hL : Lst zRow l n R) (ho : m < w64 (w.e + j.late)) (hb : ∀ q, q < n → ¬ IsR k w (R q)) :
    intoL j m k v w l = some (rPut (tellS j m (addR (nrow k w) v)).1 l, (tellS j m (addR (nrow k w) v)).2) := by
  unfold intoL
  rw [if_neg (by omega), rfind_none hL hb]; rfl
theorem takeS_some {j : JobT} {m : Int} {x : ItmT} {a : List RowT × List PaneT × List LatT} {w : WinT} {q : List RowT × List PaneT} (h : stepT j m x w a.1 = some q) : takeS j m x a w = (q.1, a.2.1 ++ q.2, a.2.2) := by
  unfold takeS; rw [h]
theorem takeS_none {j : JobT} {m : Int} {x : ItmT} {a : List RowT × List PaneT × List LatT} {w : WinT} (h : stepT j m x w a.1 = none) : takeS j m x a w = (a.1, a.2.1, a.2.2 ++ [⟨x, w⟩]) := by
  unfold takeS; rw [h]
theorem rise_adj {n : Nat} {g : Nat → RowT} (h : ∀ i, 0 < i → i < n → RA (g (i - 1)) (g i)) : RiseR ((List.range n).map g) := by
  have key : ∀ b a, a < b → b < n → RA (g a) (g b) := by
    intro b
    induction b with
    | zero => intro a ha; omega
    | succ b ih =>
      intro a ha hb
      have h1 := h (b + 1) (by omega) hb
      rw [Nat.add_sub_cancel] at h1
      by_cases e : a = b
      · subst e; exact h1
      · exact ra_tr (ih a (by omega) (by omega)) h1
  rw [RiseR, List.pairwise_map]
  refine List.Pairwise.imp_of_mem ?_ (List.pairwise_lt_range (n := n))
  intro a b ha hb hab
  exact key b a hab (List.mem_range.1 hb)
theorem rise_ok {j : JobT} {s : OpStT} (h : OpOkP j s) : RiseR (rowsL s) := rise_adj fun i h0 hi => (h.2.2.2 i hi).2.1 h0
theorem all_ok {j : JobT} {s : OpStT} (h : OpOkP j s) : ∀ r, r ∈ rowsL s → 1 ≤ r.all.n ∧ r.all.n ≤ 1000 := by
  intro r hr
  obtain ⟨i, hi, rfl⟩ := List.mem_map.1 hr
  have h1 := (h.2.2.2 i (List.mem_range.1 hi)).1
  have h2 := h1.2.2.1
  have h3 := h1.2.2.2.2.1
  unfold AggOkP at h2
  omega
theorem sess_gone {j : JobT} {m k v : Int} {w : WinT} {l : List RowT} (h : w64 ((spanL w (oldL k w l)).e + j.late) ≤ m) : sessL j m k v w l = none := by unfold sessL; rw [if_pos h]
theorem sess_one {j : JobT} {m k v : Int} {w : WinT} {l : List RowT} (h : m < w64 ((spanL w (oldL k w l)).e + j.late)) (h1 : oneB (spanL w (oldL k w l)) (oldL k w l) = true) : sessL j m k v w l = intoL j m k v (spanL w (oldL k w l)) l := by
  unfold sessL; rw [if_neg (by omega), if_pos h1]
theorem sess_new {j : JobT} {m k v : Int} {w : WinT} {l : List RowT} {a : AggT} {r0 : RowT} (h : m < w64 ((spanL w (oldL k w l)).e + j.late)) (h1 : oneB (spanL w (oldL k w l)) (oldL k w l) = false) (hl : l.length ≤ 1000) (hb : ∀ r, r ∈ l → 1 ≤ r.all.n ∧ r.all.n ≤ 1000)
    (ha : a = aggAdd (((oldL k w l).map (·.all)).foldl aggB zAgg) v) (hr : r0 = ⟨k, spanL w (oldL k w l), a, a, 0, false⟩) : sessL j m k v w l = some (rPut (tellS j m r0).1 (restL k w l), goneL (oldL k w l) ++ (tellS j m r0).2) := by
  have e : a = ((oldL k w l).map (·.all)).foldl aggB (agg1 v) := by
    rw [ha]
    refine fold_last ?_ fun b hb' => ?_
    · rw [List.length_map]; exact Nat.le_trans (oldL_len _ _ _) hl
    · obtain ⟨r, hr, rfl⟩ := List.mem_map.1 hb'
      exact hb r (List.mem_filter.1 hr).1
  unfold sessL; rw [if_neg (by omega), if_neg (by rw [h1]; simp), hr, ← e]
/-- Where one is touched, and grows not, it is found. -/
theorem one_found {k : Int} {w : WinT} {l : List RowT} {n : Nat} {R : Nat → RowT} (hL : Lst zRow l n R) (h1 : oneB (spanL w (oldL k w l)) (oldL k w l) = true) : ∃ i, i < n ∧ IsR k (spanL w (oldL k w l)) (R i) ∧ ∀ q, q < i → ¬ IsR k (spanL w (oldL k w l)) (R q) := by
  obtain ⟨o, ho⟩ : ∃ o, oldL k w l = [o] := by
    cases h : oldL k w l with
    | nil => rw [h] at h1; cases h1
    | cons a r => cases r with
      | nil => exact ⟨a, rfl⟩
      | cons _ _ => rw [h] at h1; cases h1
  have hm : o ∈ oldL k w l := by rw [ho]; simp
  have hm2 := List.mem_filter.1 hm
  have hk : o.key = k := by have := hm2.2; unfold tchR at this; exact (of_decide_eq_true this).1
  have hw : o.win.s = (spanL w (oldL k w l)).s ∧ o.win.e = (spanL w (oldL k w l)).e := by
    have h2 := h1
    rw [show oneB (spanL w (oldL k w l)) (oldL k w l) = oneB (spanL w (oldL k w l)) [o] by rw [ho]] at h2
    exact of_decide_eq_true h2
  obtain ⟨t, ht, e⟩ := lst_mem hL hm2.1
  obtain ⟨x, hx⟩ := firstIx_ex n fun q => IsR k (spanL w (oldL k w l)) (R q)
  cases hx with
  | «at» i hi hp hb => exact ⟨i, hi, hp, hb⟩
  | none hb => exact absurd (by rw [e]; exact ⟨hk, hw⟩) (hb t ht)
theorem rest_rise {k : Int} {w : WinT} {l : List RowT} (h : RiseR l) : RiseR (restL k w l) := List.Pairwise.filter _ h
theorem ext_one {α : Type} (z : α) (c : Nat) (P : Nat → α) (x : α) : Ext z c P [x] (c + 1) (fun q => if q < c then P q else x) := ext_snoc (ps := []) (ext_nil z c P) fun _ _ => rfl
end Go.Rk
/- A record is taken. -/
namespace Go.Rk
set_option linter.unusedSimpArgs false
set_option linter.unusedVariables false
open Go.Proofs
set_option maxRecDepth 100000
set_option maxHeartbeats 1000000
def EXOT : FuncId → List Nat × Bool := fun f => bif nbeq f 105 then ([99], false) else bif nbeq f 106 then ([99], false) else ([], false)
def st_ot (j : JobT) (mk : Int) (x : ItmT) (nw : Nat) (g : Nat → WinT) (u n : Nat) (R : Nat → RowT) (c : Nat) (P : Nat → PaneT) (d : Nat) (Q : Nat → LatT) : St := ⟨[(36, .c (.d (eI u))), (35, .c (.d (eI nw))), (34, .c (.own 2176 0 nw 1)), (9, .c (.bp 1920 1 0)), (3, .c (.bp 192 1 0)), (5, .c (.bp 320 1 0)), (6, .c (.bp 384 1 0))], [(1920, 1, .box [.d (eI j.srcs), .d (eI j.tsks), .d (eI j.kind), .d (eI j.size), .d (eI j.step), .d (eI j.late), .d (eI j.tell), .d (eB j.piece), .d (eI j.least), .d (eI j.room), .d (eI mk), .own 1793 0 n 1, .own 2001 0 c 1, .own 2002 0 d 1]), (1793, 1, .arr 13 n fun i => eRow (R i)), (2001, 1, .arr 9 c fun i => ePane (P i)), (2002, 1, .arr 7 d fun i => eLat (Q i)), (192, 1, .box [.d (eI j.srcs), .d (eI j.tsks), .d (eI j.kind), .d (eI j.size), .d (eI j.step), .d (eI j.late), .d (eI j.tell), .d (eB j.piece), .d (eI j.least), .d (eI j.room)]), (320, 1, .box ((eItm x).map .d)), (384, 1, .box [.d (eI 0), .d (.v nilS)]), (2176, 1, .arr 2 nw fun i => eWin (g i))]⟩
theorem m_OpTake (j : JobT) (s : OpStT) (x : ItmT) (hok : OpOkP j s) (hrec : RecP x) (h280 : s.rows.n ≤ 280) (k : Nat) (G : Nat → RowT) (hG : Lst zRow (takeL j s.mark x (winsL j x.t) (rowsL s)).1 k G) (cz : Nat) (Pz : Nat → PaneT) (hPz : Lst zPan (takeL j s.mark x (winsL j x.t) (rowsL s)).2.1 cz Pz) (dz : Nat) (Qz : Nat → LatT) (hQz : Lst zLat (takeL j s.mark x (winsL j x.t) (rowsL s)).2.2 dz Qz) :
    Meets Try.prog 48 [xd (eJob j), .agg [.d (eI s.mark), .d (.sl 13 s.rows.n fun i => eRow (s.rows.g i))], xd (eItm x)] ⟨.tup [.agg [.d (eI s.mark), .own 13 k fun i => eRow (G i)], .c (.own 9 cz fun i => ePane (Pz i)), .c (.own 7 dz fun i => eLat (Qz i))], [none, none, none]⟩ := by
  obtain ⟨b1, hb1, cO⟩ := c_OpOk j s
  obtain ⟨b2, hb2, cR⟩ := c_isRecP x
  have hb1' : b1 = true := hb1.2 hok
  have hb2' : b2 = true := hb2.2 hrec
  subst hb1' hb2'
  have hrise := rise_ok hok
  have hall := all_ok hok
  have hjob := hok.1
  have hx : 0 ≤ x.t ∧ x.t ≤ 60 := by have h1 := hrec.1; have h2 := hrec.2; unfold ItmOkP at h2; omega
  obtain ⟨ws, hws⟩ : ∃ ws, ws = winsL j x.t := ⟨_, rfl⟩
  obtain ⟨L0, hL0⟩ : ∃ L0, L0 = rowsL s := ⟨_, rfl⟩
  obtain ⟨mk, n0, g0, hnL⟩ := s
  have h280 : n0 ≤ 280 := h280
  have hl0 : Lst zRow L0 n0 g0 := by rw [hL0]; exact lst_of zRow n0 g0
  rw [← hL0] at hrise hall hG hPz hQz
  rw [← hws] at hG hPz hQz
  obtain ⟨b3, hb3, cC⟩ := c_crowded mk n0 (by omega) g0
  have hb3' : b3 = false := by
    cases b3 with
    | false => rfl
    | true => exact absurd (hb3.1 rfl) (by omega)
  subst hb3'
  obtain ⟨nw, g, hg⟩ := lst_ex zWin ws
  have hnw : nw ≤ 100 := by rw [hg.1, hws]; exact winsL_len _ _
  have hnw2 : nw ≤ maxLen := Nat.le_trans hnw (by decide)
  have cW := c_WinOf j x.t hjob hx nw g (by rw [← hws]; exact lst_tells eWin hg)
  have hk3 : j.kind = 3 → nw = 1 ∧ (g 0).s < (g 0).e := fun h3 => by
    have e := winsL_sess h3 hjob.2.2.2.1.1 hx.1 hx.2
    rw [← hws] at e
    rw [e] at hg
    have e1 : nw = 1 := hg.1
    refine ⟨e1, ?_⟩
    have e2 : g 0 = ⟨x.t, x.t + j.size⟩ := hg.2 0 (by omega)
    rw [e2]
    have := hjob.2.2.2.1.1
    show x.t < x.t + j.size
    omega
  have cCp := c_copied mk n0 (by omega) g0
  refine meets_of (H := [11]) (EX := EXOT) ttok mixed Try.func48 rfl (by kernel_rfl) (by decide) ?_
  generalize hA : real = A
  generalize hM : MeetsB Try.prog = M
  cbv
  repeat' first
    | apply And.intro
    | exact True.intro
    | with_reducible rfl
    | exact same_of hA rfl
    | refine br_of hA (fun _ => ?_) (fun _ => ?_)
    | exact imp_of hA id
    | (refine imp_of hA ?_; subst hA; simp only [real, Bool.true_and]; exact id)
    | (refine ind_of hA ?_; decide +kernel)
    | (refine call_of hA hM _ cO ?_; cbv)
    | (refine call_of hA hM _ cR ?_; cbv)
    | (refine call_of hA hM _ cC ?_; cbv)
    | (refine call_of2 hA hM _ cCp (by subst hA; rfl) ?_; cbv)
    | (refine call_of hA hM _ cW ?_; cbv)
    | (exfalso; rename_i h; subst hA; simp [real] at h; done)
  refine loop_of hA (α := { y : Nat × (Nat × (Nat → RowT)) × (Nat × (Nat → PaneT)) × (Nat × (Nat → LatT)) // y.1 ≤ nw ∧ Lst zRow (takeL j mk x (ws.take y.1) L0).1 y.2.1.1 y.2.1.2 ∧ Lst zPan (takeL j mk x (ws.take y.1) L0).2.1 y.2.2.1.1 y.2.2.1.2 ∧ Lst zLat (takeL j mk x (ws.take y.1) L0).2.2 y.2.2.2.1 y.2.2.2.2 }) (fun y => st_ot j mk x nw g y.1.1 y.1.2.1.1 y.1.2.1.2 y.1.2.2.1.1 y.1.2.2.1.2 y.1.2.2.2.1 y.1.2.2.2.2) (fun y => nw - y.1.1) ⟨(0, (n0, g0), (0, fun _ => zPan), (0, fun _ => zLat)), Nat.zero_le _, hl0, ⟨rfl, fun k h => absurd h (Nat.not_lt_zero k)⟩, ⟨rfl, fun k h => absurd h (Nat.not_lt_zero k)⟩⟩ ?_ ?_
  · refine cov_promC 1920 2001 1 9 (fun i => ePane zPan) [.d (eI j.srcs), .d (eI j.tsks), .d (eI j.kind), .d (eI j.size), .d (eI j.step), .d (eI j.late), .d (eI j.tell), .d (eB j.piece), .d (eI j.least), .d (eI j.room), .d (eI mk), .own 1793 0 n0 1] [.d (.v nilS)] rfl rfl rfl (cov_promC 1920 2002 1 7 (fun i => eLat zLat) [.d (eI j.srcs), .d (eI j.tsks), .d (eI j.kind), .d (eI j.size), .d (eI j.step), .d (eI j.late), .d (eI j.tell), .d (eB j.piece), .d (eI j.least), .d (eI j.room), .d (eI mk), .own 1793 0 n0 1, .own 2001 0 0 1] [] rfl rfl rfl (cov_of ?_ ?_ ?_))
    · subst hA; (repeat' first | exact True.intro | exact rfl | apply And.intro)
    · subst hA; (repeat' first | exact True.intro | exact rfl | apply And.intro | (intro _ _; first | rfl | trivial) | (intro q hq; exact absurd hq (Nat.not_lt_zero q)))
    · subst hA; (repeat' first | exact True.intro | exact rfl | apply And.intro | exact .inl rfl | exact .inr (le_of_nble rfl))
  rintro ⟨⟨u, ⟨n, R⟩, ⟨c, P⟩, ⟨d, Q⟩⟩, hu, hR, hP, hQ⟩
  have hu : u ≤ nw := hu
  obtain ⟨T, hT⟩ : ∃ T, T = takeL j mk x (ws.take u) L0 := ⟨_, rfl⟩
  replace hR : Lst zRow T.1 n R := by rw [hT]; exact hR
  replace hP : Lst zPan T.2.1 c P := by rw [hT]; exact hP
  replace hQ : Lst zLat T.2.2 d Q := by rw [hT]; exact hQ
  have hTr : RiseR T.1 := by rw [hT]; exact rise_takeL hrise _
  have hlen := takeL_len (j := j) (m := mk) (x := x) (l := L0) (ws.take u)
  have hul : (ws.take u).length = u := by rw [List.length_take, ← hg.1]; omega
  rw [← hT, hul, ← hl0.1, ← hR.1, ← hP.1, ← hQ.1] at hlen
  obtain ⟨hn1, hc1, hd1⟩ := hlen
  have hc2 : c ≤ 100000 := by
    have h1 : u * (n0 + u + 1) ≤ 100 * 400 := Nat.mul_le_mul (by omega) (by omega)
    omega
  have hcx : c ≤ 1080000 := by omega
  have hdx : d ≤ 1080000 := by omega
  have hnext : ∀ (hlt : u < nw) (T' : List RowT × List PaneT × List LatT), takeS j mk x T (g u) = T' → takeL j mk x (ws.take (u + 1)) L0 = T' := fun hlt T' h => by rw [lst_take hg hlt, takeL_snoc, ← hT]; exact h
  have eq0 : A.add 0 (A.nat (Int.ofNat u)) = u := by subst hA; exact Nat.zero_add u
  cbv
  repeat' first
    | apply And.intro
    | exact True.intro
    | with_reducible rfl
    | exact same_of hA rfl
    | refine br_of hA (fun _ => ?_) (fun _ => ?_)
    | exact imp_of hA id
    | (refine imp_of hA ?_; subst hA; simp only [real, Bool.true_and]; exact id)
    | (refine ind_of hA ?_; decide +kernel)
    | (refine inb_lt hA ?_; first | exact lt2_of hA (by assumption) | exact lt_of hA (by assumption))
  · rename_i hlt hkd
    have hlt' : u < nw := lt2_of hA hlt
    have hkd : j.kind = 3 := eq_of hA hkd
    obtain ⟨hw1, hwg⟩ := hk3 hkd
    have hu0 : u = 0 := by omega
    have hT0 : T = (L0, [], []) := by rw [hT, hu0]; rfl
    have hallT : ∀ r, r ∈ T.1 → 1 ≤ r.all.n ∧ r.all.n ≤ 1000 := by rw [hT0]; exact hall
    have hn3 : n ≤ 300 := by omega
    have hstep : ∀ q, sessL j mk x.key x.v (g u) T.1 = q → stepT j mk x (g u) T.1 = q := fun q h => by unfold stepT; rw [if_pos hkd]; exact h
    obtain ⟨sp, hsp⟩ : ∃ sp, sp = spanL (g u) (oldL x.key (g u) T.1) := ⟨_, rfl⟩
    by_cases hov : w64 (sp.e + j.late) ≤ mk
    · have hs := takeS_none (hstep _ (sess_gone (by rw [← hsp]; exact hov)))
      have kW := fun q (e : q = u) => k_sg j mk n R c hcx P d hdx Q x (g q) hn3 (by omega) T.1 hR sp (by rw [e]; exact hsp) hov (fun z => if z < d then Q z else ⟨x, g u⟩) (fun z _ => by rw [e])
      refine inl_call hA _ _ _ ⟨fun _ => (by rw [← hM]; exact kW _ eq0), (by cbv; repeat' first | apply And.intro | exact True.intro | rfl | exact .inr trivial | exact .inl trivial | exact .inl (Nat.le_refl _)), ?_⟩
      cbv
      repeat' first
        | apply And.intro
        | exact True.intro
        | with_reducible rfl
        | exact same_of hA rfl
        | refine br_of hA (fun _ => ?_) (fun _ => ?_)
        | exact imp_of hA id
        | (refine imp_of hA ?_; subst hA; simp only [real, Bool.true_and]; exact id)
        | (refine ind_of hA ?_; decide +kernel)
      refine ⟨⟨(u + 1, (n, R), (c, P), (d + 1, fun z => if z < d then Q z else ⟨x, g u⟩)), hlt', ?_, ?_, ?_⟩, by dsimp only; omega, cov_of ?_ ?_ ?_⟩
      · dsimp only; rw [hnext hlt' _ hs]; exact hR
      · dsimp only; rw [hnext hlt' _ hs]; exact hP
      · dsimp only; rw [hnext hlt' _ hs]; exact lst_snoc hQ
      · (subst hA; (repeat' first | exact True.intro | exact rfl | apply And.intro | exact congrArg (fun x => DV.v (.int .i64 x)) (up64 hlt' hnw2)))
      · (subst hA; (repeat' first | exact True.intro | exact rfl | apply And.intro | (intro _ _; first | rfl | trivial)))
      · (subst hA; (repeat' first | exact True.intro | exact rfl | apply And.intro | exact .inl rfl | exact .inr (le_of_nble rfl)))
    · have hov : mk < w64 (sp.e + j.late) := by omega
      by_cases hone : oneB sp (oldL x.key (g u) T.1) = true
      · obtain ⟨i, hi, he, hb⟩ := one_found hR (by rw [← hsp]; exact hone)
        rw [← hsp] at he
        have hb : ∀ q, q < i → ¬ IsR x.key sp (R q) := by rw [hsp]; exact hb
        obtain ⟨t, ht⟩ : ∃ t, t = tellS j mk (addR (R i) x.v) := ⟨_, rfl⟩
        have hin := into_found (k := x.key) (v := x.v) hR hov hi he hb
        rw [← ht] at hin
        have hs := takeS_some (hstep _ ((sess_one (by rw [← hsp]; exact hov) (by rw [← hsp]; exact hone)).trans (by rw [← hsp]; exact hin)))
        obtain ⟨c', P', hE⟩ := ext_ex zPan c P t.2
        have kW := fun q (e : q = u) => k_so j mk n R c hcx P d hdx Q x (g q) hn3 (by omega) T.1 hR sp (by rw [e]; exact hsp) hov (by rw [e]; exact hone) i hi he hb t ht (fun q => if q = i then t.1 else R q) (fun q _ => rfl) c' P' hE
        refine inl_call hA _ _ _ ⟨fun _ => (by rw [← hM]; exact kW _ eq0), (by cbv; repeat' first | apply And.intro | exact True.intro | rfl | exact .inr trivial | exact .inl trivial | exact .inl (Nat.le_refl _)), ?_⟩
        cbv
        repeat' first
          | apply And.intro
          | exact True.intro
          | with_reducible rfl
          | exact same_of hA rfl
          | refine br_of hA (fun _ => ?_) (fun _ => ?_)
          | exact imp_of hA id
          | (refine imp_of hA ?_; subst hA; simp only [real, Bool.true_and]; exact id)
          | (refine ind_of hA ?_; decide +kernel)
        refine ⟨⟨(u + 1, (n, fun q => if q = i then t.1 else R q), (c', P'), (d, Q)), hlt', ?_, ?_, ?_⟩, by dsimp only; omega, cov_of ?_ ?_ ?_⟩
        · dsimp only; rw [hnext hlt' _ hs]; exact rput_found hR hTr hi he (by rw [ht]; exact tellS_is (addR_is he)) (fun q _ => rfl)
        · dsimp only; rw [hnext hlt' _ hs]; exact ext_lst hP hE
        · dsimp only; rw [hnext hlt' _ hs]; exact hQ
        · (subst hA; (repeat' first | exact True.intro | exact rfl | apply And.intro | exact congrArg (fun x => DV.v (.int .i64 x)) (up64 hlt' hnw2)))
        · (subst hA; (repeat' first | exact True.intro | exact rfl | apply And.intro | (intro _ _; first | rfl | trivial)))
        · (subst hA; (repeat' first | exact True.intro | exact rfl | apply And.intro | exact .inl rfl | exact .inr (le_of_nble rfl)))
      · have hone : oneB sp (oldL x.key (g u) T.1) = false := by
          cases h : oneB sp (oldL x.key (g u) T.1) with
          | true => exact absurd h hone
          | false => rfl
        obtain ⟨a, ha⟩ : ∃ a, a = aggAdd (((oldL x.key (g u) T.1).map (·.all)).foldl aggB zAgg) x.v := ⟨_, rfl⟩
        obtain ⟨r0, hr0⟩ : ∃ r0 : RowT, r0 = ⟨x.key, sp, a, a, 0, false⟩ := ⟨_, rfl⟩
        obtain ⟨kr, Rr, hr⟩ := lst_ex zRow (restL x.key (g u) T.1)
        obtain ⟨cg, Pg, hPg⟩ := ext_ex zPan c P (goneL (oldL x.key (g u) T.1))
        obtain ⟨i, hi, h1, h2⟩ := pos_ex hr (rest_rise hTr) r0
        have hr0is : IsR x.key sp r0 := by rw [hr0]; exact ⟨rfl, rfl, rfl⟩
        have hsn := sess_new (j := j) (m := mk) (l := T.1) (r0 := r0) (by rw [← hsp]; exact hov) (by rw [← hsp]; exact hone) (show T.1.length ≤ 1000 by rw [← hR.1]; omega) hallT ha (by rw [← hsp]; exact hr0)
        have hs := takeS_some (hstep _ hsn)
        have hno : ∀ q, q < kr → ¬ IsR x.key sp (Rr q) := fun q hq => by
          rw [hsp]
          refine rest_no (by rw [hu0]; exact hwg) ?_
          have := lst_at hr hq
          exact List.mem_of_getElem? this
        obtain ⟨vp, hvp⟩ : ∃ vp, vp = (goneL (oldL x.key (g u) T.1)).length + 2 := ⟨_, rfl⟩
        have hvp2 : 2 ≤ vp := by omega
        by_cases hm : mk < sp.e
        · have htl : tellS j mk r0 = (r0, []) := by
            unfold tellS; rw [if_pos (show mk < r0.win.e by rw [hr0]; exact hm)]
          rw [htl] at hs
          obtain ⟨R', hR'⟩ : ∃ R' : Nat → RowT, R' = fun q => if q < i then Rr q else if q = i then r0 else Rr (q - 1) := ⟨_, rfl⟩
          have kW := fun q (e : q = u) => k_sn j mk n R c hcx P d hdx Q x (g q) hn3 (by omega) T.1 hR sp (by rw [e]; exact hsp) hov (by rw [e]; exact hone) a (by rw [e]; exact ha) kr Rr (by rw [e]; exact hr) cg Pg (by rw [e]; exact hPg) vp (by rw [e]; exact hvp) r0 hr0 i hi h1 h2 hm R' (fun q _ => by rw [hR'])
          refine inl_call hA _ _ _ ⟨fun _ => (by rw [← hM]; exact kW _ eq0), (by cbv; repeat' first | apply And.intro | exact True.intro | rfl | exact .inr trivial | exact .inl trivial | exact .inl (Nat.le_refl _) | exact .inl hvp2), ?_⟩
          cbv
          repeat' first
            | apply And.intro
            | exact True.intro
            | with_reducible rfl
            | exact same_of hA rfl
            | refine br_of hA (fun _ => ?_) (fun _ => ?_)
            | exact imp_of hA id
            | (refine imp_of hA ?_; subst hA; simp only [real, Bool.true_and]; exact id)
            | (refine ind_of hA ?_; decide +kernel)
          refine ⟨⟨(u + 1, (kr + 1, R'), (cg, Pg), (d, Q)), hlt', ?_, ?_, ?_⟩, by dsimp only; omega, cov_relB 1920 2664 1793 3 13 (fun i => eRow (R' i)) [.d (eI j.srcs), .d (eI j.tsks), .d (eI j.kind), .d (eI j.size), .d (eI j.step), .d (eI j.late), .d (eI j.tell), .d (eB j.piece), .d (eI j.least), .d (eI j.room), .d (eI mk)] [.own 2001 0 cg vp, .own 2002 0 d 1] rfl rfl rfl rfl rfl rfl (cov_of ?_ ?_ ?_)⟩
          · dsimp only; rw [hnext hlt' _ hs]; exact rput_new (r := r0) hr hi (fun q hq => ra_r hr0is hr0is (h1 q hq)) (fun q a b hra => h2 q a b (ra_r hr0is hr0is hra)) (fun q hq => by rw [(isR_eq hr0is).1, (isR_eq hr0is).2]; exact hno q hq) (fun q _ => by rw [hR'])
          · dsimp only; rw [hnext hlt' _ hs]; exact ext_lst hP (by rw [List.append_nil]; exact hPg)
          · dsimp only; rw [hnext hlt' _ hs]; exact hQ
          · (subst hA; (repeat' first | exact True.intro | exact rfl | apply And.intro | exact congrArg (fun x => DV.v (.int .i64 x)) (up64 hlt' hnw2)))
          · (subst hA; (repeat' first | exact True.intro | exact rfl | apply And.intro | (intro _ _; first | rfl | trivial)))
          · (subst hA; (repeat' first | exact True.intro | exact rfl | apply And.intro | exact .inl rfl | exact .inr (le_of_nble rfl)))
        · have htl : tellS j mk r0 = (toldR r0, [paneP j.piece r0 1]) := by
            unfold tellS; rw [if_neg (show ¬ mk < r0.win.e by rw [hr0]; exact hm), show kindT r0 = 1 from (by rw [hr0]; rfl)]
          rw [htl] at hs
          obtain ⟨R', hR'⟩ : ∃ R' : Nat → RowT, R' = fun q => if q < i then Rr q else if q = i then toldR r0 else Rr (q - 1) := ⟨_, rfl⟩
          have kW := fun q (e : q = u) => k_st j mk n R c hcx P d hdx Q x (g q) hn3 (by omega) T.1 hR sp (by rw [e]; exact hsp) hov (by rw [e]; exact hone) a (by rw [e]; exact ha) kr Rr (by rw [e]; exact hr) cg Pg (by rw [e]; exact hPg) vp (by rw [e]; exact hvp) r0 hr0 i hi h1 h2 hm R' (fun q _ => by rw [hR']) (fun q => if q < cg then Pg q else paneP j.piece r0 1) (fun q _ => rfl)
          refine inl_call hA _ _ _ ⟨fun _ => (by rw [← hM]; exact kW _ eq0), (by cbv; repeat' first | apply And.intro | exact True.intro | rfl | exact .inr trivial | exact .inl trivial | exact .inl (Nat.le_refl _) | exact .inl hvp2), ?_⟩
          cbv
          repeat' first
            | apply And.intro
            | exact True.intro
            | with_reducible rfl
            | exact same_of hA rfl
            | refine br_of hA (fun _ => ?_) (fun _ => ?_)
            | exact imp_of hA id
            | (refine imp_of hA ?_; subst hA; simp only [real, Bool.true_and]; exact id)
            | (refine ind_of hA ?_; decide +kernel)
          refine ⟨⟨(u + 1, (kr + 1, R'), (cg + 1, fun q => if q < cg then Pg q else paneP j.piece r0 1), (d, Q)), hlt', ?_, ?_, ?_⟩, by dsimp only; omega, cov_relB 1920 2664 1793 3 13 (fun i => eRow (R' i)) [.d (eI j.srcs), .d (eI j.tsks), .d (eI j.kind), .d (eI j.size), .d (eI j.step), .d (eI j.late), .d (eI j.tell), .d (eB j.piece), .d (eI j.least), .d (eI j.room), .d (eI mk)] [.own 2001 0 (cg + 1) vp, .own 2002 0 d 1] rfl rfl rfl rfl rfl rfl (cov_of ?_ ?_ ?_)⟩
          · dsimp only; rw [hnext hlt' _ hs]; exact rput_new (r := toldR r0) hr hi (fun q hq => ra_r hr0is (toldR_is hr0is) (h1 q hq)) (fun q a b hra => h2 q a b (ra_r (toldR_is hr0is) hr0is hra)) (fun q hq => by rw [(isR_eq (toldR_is hr0is)).1, (isR_eq (toldR_is hr0is)).2]; exact hno q hq) (fun q _ => by rw [hR'])
          · dsimp only; rw [hnext hlt' _ hs]; exact ext_lst hP (ext_app hPg (ext_one zPan cg Pg _))
          · dsimp only; rw [hnext hlt' _ hs]; exact hQ
          · (subst hA; (repeat' first | exact True.intro | exact rfl | apply And.intro | exact congrArg (fun x => DV.v (.int .i64 x)) (up64 hlt' hnw2)))
          · (subst hA; (repeat' first | exact True.intro | exact rfl | apply And.intro | (intro _ _; first | rfl | trivial)))
          · (subst hA; (repeat' first | exact True.intro | exact rfl | apply And.intro | exact .inl rfl | exact .inr (le_of_nble rfl)))
  · rename_i hlt hkd
    have hlt' : u < nw := lt2_of hA hlt
    have hkd : ¬ j.kind = 3 := ne_of hA hkd
    have hstep : ∀ q, intoL j mk x.key x.v (g u) T.1 = q → stepT j mk x (g u) T.1 = q := fun q h => by unfold stepT; rw [if_neg hkd]; exact h
    by_cases hov : w64 ((g u).e + j.late) ≤ mk
    · have hs := takeS_none (hstep _ (if_pos hov))
      have kW := fun q (e : q = u) => k_wgone j mk n R c hcx P d hdx Q x (g q) (by rw [e]; exact hov) (fun z => if z < d then Q z else ⟨x, g u⟩) (fun z _ => by rw [e])
      refine inl_call hA _ _ _ ⟨fun _ => (by rw [← hM]; exact kW _ eq0), (by cbv; repeat' first | apply And.intro | exact True.intro | rfl | exact .inr trivial | exact .inl trivial | exact .inl (Nat.le_refl _)), ?_⟩
      cbv
      repeat' first
        | apply And.intro
        | exact True.intro
        | with_reducible rfl
        | exact same_of hA rfl
        | refine br_of hA (fun _ => ?_) (fun _ => ?_)
        | exact imp_of hA id
        | (refine imp_of hA ?_; subst hA; simp only [real, Bool.true_and]; exact id)
        | (refine ind_of hA ?_; decide +kernel)
      refine ⟨⟨(u + 1, (n, R), (c, P), (d + 1, fun z => if z < d then Q z else ⟨x, g u⟩)), hlt', ?_, ?_, ?_⟩, by dsimp only; omega, cov_of ?_ ?_ ?_⟩
      · dsimp only; rw [hnext hlt' _ hs]; exact hR
      · dsimp only; rw [hnext hlt' _ hs]; exact hP
      · dsimp only; rw [hnext hlt' _ hs]; exact lst_snoc hQ
      · (subst hA; (repeat' first | exact True.intro | exact rfl | apply And.intro | exact congrArg (fun x => DV.v (.int .i64 x)) (up64 hlt' hnw2)))
      · (subst hA; (repeat' first | exact True.intro | exact rfl | apply And.intro | (intro _ _; first | rfl | trivial)))
      · (subst hA; (repeat' first | exact True.intro | exact rfl | apply And.intro | exact .inl rfl | exact .inr (le_of_nble rfl)))
    · have hov : mk < w64 ((g u).e + j.late) := by omega
      obtain ⟨z, hz⟩ := firstIx_ex n fun q => IsR x.key (g u) (R q)
      cases hz with
      | «at» i hi he hb =>
        obtain ⟨t, ht⟩ : ∃ t, t = tellS j mk (addR (R i) x.v) := ⟨_, rfl⟩
        have hin := into_found (k := x.key) (v := x.v) hR hov hi he hb
        rw [← ht] at hin
        have hs := takeS_some (hstep _ hin)
        obtain ⟨c', P', hE⟩ := ext_ex zPan c P t.2
        have kW := fun q (e : q = u) => k_wfound j mk n R c hcx P d hdx Q x (g q) (by omega) (by rw [e]; exact hov) i hi (by rw [e]; exact he) (by rw [e]; exact hb) t ht (fun q => if q = i then t.1 else R q) (fun q _ => rfl) c' hE.1 P' hE.2
        refine inl_call hA _ _ _ ⟨fun _ => (by rw [← hM]; exact kW _ eq0), (by cbv; repeat' first | apply And.intro | exact True.intro | rfl | exact .inr trivial | exact .inl trivial | exact .inl (Nat.le_refl _)), ?_⟩
        cbv
        repeat' first
          | apply And.intro
          | exact True.intro
          | with_reducible rfl
          | exact same_of hA rfl
          | refine br_of hA (fun _ => ?_) (fun _ => ?_)
          | exact imp_of hA id
          | (refine imp_of hA ?_; subst hA; simp only [real, Bool.true_and]; exact id)
          | (refine ind_of hA ?_; decide +kernel)
        refine ⟨⟨(u + 1, (n, fun q => if q = i then t.1 else R q), (c', P'), (d, Q)), hlt', ?_, ?_, ?_⟩, by dsimp only; omega, cov_of ?_ ?_ ?_⟩
        · dsimp only; rw [hnext hlt' _ hs]; exact rput_found hR hTr hi he (by rw [ht]; exact tellS_is (addR_is he)) (fun q _ => rfl)
        · dsimp only; rw [hnext hlt' _ hs]; exact ext_lst hP hE
        · dsimp only; rw [hnext hlt' _ hs]; exact hQ
        · (subst hA; (repeat' first | exact True.intro | exact rfl | apply And.intro | exact congrArg (fun x => DV.v (.int .i64 x)) (up64 hlt' hnw2)))
        · (subst hA; (repeat' first | exact True.intro | exact rfl | apply And.intro | (intro _ _; first | rfl | trivial)))
        · (subst hA; (repeat' first | exact True.intro | exact rfl | apply And.intro | exact .inl rfl | exact .inr (le_of_nble rfl)))
      | none hb =>
        obtain ⟨t, ht⟩ : ∃ t, t = tellS j mk (addR (nrow x.key (g u)) x.v) := ⟨_, rfl⟩
        have hin := into_new (k := x.key) (v := x.v) hR hov hb
        rw [← ht] at hin
        have hs := takeS_some (hstep _ hin)
        obtain ⟨c', P', hE⟩ := ext_ex zPan c P t.2
        obtain ⟨i, hi, h1, h2⟩ := pos_ex hR hTr (nrow x.key (g u))
        have hti : IsR x.key (g u) t.1 := by rw [ht]; exact tellS_is (addR_is (nrow_is _ _))
        obtain ⟨R', hR'⟩ : ∃ R' : Nat → RowT, R' = fun q => if q < i then R q else if q = i then t.1 else R (q - 1) := ⟨_, rfl⟩
        have kW := fun q (e : q = u) => k_wnew j mk n R c hcx P d hdx Q x (g q) (by omega) (by rw [e]; exact hov) (by rw [e]; exact hb) i hi (by rw [e]; exact h1) (by rw [e]; exact h2) t (by rw [e]; exact ht) R' (fun q _ => by rw [hR']) c' hE.1 P' hE.2
        refine inl_call hA _ _ _ ⟨fun _ => (by rw [← hM]; exact kW _ eq0), (by cbv; repeat' first | apply And.intro | exact True.intro | rfl | exact .inr trivial | exact .inl trivial | exact .inl (Nat.le_refl _)), ?_⟩
        cbv
        repeat' first
          | apply And.intro
          | exact True.intro
          | with_reducible rfl
          | exact same_of hA rfl
          | refine br_of hA (fun _ => ?_) (fun _ => ?_)
          | exact imp_of hA id
          | (refine imp_of hA ?_; subst hA; simp only [real, Bool.true_and]; exact id)
          | (refine ind_of hA ?_; decide +kernel)
        refine ⟨⟨(u + 1, (n + 1, R'), (c', P'), (d, Q)), hlt', ?_, ?_, ?_⟩, by dsimp only; omega, cov_relB 1920 2664 1793 3 13 (fun i => eRow (R' i)) [.d (eI j.srcs), .d (eI j.tsks), .d (eI j.kind), .d (eI j.size), .d (eI j.step), .d (eI j.late), .d (eI j.tell), .d (eB j.piece), .d (eI j.least), .d (eI j.room), .d (eI mk)] [.own 2001 0 c' 2, .own 2002 0 d 1] rfl rfl rfl rfl rfl rfl (cov_of ?_ ?_ ?_)⟩
        · dsimp only; rw [hnext hlt' _ hs]; exact rput_new (r := t.1) hR hi (fun q hq => ra_r (nrow_is _ _) hti (h1 q hq)) (fun q a b hra => h2 q a b (ra_r hti (nrow_is _ _) hra)) (fun q hq => by rw [(isR_eq hti).1, (isR_eq hti).2]; exact hb q hq) (fun q _ => by rw [hR'])
        · dsimp only; rw [hnext hlt' _ hs]; exact ext_lst hP hE
        · dsimp only; rw [hnext hlt' _ hs]; exact hQ
        · (subst hA; (repeat' first | exact True.intro | exact rfl | apply And.intro | exact congrArg (fun x => DV.v (.int .i64 x)) (up64 hlt' hnw2)))
        · (subst hA; (repeat' first | exact True.intro | exact rfl | apply And.intro | (intro _ _; first | rfl | trivial)))
        · (subst hA; (repeat' first | exact True.intro | exact rfl | apply And.intro | exact .inl rfl | exact .inr (le_of_nble rfl)))
  rename_i hge
  have hun : nw = u := by have := ge2_of hA hge; omega
  have hR9 : Lst zRow T.1 n R := hR
  have hP9 : Lst zPan T.2.1 c P := hP
  have hQ9 : Lst zLat T.2.2 d Q := hQ
  subst hun
  rw [lst_all hg] at hT
  rw [← hT] at hG hPz hQz
  have e1 : n = k := hR9.1.trans hG.1.symm
  have e2 : c = cz := hP9.1.trans hPz.1.symm
  have e3 : d = dz := hQ9.1.trans hQz.1.symm
  subst e1 e2 e3
  refine stop_of hA ⟨[(9, .c (.bp 1920 1 0)), (3, .c (.bp 192 1 0)), (5, .c (.bp 320 1 0)), (6, .c (.bp 384 1 0))], [(1920, 1, .box [.d (eI j.srcs), .d (eI j.tsks), .d (eI j.kind), .d (eI j.size), .d (eI j.step), .d (eI j.late), .d (eI j.tell), .d (eB j.piece), .d (eI j.least), .d (eI j.room), .d (eI mk), .own 1793 0 n 1, .own 2001 0 c 1, .own 2002 0 d 1]), (1793, 1, .arr 13 n fun i => eRow (G i)), (2001, 1, .arr 9 c fun i => ePane (Pz i)), (2002, 1, .arr 7 d fun i => eLat (Qz i)), (192, 1, .box [.d (eI j.srcs), .d (eI j.tsks), .d (eI j.kind), .d (eI j.size), .d (eI j.step), .d (eI j.late), .d (eI j.tell), .d (eB j.piece), .d (eI j.least), .d (eI j.room)]), (320, 1, .box ((eItm x).map .d)), (384, 1, .box [.d (eI 0), .d (.v nilS)]), (2176, 1, .arr 2 nw fun i => eWin (g i))]⟩ (cov_of ?_ ?_ ?_) ?_
  · subst hA; (repeat' first | exact True.intro | exact rfl | apply And.intro)
  · subst hA; (repeat' first | exact True.intro | exact rfl | apply And.intro | (intro _ _; first | rfl | trivial) | (intro q hq; exact congrArg eRow ((hR9.2 q hq).trans (hG.2 q hq).symm)) | (intro q hq; exact congrArg ePane ((hP9.2 q hq).trans (hPz.2 q hq).symm)) | (intro q hq; exact congrArg eLat ((hQ9.2 q hq).trans (hQz.2 q hq).symm)))
  · subst hA; (repeat' first | exact True.intro | exact rfl | apply And.intro | exact .inl rfl | exact .inr (le_of_nble rfl))
  cbv
  repeat' first
    | apply And.intro
    | exact True.intro
    | with_reducible rfl
    | exact same_of hA rfl
    | refine br_of hA (fun _ => ?_) (fun _ => ?_)
    | exact imp_of hA id
    | (refine imp_of hA ?_; subst hA; simp only [real, Bool.true_and]; exact id)
    | (refine ind_of hA ?_; decide +kernel)
theorem c_OpTake (j : JobT) (s : OpStT) (hn : s.rows.n ≤ 1080000) (x : ItmT) (y : Int × List RowT × List PaneT × List LatT) (hy : y = opTakeL j s x) (k : Nat) (G : Nat → RowT) (hG : Lst zRow y.2.1 k G) (c : Nat) (P : Nat → PaneT) (hP : Lst zPan y.2.2.1 c P) (d : Nat) (Q : Nat → LatT) (hQ : Lst zLat y.2.2.2 d Q) :
    Meets Try.prog 48 [xd (eJob j), .agg [.d (eI s.mark), .d (.sl 13 s.rows.n fun i => eRow (s.rows.g i))], xd (eItm x)] ⟨.tup [.agg [.d (eI y.1), .own 13 k fun i => eRow (G i)], .c (.own 9 c fun i => ePane (P i)), .c (.own 7 d fun i => eLat (Q i))], [none, none, none]⟩ := by
  unfold opTakeL at hy
  by_cases hok : OpOkP j s ∧ RecP x ∧ s.rows.n ≤ 280
  · rw [if_pos hok] at hy
    subst hy
    exact m_OpTake j s x hok.1 hok.2.1 hok.2.2 k G hG c P hP d Q hQ
  · rw [if_neg hok] at hy
    subst hy
    have hk0 : k = 0 := hG.1
    have hc0 : c = 0 := hP.1
    have hd0 : d = 0 := hQ.1
    subst hk0 hc0 hd0
    obtain ⟨mk, n, g, hnL⟩ := s
    have hn : n ≤ 1080000 := hn
    refine meets_up (res := .tup [.agg [.d (eI 0), .d (.v nilS)], .c (.d (.v nilS)), .c (.d (.v nilS))]) ⟨⟨UpV.refl _, UpV.nil 13 fun i => eRow (G i), trivial⟩, UpV.nil 9 fun i => ePane (P i), UpV.nil 7 fun i => eLat (Q i), trivial⟩ ?_
    obtain ⟨b1, hb1, cO⟩ := c_OpOk j ⟨mk, ⟨n, g, hnL⟩⟩
    obtain ⟨b2, hb2, cR⟩ := c_isRecP x
    obtain ⟨b3, hb3, cC⟩ := c_crowded mk n hn g
    have hbb : ¬ (b1 = true ∧ b2 = true ∧ b3 = false) := fun h => hok ⟨hb1.1 h.1, hb2.1 h.2.1, Nat.le_of_not_lt fun hc => by have := hb3.2 hc; rw [h.2.2] at this; cases this⟩
    have no3 : ∀ {A : Ar}, real = A → A.bite (A.bite (A.bnot b1) true (A.bnot b2)) true b3 = false → False := fun hA h => by
      subst hA
      have h : (bif (bif !b1 then true else !b2) then true else b3) = false := h
      cases b1 <;> cases b2 <;> cases b3 <;> simp at h hbb
    refine meets_of (H := []) (EX := EXA) ttok mixed Try.func48 rfl (by kernel_rfl) (by decide) ?_
    generalize hA : real = A
    generalize hM : MeetsB Try.prog = M
    cbv
    repeat' first
      | exact (no3 hA (by assumption)).elim
      | apply And.intro
      | exact True.intro
      | with_reducible rfl
      | exact same_of hA rfl
      | refine br_of hA (fun _ => ?_) (fun _ => ?_)
      | exact imp_of hA id
      | (refine imp_of hA ?_; subst hA; simp only [real, Bool.true_and]; exact id)
      | (refine ind_of hA ?_; decide +kernel)
      | (refine call_of hA hM _ cO ?_; cbv)
      | (refine call_of hA hM _ cR ?_; cbv)
      | (refine call_of hA hM _ cC ?_; cbv)
    all_goals first | (subst hA; rfl) | (subst hA; trace_state)
end Go.Rk
/- A row put in its place, step by step. -/
namespace Go.Rk
set_option linter.unusedSimpArgs false
set_option linter.unusedVariables false
theorem app_if2 {α : Type} (e : α → List DV) {n : Nat} {G H : Nat → α} (i : Nat) : real.app n (fun i => e (G i)) (fun i => e (H i)) i = e (if i < n then G i else H (i - n)) := by
  show (if i < n then e (G i) else e (H (i - n))) = _
  by_cases a : i < n
  · rw [if_pos a, if_pos a]
  · rw [if_neg a, if_neg a]
theorem lst_app {α : Type} {z : α} {l m : List α} {n k : Nat} {G H : Nat → α} (h1 : Lst z l n G) (h2 : Lst z m k H) : Lst z (l ++ m) (n + k) (fun i => if i < n then G i else H (i - n)) := by
  refine ⟨by rw [List.length_append, h1.1, h2.1], fun i hi => ?_⟩
  show (if i < n then G i else H (i - n)) = _
  by_cases a : i < n
  · rw [if_pos a, h1.2 i a, List.getD_eq_getElem?_getD, List.getD_eq_getElem?_getD, List.getElem?_append_left (by rw [← h1.1]; exact a)]
  · rw [if_neg a, h2.2 (i - n) (by omega), List.getD_eq_getElem?_getD, List.getD_eq_getElem?_getD, List.getElem?_append_right (by rw [← h1.1]; omega), ← h1.1]
end Go.Rk
/- Draws: pick. -/
namespace Go.Rk
set_option linter.unusedSimpArgs false
set_option linter.unusedVariables false
open Go.Proofs
set_option maxRecDepth 100000
set_option maxHeartbeats 1000000
set_option maxRecDepth 100000 in
theorem m_open (M0 : Nat) (b : Nat → Int) (m : Nat) (hm : m = if 2000 < M0 then 2000 else M0) : Meets Try.prog 53 [.c (.d (.sl 1 M0 fun i => [eU (b i)]))] ⟨.one (.c (.box [.d (.sl 1 m fun i => [eU (b i)]), .d (eI 0)])), [none]⟩ := by
  refine meets_of (H := []) (EX := EXA) ttok mixed Try.func53 rfl (by kernel_rfl) (by decide) ?_
  generalize hA : real = A
  generalize hM : MeetsB Try.prog = M
  cbv
  repeat' first
    | apply And.intro
    | exact True.intro
    | with_reducible rfl
    | exact same_of hA rfl
    | refine br_of hA (fun _ => ?_) (fun _ => ?_)
    | exact imp_of hA id
    | (refine imp_of hA ?_; subst hA; simp only [real, Bool.true_and]; exact id)
    | (refine ind_of hA ?_; decide +kernel)
    | (refine cut_of hA ?_; rename_i h; subst hA; have h9 : decide ((M0 : Int) > 2000) = true := h; have := of_decide_eq_true h9; exact ⟨Int.le_refl _, (by decide), (show (2000 : Int) ≤ (M0 : Int) by omega)⟩)
  · rename_i h
    subst hA
    have h9 : decide ((M0 : Int) > 2000) = true := h
    have h8 := of_decide_eq_true h9
    have e : m = 2000 := by rw [hm]; exact if_pos (by omega)
    subst e
    have e2 : (fun i => (fun i => [eU (b i)]) (0 + i)) = fun i => [eU (b i)] := by funext i; rw [Nat.zero_add]
    exact congrArg (fun f => XA.one (XT.c (.box [.d (.sl 1 2000 f), .d (eI 0)]))) e2
  · rename_i h
    subst hA
    have h9 : decide ((M0 : Int) > 2000) = false := h
    have h8 := of_decide_eq_false h9
    have e : m = M0 := by rw [hm]; exact if_neg (by omega)
    subst e
    rfl
set_option maxRecDepth 100000 in
theorem m_pick (m : Nat) (hm : m ≤ 2000) (b : Nat → Int) (hb : ∀ i, 0 ≤ b i ∧ b i ≤ 255) (p : Int) (hp : 0 ≤ p ∧ p ≤ 1000000) (n : Int) (hn : 1 ≤ n ∧ n ≤ 1000000) (x : Int) (hx : x = pickV m b p n) (q : Int) (hq : q = p + 1) : Meets Try.prog 56 [.c (.box [.d (.sl 1 m fun i => [eU (b i)]), .d (eI p)]), .c (.d (eI n))] ⟨.one (.c (.d (eI x))), [some (.box [.d (.sl 1 m fun i => [eU (b i)]), .d (eI q)]), none]⟩ := by
  have w1 : IntKind.i64.wrap (p + 1) = q := by rw [IntWalk.i64_in _ (by omega)]; omega
  have w2 : IntKind.i64.wrap (q - 1) = p := by rw [IntWalk.i64_in _ (by omega)]; omega
  have w7 : IntKind.i64.wrap (p * 7) = p * 7 := IntWalk.i64_in _ (by omega)
  have w73 : IntKind.i64.wrap (p * 7 + 3) = p * 7 + 3 := IntWalk.i64_in _ (by omega)
  have mpos : real.bite (real.cmp .lss n 1) true (real.cmp .eql (real.int m) 0) = false → 1 ≤ m := fun h => by
    have h : (bif decide (n < 1) then true else ((m : Int) == 0)) = false := h
    rw [decide_eq_false (by omega)] at h
    have h : ((m : Int) == 0) = false := h
    have h : ¬ (m : Int) = 0 := by simpa using h
    omega
  refine meets_of (H := []) (EX := EXA) ttok mixed Try.func56 rfl (by kernel_rfl) (by decide) ?_
  generalize hA : real = A
  generalize hM : MeetsB Try.prog = M
  cbv
  repeat' first
    | apply And.intro
    | exact True.intro
    | with_reducible rfl
    | exact same_of hA rfl
    | refine br_of hA (fun _ => ?_) (fun _ => ?_)
    | exact imp_of hA id
    | (refine imp_of hA ?_; subst hA; simp only [real, Bool.true_and]; exact id)
    | (refine ind_of hA ?_; decide +kernel)
    | (refine nz_of hA ?_; first | (show n ≠ 0; omega) | (show (64 : Int) ≠ 0; decide) | (rename_i h1 h2; subst hA; have h3 := mpos h1; show (m : Int) ≠ 0; omega))
  · rename_i hbad
    subst hA
    have h : (bif decide (n < 1) then true else ((m : Int) == 0)) = true := hbad
    rw [decide_eq_false (by omega)] at h
    have h : ((m : Int) == 0) = true := h
    have h : (m : Int) = 0 := by simpa using h
    refine congrArg (fun z => XA.one (.c (.d (eI z)))) ?_
    rw [hx]; unfold pickV; rw [if_pos (by omega)]
  · rename_i hbad
    subst hA
    exact congrArg (fun z => [some (XV.box [XC.d (DV.sl 1 m fun i => [eU (b i)]), XC.d (eI z)]), none]) w1
  · rename_i hg hlt
    refine inb_of hA fun _ => ?_
    subst hA
    have hlt : decide (IntKind.i64.wrap (IntKind.i64.wrap (p + 1) - 1) < (m : Int)) = true := hlt
    have hlt := of_decide_eq_true hlt
    show 0 ≤ IntKind.i64.wrap (IntKind.i64.wrap (p + 1) - 1) ∧ IntKind.i64.wrap (IntKind.i64.wrap (p + 1) - 1) < (m : Int)
    rw [w1, w2] at hlt ⊢
    exact ⟨hp.1, hlt⟩
  · rename_i hg hlt
    subst hA
    have hlt : decide (IntKind.i64.wrap (IntKind.i64.wrap (p + 1) - 1) < (m : Int)) = true := hlt
    have hlt := of_decide_eq_true hlt
    rw [w1, w2] at hlt
    refine congrArg (fun z => XA.one (.c (.d (eI z)))) ?_
    have h1 := mpos hg
    show (IntKind.i64.wrap (b (IntKind.i64.wrap (IntKind.i64.wrap (p + 1) - 1)).toNat)).tmod n = x
    have hbb := hb p.toNat
    rw [w1, w2, IntWalk.i64_in _ (by omega), hx]
    unfold pickV
    rw [if_neg (by omega), if_pos hlt]
  · rename_i hg hlt
    subst hA
    exact congrArg (fun z => [some (XV.box [XC.d (DV.sl 1 m fun i => [eU (b i)]), XC.d (eI z)]), none]) w1
  · rename_i hg hlt
    refine inb_of hA fun _ => ?_
    subst hA
    have h1 := mpos hg
    show 0 ≤ (IntKind.i64.wrap (IntKind.i64.wrap (p + 1) - 1)).tmod (m : Int) ∧ (IntKind.i64.wrap (IntKind.i64.wrap (p + 1) - 1)).tmod (m : Int) < (m : Int)
    rw [w1, w2]
    exact tmod_in hp.1 (Int.ofNat_le.2 h1)
  · rename_i hg hlt
    refine inb_of hA fun _ => ?_
    subst hA
    have h1 := mpos hg
    show 0 ≤ (IntKind.i64.wrap (IntKind.i64.wrap (IntKind.i64.wrap (IntKind.i64.wrap (p + 1) - 1) * 7) + 3)).tmod (m : Int) ∧ (IntKind.i64.wrap (IntKind.i64.wrap (IntKind.i64.wrap (IntKind.i64.wrap (p + 1) - 1) * 7) + 3)).tmod (m : Int) < (m : Int)
    rw [w1, w2, w7, w73]
    exact tmod_in (by omega) (Int.ofNat_le.2 h1)
  · rename_i hg hlt
    subst hA
    have hlt : decide (IntKind.i64.wrap (IntKind.i64.wrap (p + 1) - 1) < (m : Int)) = false := hlt
    have hlt := of_decide_eq_false hlt
    rw [w1, w2] at hlt
    have h1 := mpos hg
    refine congrArg (fun z => XA.one (.c (.d (eI z)))) ?_
    rw [hx]; unfold pickV
    rw [if_neg (by omega), if_neg hlt]
    have hy := pickY_in (m := m) (p := p) (b := b) h1 hb hp
    obtain ⟨W, hW⟩ : ∃ W, W = IntKind.i64.wrap (IntKind.i64.wrap (p + 1) - 1) := ⟨_, rfl⟩
    have hWp : W = p := by rw [hW, w1, w2]
    obtain ⟨Y, hY⟩ : ∃ Y, Y = IntKind.i64.wrap (IntKind.i64.wrap (IntKind.i64.wrap (IntKind.i64.wrap (IntKind.i64.wrap (b (W.tmod (m : Int)).toNat) * 131) + IntKind.i64.wrap (IntKind.i64.wrap (b ((IntKind.i64.wrap (IntKind.i64.wrap (W * 7) + 3)).tmod (m : Int)).toNat) * 1117)) + IntKind.i64.wrap (W * 29)) + IntKind.i64.wrap (IntKind.i64.wrap (W.tdiv (m : Int)) * 53)) := ⟨_, rfl⟩
    have hYp : Y = pickY m b p := by
      rw [hY, hWp, w7, w73]
      unfold pickY
      have b1 := hb (p.tmod (m : Int)).toNat
      have b2 := hb ((p * 7 + 3).tmod (m : Int)).toNat
      have d1 : 0 ≤ p.tdiv (m : Int) := Int.tdiv_nonneg hp.1 (Int.natCast_nonneg m)
      have d2 : p.tdiv (m : Int) ≤ p := Int.tdiv_le_self (m : Int) hp.1
      generalize b (p.tmod (m : Int)).toNat = c1 at b1 ⊢
      generalize b ((p * 7 + 3).tmod (m : Int)).toNat = c2 at b2 ⊢
      generalize p.tdiv (m : Int) = d at d1 d2 ⊢
      rw [IntWalk.i64_in c1 (by omega), IntWalk.i64_in c2 (by omega), IntWalk.i64_in d (by omega), IntWalk.i64_in (c1 * 131) (by omega), IntWalk.i64_in (c2 * 1117) (by omega), IntWalk.i64_in (p * 29) (by omega), IntWalk.i64_in (d * 53) (by omega), IntWalk.i64_in (c1 * 131 + c2 * 1117) (by omega), IntWalk.i64_in (c1 * 131 + c2 * 1117 + p * 29) (by omega), IntWalk.i64_in _ (by omega)]
    have q1 : 0 ≤ (pickY m b p).tdiv 64 := Int.tdiv_nonneg hy.1 (by decide)
    have q2 : (pickY m b p).tdiv 64 ≤ pickY m b p := Int.tdiv_le_self 64 hy.1
    have key : (IntKind.i64.wrap (BitVec.ofInt 64 Y ^^^ BitVec.ofInt 64 (IntKind.i64.wrap (Y.tdiv 64))).toNat).tmod n = (pickX (pickY m b p)).tmod n := by
      rw [hYp, IntWalk.i64_in ((pickY m b p).tdiv 64) (by omega)]; rfl
    rw [← key, hY, hW]
    rfl
  · rename_i hg hlt
    subst hA
    exact congrArg (fun z => [some (XV.box [XC.d (DV.sl 1 m fun i => [eU (b i)]), XC.d (eI z)]), none]) w1
end Go.Rk
/- How much a record leaves, tells and loses. -/
namespace Go.Rk
set_option linter.unusedSimpArgs false
set_option linter.unusedVariables false
theorem opTakeL_len (j : JobT) (s : OpStT) (x : ItmT) : (opTakeL j s x).2.1.length ≤ 400 ∧ (opTakeL j s x).2.2.1.length ≤ 40000 ∧ (opTakeL j s x).2.2.2.length ≤ 100 := by
  unfold opTakeL
  split
  · rename_i h
    have hw := winsL_len j x.t
    have h1 := takeL_len (j := j) (m := s.mark) (x := x) (l := rowsL s) (winsL j x.t)
    have hl : (rowsL s).length = s.rows.n := by simp [rowsL]
    rw [hl] at h1
    obtain ⟨a, b, c⟩ := h1
    have h2 : (winsL j x.t).length * (s.rows.n + (winsL j x.t).length + 1) ≤ 100 * 400 := Nat.mul_le_mul hw (by omega)
    exact ⟨by show (takeL j s.mark x (winsL j x.t) (rowsL s)).1.length ≤ _; omega, by show (takeL j s.mark x (winsL j x.t) (rowsL s)).2.1.length ≤ _; omega, by show (takeL j s.mark x (winsL j x.t) (rowsL s)).2.2.length ≤ _; omega⟩
  · exact ⟨Nat.zero_le _, Nat.zero_le _, Nat.zero_le _⟩
end Go.Rk
/- Draws: small. -/
namespace Go.Rk
set_option linter.unusedSimpArgs false
set_option linter.unusedVariables false
open Go.Proofs
set_option maxRecDepth 100000
set_option maxHeartbeats 1000000
def EXD : FuncId → List Nat × Bool := fun f => ([], nbeq f 0)
theorem x_pick (m : Nat) (hm : m ≤ 2000) (b : Nat → Int) (hb : ∀ i, 0 ≤ b i ∧ b i ≤ 255) (p : Int) (hp : 0 ≤ p ∧ p ≤ 1000000) (n : Int) (hn : 1 ≤ n ∧ n ≤ 1000000) : ∃ y : Int × Int, (0 ≤ y.1 ∧ y.1 < n ∧ y.2 = p + 1) ∧ Meets Try.prog 56 [.c (.box [.d (.sl 1 m fun i => [eU (b i)]), .d (eI p)]), .c (.d (eI n))] ⟨.one (.c (.d (eI y.1))), [some (.box [.d (.sl 1 m fun i => [eU (b i)]), .d (eI y.2)]), none]⟩ :=
  ⟨(pickV m b p n, p + 1), ⟨(pickV_in hb hp hn.1).1, (pickV_in hb hp hn.1).2, rfl⟩, m_pick m hm b hb p hp n hn _ rfl _ rfl⟩
end Go.Rk
/- Tables of records: what holds of them at every step. -/
namespace Go.Rk
set_option linter.unusedSimpArgs false
set_option linter.unusedVariables false
def spcT (kind : Int) (P : List LatT) : List TabT := P.foldl (stepS kind) []
theorem fine_left {P Q : List LatT} (h : Fine (P ++ Q)) : Fine P := ⟨by have := h.1; rw [List.length_append] at this; omega, fun x hx => h.2 x (List.mem_append_left _ hx)⟩
theorem foldS_inv : ∀ (P P0 : List LatT) (T : List TabT), InvS P0 T → Fine (P0 ++ P) → InvS (P0 ++ P) (P.foldl (stepS 3) T) ∧ tCnt (P.foldl (stepS 3) T) = tCnt T + P.length ∧ P.foldl (stepI 3) T = P.foldl (stepS 3) T
  | [], P0, T, h, _ => ⟨by simpa using h, by simp, rfl⟩
  | l :: P, P0, T, h, hf => by
    have e : P0 ++ l :: P = (P0 ++ [l]) ++ P := by simp
    rw [e] at hf ⊢
    obtain ⟨h1, h2, h3⟩ := invS_step h (fine_left hf)
    obtain ⟨g1, g2, g3⟩ := foldS_inv P (P0 ++ [l]) (sessS l.itm.key l.win l.itm.v T) h1 hf
    refine ⟨g1, ?_, ?_⟩
    · rw [List.length_cons, List.foldl_cons]
      show tCnt (P.foldl (stepS 3) (sessS l.itm.key l.win l.itm.v T)) = _
      omega
    · show P.foldl (stepI 3) (sessI l.itm.key l.win l.itm.v T) = P.foldl (stepS 3) (sessS l.itm.key l.win l.itm.v T)
      rw [h3]; exact g3
theorem foldW_inv {kind : Int} (hk : kind ≠ 3) : ∀ (P P0 : List LatT) (T : List TabT), InvW P0 T → Fine (P0 ++ P) → InvW (P0 ++ P) (P.foldl (stepS kind) T) ∧ tCnt (P.foldl (stepS kind) T) = tCnt T + P.length
  | [], P0, T, h, _ => ⟨by simpa using h, by simp⟩
  | l :: P, P0, T, h, hf => by
    have e : P0 ++ l :: P = (P0 ++ [l]) ++ P := by simp
    rw [e] at hf ⊢
    obtain ⟨h1, h2⟩ := invW_step h (fine_left hf)
    have es : stepS kind T l = stepW l.itm.key l.win l.itm.v T := if_neg hk
    rw [List.foldl_cons, es]
    obtain ⟨g1, g2⟩ := foldW_inv hk P (P0 ++ [l]) (stepW l.itm.key l.win l.itm.v T) h1 hf
    exact ⟨g1, by rw [List.length_cons]; omega⟩
theorem foldI_eq {kind : Int} {P : List LatT} (hf : Fine P) : P.foldl (stepI kind) [] = spcT kind P := by
  by_cases hk : kind = 3
  · subst hk
    exact (foldS_inv P [] [] ⟨List.Pairwise.nil, fun r h => (by simp at h), fun l h => (by simp at h)⟩ hf).2.2
  · have : stepI kind = stepS kind := by funext T l; unfold stepI stepS; rw [if_neg hk, if_neg hk]
    unfold spcT; rw [this]
theorem stepI_len (kind : Int) (T : List TabT) (l : LatT) : (stepI kind T l).length ≤ T.length + 1 := by
  unfold stepI
  split
  · exact Nat.le_trans (tPut_len _ _) (Nat.succ_le_succ (List.length_filter_le _ _))
  · exact tPut_len _ _
theorem fold_len {f : List TabT → LatT → List TabT} (h : ∀ T l, (f T l).length ≤ T.length + 1) : ∀ (P : List LatT) (T : List TabT), (P.foldl f T).length ≤ T.length + P.length
  | [], T => Nat.le_refl _
  | l :: P, T => by
    have h1 := fold_len h P (f T l)
    have h2 := h T l
    rw [List.foldl_cons, List.length_cons]; omega
theorem fold_snoc (f : List TabT → LatT → List TabT) (P : List LatT) (l : LatT) (T : List TabT) : (P ++ [l]).foldl f T = f (P.foldl f T) l := by rw [List.foldl_append]; rfl
/-! ## Pairs -/
theorem mem_slideF {size step t : Int} {w : WinT} : ∀ (k : Nat) (f : Int), w ∈ slideF size step t k f → w.s ≤ t ∧ t < w.s + size ∧ w.e = w.s + size ∧ ∃ i : Nat, w.s = f + step * (i : Int)
  | 0, f, h => by simp [slideF] at h
  | k + 1, f, h => by
    unfold slideF at h
    split at h
    · rcases List.mem_append.1 h with h | h
      · split at h
        · simp at h; subst h; exact ⟨by assumption, by assumption, rfl, 0, by simp⟩
        · simp at h
      · obtain ⟨h1, h2, h3, i, h4⟩ := mem_slideF k (f + step) h
        exact ⟨h1, h2, h3, i + 1, by rw [h4]; push_cast; rw [Int.mul_add]; omega⟩
    · simp at h
theorem winsL_mem {j : JobT} {t : Int} {w : WinT} (h : w ∈ winsL j t) : w.s ≤ t ∧ t < w.s + j.size ∧ w.e = w.s + j.size ∧ ∃ i : Nat, w.s = winFrom j t + winStep j * (i : Int) := mem_slideF _ _ h
theorem mem_pairsL {j : JobT} {g : Nat → ItmT} {l : LatT} : ∀ {m : Nat}, l ∈ pairsL j g m ↔ ∃ i, i < m ∧ l.itm = g i ∧ l.win ∈ winsL j (g i).t
  | 0 => by simp [pairsL]
  | m + 1 => by
    unfold pairsL
    rw [List.mem_append, mem_pairsL (m := m), List.mem_map]
    constructor
    · rintro (⟨i, h1, h2⟩ | ⟨w, h1, rfl⟩)
      · exact ⟨i, by omega, h2⟩
      · exact ⟨m, by omega, rfl, h1⟩
    · rintro ⟨i, h1, h2, h3⟩
      rcases Nat.lt_succ_iff_lt_or_eq.1 h1 with h1 | rfl
      · exact .inl ⟨i, h1, h2, h3⟩
      · refine .inr ⟨l.win, h3, ?_⟩
        rw [← h2]
theorem recP_v {x : ItmT} (h : RecP x) : -9 ≤ x.v ∧ x.v ≤ 9 := by
  obtain ⟨h1, h2⟩ := h
  unfold ItmOkP at h2
  omega
theorem fine_pairs {j : JobT} {m : Nat} {g : Nat → ItmT} (h : SpcOkP j m g) : Fine (pairsL j g m) := by
  refine ⟨Nat.le_trans (pairsL_len j g m) (by have := h.2.1; omega), fun l hl => ?_⟩
  obtain ⟨i, hi, e, hw⟩ := mem_pairsL.1 hl
  have h1 := winsL_mem hw
  have h2 := h.1.2.2.2.1
  refine ⟨by omega, ?_⟩
  rw [e]
  exact recP_v (h.2.2 i hi)
theorem fine_spc (j : JobT) (m : Nat) (g : Nat → ItmT) : Fine (spcL j m g) := by
  unfold spcL
  split
  · exact fine_pairs (by assumption)
  · exact ⟨by simp, fun l hl => by simp at hl⟩
theorem spcL_len (j : JobT) (m : Nat) (g : Nat → ItmT) : (spcL j m g).length ≤ 12000 := by
  unfold spcL
  split
  · rename_i h
    exact Nat.le_trans (pairsL_len j g m) (by have := h.2.1; omega)
  · simp
/-! ## Rows taken out, one by one -/
theorem outs_step {T T2 : List TabT} {p : TabT → Bool} {s : TabT} (h : T2 = T.filter p) : tOut s.key s.win T2 = T.filter fun r => p r && !decide (IsRow s.key s.win r) := by
  rw [tOut_filter, h, List.filter_filter]
  refine congrArg (fun f => T.filter f) (funext fun r => ?_)
  rw [Bool.and_comm]
theorem outs_all {k : Int} {w : WinT} {T : List TabT} : (T.filter fun r => !(T.any fun s => tchD k w s && decide (IsRow s.key s.win r))) = T.filter fun r => !tchD k w r := by
  refine List.filter_congr fun r hr => ?_
  refine congrArg (!·) (Bool.eq_iff_iff.2 ?_)
  rw [List.any_eq_true]
  constructor
  · rintro ⟨s, _, h⟩
    rw [Bool.and_eq_true, decide_eq_true_eq] at h
    obtain ⟨h1, h2⟩ := h
    unfold tchD at *
    rw [decide_eq_true_eq] at *
    unfold IsRow at h2
    omega
  · intro h
    exact ⟨r, hr, by rw [h]; simp [IsRow]⟩
end Go.Rk
/- Who is punctual is never too late. -/
namespace Go.Rk
set_option linter.unusedSimpArgs false
set_option linter.unusedVariables false
theorem w64_id {n : Int} (h : -9223372036854775808 ≤ n ∧ n ≤ 9223372036854775807) : w64 n = n := IntWalk.i64_in _ (by omega)
end Go.Rk
/- The numbers of what was taken are kept. -/
namespace Go.Rk
set_option linter.unusedSimpArgs false
set_option linter.unusedVariables false
def sumN (l : List RowT) : Int := sumI (l.map (·.all.n))
def AllN (B : Int) (l : List RowT) : Prop := ∀ r, r ∈ l → 1 ≤ r.all.n ∧ r.all.n ≤ B
theorem sumN_cons (r : RowT) (l : List RowT) : sumN (r :: l) = r.all.n + sumN l := rfl
theorem sumN_rIns (r : RowT) : ∀ l, sumN (rIns r l) = r.all.n + sumN l
  | [] => rfl
  | q :: l => by
    show sumN (if RA r q then r :: q :: l else q :: rIns r l) = _
    split
    · rfl
    · rw [sumN_cons, sumN_rIns r l, sumN_cons]; omega
/-- Taking out the one row of a window takes its number. -/
theorem sumN_rOut {k : Int} {w : WinT} : ∀ {l : List RowT}, RiseR l → sumN (rOut k w l) + (match rFind k w l with | some r => r.all.n | none => 0) = sumN l
  | [], _ => rfl
  | q :: l, h => by
    rw [RiseR, List.pairwise_cons] at h
    by_cases hq : IsR k w q
    · have hno : ∀ x, x ∈ l → ¬ IsR k w x := fun x hx => ra_ne (h.1 x hx) hq
      have e : rOut k w (q :: l) = l := by
        unfold rOut
        rw [List.filter_cons, if_neg (by simp [hq])]
        exact rOut_none hno
      have e2 : rFind k w (q :: l) = some q := by unfold rFind; rw [List.find?_cons, decide_eq_true hq]
      rw [e, e2, sumN_cons]
      show sumN l + q.all.n = _
      omega
    · have e : rOut k w (q :: l) = q :: rOut k w l := by
        unfold rOut
        rw [List.filter_cons, if_pos (by simp [hq])]
      have e2 : rFind k w (q :: l) = rFind k w l := by unfold rFind; rw [List.find?_cons, decide_eq_false hq]
      rw [e, e2, sumN_cons, sumN_cons, ← sumN_rOut (k := k) (w := w) (l := l) h.2]
      omega
theorem tellS_all (j : JobT) (m : Int) (r : RowT) : (tellS j m r).1.all = r.all ∧ (tellS j m r).1.key = r.key ∧ (tellS j m r).1.win = r.win := by
  unfold tellS
  split <;> exact ⟨rfl, rfl, rfl⟩
theorem add_n {a : AggT} {v : Int} (h : 0 ≤ a.n ∧ a.n ≤ 1000000) : (aggAdd a v).n = a.n + 1 := by
  unfold aggAdd aggB
  by_cases h0 : a.n = 0
  · rw [if_pos h0, h0]; rfl
  · rw [if_neg h0, if_neg (by show ¬ (1 : Int) = 0; omega)]
    exact w64_id (n := a.n + 1) (by omega)
theorem rfind_mem {k : Int} {w : WinT} {l : List RowT} {r : RowT} (h : rFind k w l = some r) : r ∈ l ∧ IsR k w r := by
  unfold rFind at h
  exact ⟨List.mem_of_find?_eq_some h, by simpa using List.find?_some h⟩
theorem into_sum {j : JobT} {m k v : Int} {w : WinT} {l : List RowT} {q : List RowT × List PaneT} {B : Int} (hr : RiseR l) (hB : 0 ≤ B ∧ B ≤ 900000) (hA : AllN B l) (he : intoL j m k v w l = some q) : sumN q.1 = sumN l + 1 ∧ AllN (B + 1) q.1 := by
  unfold intoL at he
  split at he
  · cases he
  · cases he
    obtain ⟨r0, hr0⟩ : ∃ r0, r0 = (rFind k w l).getD (nrow k w) := ⟨_, rfl⟩
    rw [← hr0]
    have hk : IsR k w r0 := by rw [hr0]; exact getD_is
    obtain ⟨t1, t2, t3⟩ := tellS_all j m (addR r0 v)
    have ek : (tellS j m (addR r0 v)).1.key = k := t2.trans (isR_eq hk).1
    have ew : (tellS j m (addR r0 v)).1.win = w := t3.trans (isR_eq hk).2
    have hb0 : 0 ≤ r0.all.n ∧ r0.all.n ≤ B := by
      rw [hr0]
      cases hf : rFind k w l with
      | none => exact ⟨Int.le_refl _, hB.1⟩
      | some r => have := hA r (rfind_mem hf).1; exact ⟨by show 0 ≤ r.all.n; omega, this.2⟩
    have hn : (tellS j m (addR r0 v)).1.all.n = r0.all.n + 1 := by
      rw [t1]
      exact add_n (a := r0.all) (by omega)
    have hs := sumN_rOut (k := k) (w := w) hr
    constructor
    · show sumN (rPut (tellS j m (addR r0 v)).1 l) = _
      unfold rPut
      rw [sumN_rIns, hn, ek, ew]
      cases hf : rFind k w l with
      | none => rw [hf] at hs hr0; rw [hr0]; have h : sumN (rOut k w l) + 0 = sumN l := hs; show (0 : Int) + 1 + _ = _; omega
      | some r => rw [hf] at hs hr0; rw [hr0]; have h : sumN (rOut k w l) + r.all.n = sumN l := hs; show r.all.n + 1 + _ = _; omega
    · intro r h
      rcases mem_rPut.1 h with e | ⟨h, _⟩
      · rw [e, hn]; omega
      · have := hA r h; omega
theorem fold_n : ∀ (L : List AggT) (a : AggT) (B : Int), 1 ≤ a.n → B ≤ 1000000 → (∀ b, b ∈ L → 1 ≤ b.n ∧ b.n ≤ B) → a.n + B * (L.length : Int) ≤ 1000000000000 → (L.foldl aggB a).n = a.n + sumI (L.map (·.n))
  | [], a, _, _, _, _, _ => by show a.n = a.n + 0; omega
  | b :: L, a, B, h1, hB, hb, hl => by
    have hb0 := hb b (by simp)
    have hlen : B * (L.length : Int) + B ≤ 1000000000000 - a.n := by
      have e : B * (((b :: L).length : Nat) : Int) = B * (L.length : Int) + B := by
        rw [List.length_cons]
        have : ((L.length + 1 : Nat) : Int) = (L.length : Int) + 1 := rfl
        rw [this, Int.mul_add, Int.mul_one]
      omega
    have hp : 0 ≤ B * (L.length : Int) := Int.mul_nonneg (by omega) (Int.natCast_nonneg _)
    have hn : (aggB a b).n = a.n + b.n := by
      unfold aggB
      rw [if_neg (by omega), if_neg (by omega)]
      exact w64_id (n := a.n + b.n) (by omega)
    rw [List.foldl_cons, fold_n L (aggB a b) B (by omega) hB (fun c hc => hb c (List.mem_cons_of_mem _ hc)) (by rw [hn]; omega), hn]
    show _ = a.n + (b.n + sumI (L.map (·.n)))
    omega
theorem sumN_split (k : Int) (w : WinT) : ∀ l, sumN (oldL k w l) + sumN (restL k w l) = sumN l
  | [] => rfl
  | r :: l => by
    have ih := sumN_split k w l
    unfold oldL restL at *
    rw [List.filter_cons, List.filter_cons]
    cases h : tchR k w r
    · simp only [Bool.not_false, if_true, Bool.false_eq_true, if_false, sumN_cons]; omega
    · simp only [Bool.not_true, if_true, Bool.false_eq_true, if_false, sumN_cons]; omega
end Go.Rk
