/- The walk over this seat's functions, part 8: what each of them answers, at all data. -/
import Derived.Test.YtaceckhmclddeaaM1
import Derived.Test.YtaceckhmclddeaaM2
import Derived.Test.YtaceckhmclddeaaM3
import Derived.Test.YtaceckhmclddeaaM4
import Derived.Test.YtaceckhmclddeaaM5
import Derived.Test.YtaceckhmclddeaaM6
import Derived.Test.YtaceckhmclddeaaM7
/- A worker's methods: session. -/
namespace Go.Rk
set_option linter.unusedSimpArgs false
set_option linter.unusedVariables false
open Go.Proofs
set_option maxRecDepth 100000
set_option maxHeartbeats 1000000
def EXSt : FuncId → List Nat × Bool := fun f => bif nbeq f 1 then ([3000], false) else bif nbeq f 66 then ([0], false) else bif nbeq f 65 then ([99], false) else bif nbeq f 140 then ([99], false) else bif nbeq f 141 then ([99], false) else bif nbeq f 139 then ([99], false) else ([], false)
def st_s1t (j : JobT) (mk : Int) (n : Nat) (R : Nat → RowT) (c : Nat) (P : Nat → PaneT) (d : Nat) (Q : Nat → LatT) (x : ItmT) (w : WinT) (i k : Nat) (G : Nat → RowT) (sp : WinT) (kn : AggT) : St := ⟨[(24, .c (.d (eI i))), (23, .c (.d (eI n))), (22, .c (.own 1793 0 n 1)), (9, .c (.own 3600 0 k 1)), (6, .c (.clo 138 [(3256, 1), (3320, 1)])), (4, .c (.bp 3256 1 0)), (5, .c (.bp 3320 1 0)), (7, .c (.bp 3448 1 0)), (8, .c (.bp 3512 1 0)), (0, .c (.bp 1920 1 0))], [(1920, 1, .box [.d (eI j.srcs), .d (eI j.tsks), .d (eI j.kind), .d (eI j.size), .d (eI j.step), .d (eI j.late), .d (eI j.tell), .d (eB j.piece), .d (eI j.least), .d (eI j.room), .d (eI mk), .own 1793 0 n 1, .own 2001 0 c 1, .own 2002 0 d 1]), (1793, 1, .arr 13 n fun i => eRow (R i)), (2001, 1, .arr 9 c fun i => ePane (P i)), (2002, 1, .arr 7 d fun i => eLat (Q i)), (3256, 1, .box ((eItm x).map .d)), (3320, 1, .box ((eWin w).map .d)), (3448, 1, .box ((eWin sp).map .d)), (3512, 1, .box ((eAgg kn).map .d)), (3600, 1, .arr 13 k fun i => eRow (G i))]⟩
def st_s2t (j : JobT) (mk : Int) (kr : Nat) (Rr : Nat → RowT) (k : Nat) (G : Nat → RowT) (x : ItmT) (sp : WinT) (kn : AggT) (u c : Nat) (P : Nat → PaneT) (pv d : Nat) (Q : Nat → LatT) : St := ⟨[(91, .c (.d (eI u))), (90, .c (.d (eI k))), (89, .c (.own 3600 0 k 1)), (4, .c (.bp 3256 1 0)), (7, .c (.bp 3448 1 0)), (8, .c (.bp 3512 1 0)), (0, .c (.bp 1920 1 0))], [(1920, 1, .box [.d (eI j.srcs), .d (eI j.tsks), .d (eI j.kind), .d (eI j.size), .d (eI j.step), .d (eI j.late), .d (eI j.tell), .d (eB j.piece), .d (eI j.least), .d (eI j.room), .d (eI mk), .own 8440 0 kr 1, .own 2001 0 c pv, .own 2002 0 d 1]), (8440, 1, .arr 13 kr fun i => eRow (Rr i)), (2001, pv, .arr 9 c fun i => ePane (P i)), (2002, 1, .arr 7 d fun i => eLat (Q i)), (1793, 2, .dead), (3256, 1, .box ((eItm x).map .d)), (3448, 1, .box ((eWin sp).map .d)), (3512, 1, .box ((eAgg kn).map .d)), (3600, 1, .arr 13 k fun i => eRow (G i))]⟩
theorem k_st (j : JobT) (mk : Int) (n : Nat) (R : Nat → RowT) (c : Nat) (hc : c ≤ 1080000) (P : Nat → PaneT) (d : Nat) (hd : d ≤ 1080000) (Q : Nat → LatT) (x : ItmT) (w : WinT) (hn : n ≤ 300) (hcs : c ≤ 1000000) (L : List RowT) (hl : Lst zRow L n R) (sp : WinT) (hsp : sp = spanL w (oldL x.key w L)) (hov : mk < w64 (sp.e + j.late)) (hone : oneB sp (oldL x.key w L) = false) (a : AggT) (ha : a = aggAdd (((oldL x.key w L).map (·.all)).foldl aggB zAgg) x.v) (kr : Nat) (Rr : Nat → RowT) (hr : Lst zRow (restL x.key w L) kr Rr) (cg : Nat) (Pg : Nat → PaneT) (hPg : Ext zPan c P (goneL (oldL x.key w L)) cg Pg) (vp : Nat) (hvp : vp = (goneL (oldL x.key w L)).length + 2) (r0 : RowT) (hr0 : r0 = ⟨x.key, sp, a, a, 0, false⟩) (i : Nat) (hi : i ≤ kr) (h1 : ∀ q, q < i → RA (Rr q) r0) (h2 : ∀ q, i ≤ q → q < kr → ¬ RA (Rr q) r0) (hm : ¬ mk < sp.e) (R' : Nat → RowT) (hR' : ∀ q, q < kr + 1 → R' q = if q < i then Rr q else if q = i then toldR r0 else Rr (q - 1)) (P' : Nat → PaneT) (hP' : ∀ q, q < cg + 1 → P' q = if q < cg then Pg q else paneP j.piece r0 1) : MeetsO Try.prog 105 [.c (.bp 1920 1 0), .agg ((eItm x).map .d), .agg ((eWin w).map .d)]
    [(1920, 1, .box [.d (eI j.srcs), .d (eI j.tsks), .d (eI j.kind), .d (eI j.size), .d (eI j.step), .d (eI j.late), .d (eI j.tell), .d (eB j.piece), .d (eI j.least), .d (eI j.room), .d (eI mk), .own 1793 0 n 1, .own 2001 0 c 1, .own 2002 0 d 1]), (1793, 1, .arr 13 n fun i => eRow (R i)), (2001, 1, .arr 9 c fun i => ePane (P i)), (2002, 1, .arr 7 d fun i => eLat (Q i))] (.tup [])
    [(1920, 1, .box [.d (eI j.srcs), .d (eI j.tsks), .d (eI j.kind), .d (eI j.size), .d (eI j.step), .d (eI j.late), .d (eI j.tell), .d (eB j.piece), .d (eI j.least), .d (eI j.room), .d (eI mk), .own 2664 0 (kr + 1) 1, .own 2001 0 (cg + 1) vp, .own 2002 0 d 1]), (2664, 1, .arr 13 (kr + 1) fun i => eRow (R' i)), (2001, vp, .arr 9 (cg + 1) fun i => ePane (P' i)), (2002, 1, .arr 7 d fun i => eLat (Q i)), (3256, 1, .dead), (3320, 1, .dead), (3448, 1, .dead), (3512, 1, .dead), (3600, 1, .dead), (4320, 1, .dead), (4384, 1, .dead), (4448, 1, .dead), (6384, 1, .dead), (8560, 1, .dead), (1793, 2, .dead), (8440, 2, .dead), (1192, 1, .dead), (2600, 2, .dead)] := by
  have hnL : n ≤ maxLen := Nat.le_trans (show n ≤ 1080000 by omega) (by decide)
  refine inl_ofH [999, 10, 20, 22] (EX := EXSt) ttok mixed Try.func105 rfl (by kernel_rfl) (by decide) rfl rfl rfl rfl ?_
  generalize hA : real = A
  generalize hM : MeetsB Try.prog = M
  cbv
  repeat' first
    | apply And.intro
    | exact True.intro
    | with_reducible rfl
    | exact same_of hA rfl
    | refine br_of hA (fun _ => ?_) (fun _ => ?_)
    | exact imp_of hA id
    | (refine imp_of hA ?_; subst hA; simp only [real, Bool.true_and]; exact id)
    | (refine ind_of hA ?_; decide +kernel)
  refine loop_ofG hA (α := { y : Nat × Nat × (Nat → RowT) × WinT × AggT // y.1 ≤ n ∧ Lst zRow (oldL x.key w (L.take y.1)) y.2.1 y.2.2.1 ∧ y.2.2.2.1 = spanL w (oldL x.key w (L.take y.1)) ∧ y.2.2.2.2 = ((oldL x.key w (L.take y.1)).map (·.all)).foldl aggB zAgg }) (fun y => st_s1t j mk n R c P d Q x w y.1.1 y.1.2.1 y.1.2.2.1 y.1.2.2.2.1 y.1.2.2.2.2) (fun y => n - y.1.1) ⟨(0, 0, (fun _ => zRow), w, zAgg), Nat.zero_le _, ⟨rfl, fun k h => absurd h (Nat.not_lt_zero k)⟩, rfl, rfl⟩ ?_ ?_
  · refine cov_prom 9 3600 1 13 (fun _ => eRow zRow) rfl rfl (cov_ofG ?_ ?_ ?_)
    · subst hA; (repeat' first | exact True.intro | exact rfl | apply And.intro | (intro _ _; first | rfl | trivial))
    · subst hA; (repeat' first | exact True.intro | exact rfl | apply And.intro | (intro _ _; first | rfl | trivial) )
    · subst hA; (repeat' first | exact True.intro | exact rfl | apply And.intro | exact .inl rfl | exact .inr (le_of_nble rfl))
  rintro ⟨⟨u, k, G, s1, kn⟩, hu, hG, hs1, hkn⟩
  have hu : u ≤ n := hu
  have hG : Lst zRow (oldL x.key w (L.take u)) k G := hG
  have hs1 : s1 = spanL w (oldL x.key w (L.take u)) := hs1
  have hkn : kn = ((oldL x.key w (L.take u)).map (·.all)).foldl aggB zAgg := hkn
  have hki : k ≤ u := by
    rw [hG.1]
    refine Nat.le_trans (oldL_len _ _ _) ?_
    rw [List.length_take]; omega
  obtain ⟨sp2, hsp2⟩ : ∃ z, z = winSpan s1 (R u).win := ⟨_, rfl⟩
  obtain ⟨kn2, hkn2⟩ : ∃ z, z = aggB kn (R u).all := ⟨_, rfl⟩
  have cS := fun q (e : q = u) => c_WinSpan s1 (R q).win sp2 (by rw [e]; exact hsp2)
  have cB := fun q (e : q = u) => c_AggBoth kn (R q).all kn2 (by rw [e]; exact hkn2)
  have eq0 : A.add 0 (A.nat (Int.ofNat u)) = u := by subst hA; exact Nat.zero_add u
  have hsn : u < n → oldL x.key w (L.take (u + 1)) = oldL x.key w (L.take u) ++ if tchR x.key w (R u) = true then [R u] else [] := fun h => by rw [lst_take hl h, oldL_snoc]
  cbv
  repeat' first
    | apply And.intro
    | exact True.intro
    | with_reducible rfl
    | exact same_of hA rfl
    | refine br_of hA (fun _ => ?_) (fun _ => ?_)
    | exact imp_of hA id
    | (refine imp_of hA ?_; subst hA; simp only [real, Bool.true_and]; exact id)
    | (refine ind_of hA ?_; decide +kernel)
    | (refine call_of hA hM _ (cS _ eq0) ?_; cbv)
    | (refine call_of hA hM _ (cB _ eq0) ?_; cbv)
    | (refine call_ex hA hM (c_touched _ x w) (fun _ _ => ?_); cbv)
    | (refine inb_lt hA ?_; first | exact lt2_of hA (by assumption) | exact lt_of hA (by assumption))
    | exact room_add2 hA (by omega) (by decide)
    | exact flat_row hA _ _
  · rename_i hlt b hb hc
    have hlt' : u < n := lt2_of hA hlt
    have ht : tchR x.key w (R u) = true := by
      rw [← eq0]
      exact hb.1 hc
    refine ⟨⟨(u + 1, k + 1, (fun q => if q < k then G q else R u), sp2, kn2), hlt', ?_, ?_, ?_⟩, by dsimp only; omega, cov_ofG ?_ ?_ ?_⟩
    · dsimp only; rw [hsn hlt', if_pos ht]
      exact lst_snoc hG
    · dsimp only; rw [hsn hlt', if_pos ht]
      rw [spanL_app, ← hs1]; exact hsp2
    · dsimp only; rw [hsn hlt', if_pos ht]
      rw [List.map_append, List.foldl_append, ← hkn]; exact hkn2
    · subst hA; (repeat' first | exact True.intro | exact rfl | apply And.intro | exact congrArg (fun x => DV.v (.int .i64 x)) (up64 hlt' hnL))
    · subst hA
      (repeat' first | exact True.intro | exact rfl | apply And.intro | (intro _ _; first | rfl | trivial) | (intro q hq; refine Eq.trans (push_if (A := real) eRow rfl k G (R (0 + u)) (fun _ => eRow zRow) q hq) (congrArg eRow (by rw [Nat.zero_add]))))
    · subst hA; (repeat' first | exact True.intro | exact rfl | apply And.intro | exact .inl rfl | exact .inr (le_of_nble rfl))
  · rename_i hlt b hb hc
    have hlt' : u < n := lt2_of hA hlt
    have ht : ¬ tchR x.key w (R u) = true := by
      rw [← eq0]
      intro h; have := hb.2 h; rw [hc] at this; cases this
    refine ⟨⟨(u + 1, k, G, s1, kn), hlt', ?_, ?_, ?_⟩, by dsimp only; omega, cov_ofG ?_ ?_ ?_⟩
    · dsimp only; rw [hsn hlt', if_neg ht]
      rw [List.append_nil]; exact hG
    · dsimp only; rw [hsn hlt', if_neg ht]
      rw [List.append_nil]; exact hs1
    · dsimp only; rw [hsn hlt', if_neg ht]
      rw [List.append_nil]; exact hkn
    · subst hA; (repeat' first | exact True.intro | exact rfl | apply And.intro | exact congrArg (fun x => DV.v (.int .i64 x)) (up64 hlt' hnL))
    · subst hA; (repeat' first | exact True.intro | exact rfl | apply And.intro | (intro _ _; first | rfl | trivial))
    · subst hA; (repeat' first | exact True.intro | exact rfl | apply And.intro | exact .inl rfl | exact .inr (le_of_nble rfl))
  rename_i hge
  have hin : n = u := by have := ge2_of hA hge; omega
  subst hin
  rw [lst_all hl] at hG hs1 hkn
  have hss : s1 = sp := hs1.trans hsp.symm
  subst hss
  refine stop_ofG hA ⟨[(0, .c (.bp 1920 1 0)), (4, .c (.bp 3256 1 0)), (5, .c (.bp 3320 1 0)), (6, .c (.clo 138 [(3256, 1), (3320, 1)])), (7, .c (.bp 3448 1 0)), (8, .c (.bp 3512 1 0)), (9, .c (.own 3600 0 k 1))], [(1920, 1, .box [.d (eI j.srcs), .d (eI j.tsks), .d (eI j.kind), .d (eI j.size), .d (eI j.step), .d (eI j.late), .d (eI j.tell), .d (eB j.piece), .d (eI j.least), .d (eI j.room), .d (eI mk), .own 1793 0 n 1, .own 2001 0 c 1, .own 2002 0 d 1]), (1793, 1, .arr 13 n fun i => eRow (R i)), (2001, 1, .arr 9 c fun i => ePane (P i)), (2002, 1, .arr 7 d fun i => eLat (Q i)), (3256, 1, .box ((eItm x).map .d)), (3320, 1, .box ((eWin w).map .d)), (3448, 1, .box ((eWin s1).map .d)), (3512, 1, .box ((eAgg kn).map .d)), (3600, 1, .arr 13 k fun i => eRow (G i))]⟩ (cov_ofG ?_ ?_ ?_) ?_
  · subst hA; (repeat' first | exact True.intro | exact rfl | apply And.intro | (intro _ _; first | rfl | trivial))
  · subst hA; (repeat' first | exact True.intro | exact rfl | apply And.intro | (intro _ _; first | rfl | trivial) )
  · subst hA; (repeat' first | exact True.intro | exact rfl | apply And.intro | exact .inl rfl | exact .inr (le_of_nble rfl))
  cbv
  have kG := k_gonef j mk n R c hc P d hd Q x w s1 hov
  have hno : ¬ (k = 1 ∧ (G 0).win.s = s1.s ∧ (G 0).win.e = s1.e) := fun h => by rw [(one_iff hG).2 h] at hone; cases hone
  have hT : ∀ r, Meets Try.prog 138 [xd (eRow r), .c (.d (.p (eItm x))), .c (.d (.p (eWin w)))] ⟨.one (.c (.d (eB (tchR x.key w r)))), [none, none, none]⟩ := fun r => by
    obtain ⟨b, hb, hm⟩ := c_touched r x w
    have e : b = tchR x.key w r := Bool.eq_iff_iff.2 hb
    rw [← e]; exact hm
  have hkeep : Lst zRow (keepN R (tchR x.key w) n) kr Rr := by
    have e : restL x.key w L = keepN R (tchR x.key w) n := by rw [lst_eq hl]; rfl
    rw [← e]; exact hr
  have cD := c_DeleteRow2 n (by omega) R 138 _ _ (tchR x.key w) hT kr Rr hkeep
  have hkrn : kr ≤ n := by rw [hr.1, hl.1]; exact restL_len _ _ _
  have hkn' : k ≤ n := by rw [hG.1, hl.1]; exact oldL_len _ _ _
  obtain ⟨old, hold⟩ : ∃ old, old = oldL x.key w L := ⟨_, rfl⟩
  rw [← hold] at hG hPg hvp hkn ha
  repeat' first
    | (exfalso; rename_i h; cases h; done)
    | (exfalso; rename_i h; subst hA; simp [real] at h; exact hno ⟨by omega, h.2.1, h.2.2⟩)
    | apply And.intro
    | exact True.intro
    | with_reducible rfl
    | exact same_of hA rfl
    | refine br_of hA (fun _ => ?_) (fun _ => ?_)
    | exact imp_of hA id
    | (refine imp_of hA ?_; subst hA; simp only [real, Bool.true_and]; exact id)
    | (refine ind_of hA ?_; decide +kernel)
    | (refine inl_call hA _ _ _ ⟨fun _ => (by rw [← hM]; exact kG), (by cbv; repeat' first | apply And.intro | exact True.intro | rfl | exact .inr trivial | exact .inl trivial | exact .inl (Nat.le_refl _)), ?_⟩; cbv)
    | exact flat_row hA _ _
    | (refine inb_of hA fun h => ?_; subst hA; have h1 : ((k : Nat) : Int) = 1 := of_decide_eq_true h; exact ⟨Int.le_refl 0, by omega⟩)
    | (refine call_of2 hA hM _ cD (by (subst hA; first | rfl | (simp only [sub0r]; try rfl))) ?_; cbv)
  refine loop_ofG hA (α := { y : Nat × Nat × (Nat → PaneT) // y.1 ≤ k ∧ Ext zPan c P (goneL (old.take y.1)) y.2.1 y.2.2 }) (fun y => st_s2t j mk kr Rr k G x s1 kn y.1.1 y.1.2.1 y.1.2.2 (1 + (y.1.2.1 - c)) d Q) (fun y => k - y.1.1) ⟨(0, c, P), Nat.zero_le _, ext_nil zPan c P⟩ ?_ ?_
  · refine cov_ofG ?_ ?_ ?_
    · subst hA; (repeat' first | exact True.intro | exact rfl | apply And.intro)
    · subst hA; (repeat' first | exact True.intro | exact rfl | apply And.intro | (intro _ _; first | rfl | trivial) | exact (show 1 = 1 + (c - c) by omega) | exact (show 1 + (c - c) = 1 by omega))
    · subst hA; (repeat' first | exact True.intro | exact rfl | apply And.intro | exact .inl rfl | exact .inr (le_of_nble rfl) | exact .inr (show 1 ≤ 1 + (c - c) by omega))
  rintro ⟨⟨u2, c2, P2⟩, hu2, hE⟩
  have hu2 : u2 ≤ k := hu2
  have hE : Ext zPan c P (goneL (old.take u2)) c2 P2 := hE
  have hc2 : c ≤ c2 ∧ c2 ≤ c + u2 := by
    have h1 := gone_len (old.take u2)
    rw [List.length_take] at h1
    have := hE.1
    omega
  have hcb : c2 + 1 ≤ 1080000 := by omega
  obtain ⟨v2, hv2⟩ : ∃ v2, v2 = 1 + (c2 - c) := ⟨_, rfl⟩
  dsimp only
  rw [← hv2]
  cbv
  repeat' first
    | apply And.intro
    | exact True.intro
    | with_reducible rfl
    | exact same_of hA rfl
    | refine br_of hA (fun _ => ?_) (fun _ => ?_)
    | exact imp_of hA id
    | (refine imp_of hA ?_; subst hA; simp only [real, Bool.true_and]; exact id)
    | (refine ind_of hA ?_; decide +kernel)
    | (refine inb_lt hA ?_; first | exact lt2_of hA (by assumption) | exact lt_of hA (by assumption))
    | exact room_add2 hA (by omega) (by decide)
    | exact flat_row hA _ _
  all_goals have eq2 : A.add 0 (A.nat (Int.ofNat u2)) = u2 := by subst hA; exact Nat.zero_add u2
  · rename_i hlt hc3
    have hlt' : u2 < k := lt2_of hA hlt
    have hto : 0 < (G u2).told := by
      rw [← eq2]
      subst hA
      exact of_decide_eq_true hc3
    have htk : goneL (old.take (u2 + 1)) = goneL (old.take u2) ++ [goneP (G u2)] := by
      rw [lst_take hG hlt', goneL_snoc, if_pos hto]
    refine ⟨⟨(u2 + 1, c2 + 1, fun q => if q < c2 then P2 q else goneP (G u2)), hlt', ?_⟩, by dsimp only; omega, cov_ofG ?_ ?_ ?_⟩
    · dsimp only; rw [htk]
      exact ext_snoc hE fun q _ => rfl
    · subst hA; (repeat' first | exact True.intro | exact rfl | apply And.intro | exact congrArg (fun x => DV.v (.int .i64 x)) (up64 hlt' (Nat.le_trans (show k ≤ 1080000 by omega) (by decide))))
    · subst hA
      (repeat' first | exact True.intro | exact rfl | apply And.intro | (intro _ _; first | rfl | trivial) | (intro q hq; refine Eq.trans (push_if (A := real) ePane rfl c2 P2 (goneP (G (0 + u2))) (fun _ => [eI 0, eI 0, eI 0, eI 0, eI 0, eI 0, eI 0, eI 0, eI 0]) q hq) (congrArg ePane (by rw [Nat.zero_add]))) | exact (show v2 + 1 = 1 + (c2 + 1 - c) by omega) | exact (show 1 + (c2 + 1 - c) = v2 + 1 by omega) | exact (show v2 = 1 + (c2 - c) by omega) | exact (show 1 + (c2 - c) = v2 by omega))
    · subst hA; (repeat' first | exact True.intro | exact rfl | apply And.intro | exact .inl rfl | exact .inr (le_of_nble rfl) | exact .inr (show v2 + 1 ≤ 1 + (c2 + 1 - c) by omega) | exact .inr (show v2 ≤ 1 + (c2 + 1 - c) by omega) | exact .inr (show v2 ≤ 1 + (c2 - c) by omega))
  · rename_i hlt hc3
    have hlt' : u2 < k := lt2_of hA hlt
    have hto : ¬ 0 < (G u2).told := by
      rw [← eq2]
      subst hA
      exact of_decide_eq_false hc3
    have htk : goneL (old.take (u2 + 1)) = goneL (old.take u2) ++ [] := by
      rw [lst_take hG hlt', goneL_snoc, if_neg hto]
    refine ⟨⟨(u2 + 1, c2, P2), hlt', ?_⟩, by dsimp only; omega, cov_ofG ?_ ?_ ?_⟩
    · dsimp only; rw [htk]
      rw [List.append_nil]; exact hE
    · subst hA; (repeat' first | exact True.intro | exact rfl | apply And.intro | exact congrArg (fun x => DV.v (.int .i64 x)) (up64 hlt' (Nat.le_trans (show k ≤ 1080000 by omega) (by decide))))
    · subst hA
      (repeat' first | exact True.intro | exact rfl | apply And.intro | (intro _ _; first | rfl | trivial) | exact (show v2 + 1 = 1 + (c2 + 1 - c) by omega) | exact (show 1 + (c2 + 1 - c) = v2 + 1 by omega) | exact (show v2 = 1 + (c2 - c) by omega) | exact (show 1 + (c2 - c) = v2 by omega))
    · subst hA; (repeat' first | exact True.intro | exact rfl | apply And.intro | exact .inl rfl | exact .inr (le_of_nble rfl) | exact .inr (show v2 + 1 ≤ 1 + (c2 + 1 - c) by omega) | exact .inr (show v2 ≤ 1 + (c2 + 1 - c) by omega) | exact .inr (show v2 ≤ 1 + (c2 - c) by omega))
  rename_i hge
  have hk2 : k = u2 := by have := ge2_of hA hge; omega
  subst hk2
  rw [show old.take k = old from lst_all hG] at hE
  have hcc : c2 = cg := hE.1.trans hPg.1.symm
  subst hcc
  have hPP : ∀ q, q < c2 → P2 q = Pg q := fun q hq => (hE.2 q hq).trans (hPg.2 q hq).symm
  have hvv : vp = v2 + 1 := by have := hPg.1; omega
  subst hvv
  have cAA := c_AggAdd kn x.v a (by rw [ha, hkn])
  obtain ⟨R1, hR1⟩ : ∃ R1 : Nat → RowT, R1 = fun q => if q < i then Rr q else if q = i then r0 else Rr (q - 1) := ⟨_, rfl⟩
  have e1 : R1 i = r0 := by rw [hR1]; dsimp only; rw [if_neg (Nat.lt_irrefl i), if_pos rfl]
  have kP := k_puts j mk kr Rr c2 (by omega) Pg d hd Q v2 (by omega) r0 i hi h1 h2 R1 (fun q _ => by rw [hR1])
  rw [hr0] at kP
  refine stop_ofG hA ⟨[(0, .c (.bp 1920 1 0)), (4, .c (.bp 3256 1 0)), (7, .c (.bp 3448 1 0)), (8, .c (.bp 3512 1 0))], [(1920, 1, .box [.d (eI j.srcs), .d (eI j.tsks), .d (eI j.kind), .d (eI j.size), .d (eI j.step), .d (eI j.late), .d (eI j.tell), .d (eB j.piece), .d (eI j.least), .d (eI j.room), .d (eI mk), .own 8440 0 kr 1, .own 2001 0 c2 v2, .own 2002 0 d 1]), (8440, 1, .arr 13 kr fun i => eRow (Rr i)), (2001, v2, .arr 9 c2 fun i => ePane (Pg i)), (2002, 1, .arr 7 d fun i => eLat (Q i)), (1793, 2, .dead), (3256, 1, .box ((eItm x).map .d)), (3448, 1, .box ((eWin s1).map .d)), (3512, 1, .box ((eAgg kn).map .d))]⟩ (cov_ofG ?_ ?_ ?_) ?_
  · subst hA; (repeat' first | exact True.intro | exact rfl | apply And.intro)
  · subst hA; (repeat' first | exact True.intro | exact rfl | apply And.intro | (intro _ _; first | rfl | trivial) | (intro q hq; exact congrArg ePane (hPP q hq)))
  · subst hA; (repeat' first | exact True.intro | exact rfl | apply And.intro | exact .inl rfl | exact .inr (le_of_nble rfl) | exact .inr (Nat.le_refl _))
  cbv
  repeat' first
    | apply And.intro
    | exact True.intro
    | with_reducible rfl
    | exact same_of hA rfl
    | refine br_of hA (fun _ => ?_) (fun _ => ?_)
    | exact imp_of hA id
    | (refine imp_of hA ?_; subst hA; simp only [real, Bool.true_and]; exact id)
    | (refine ind_of hA ?_; decide +kernel)
    | (refine call_of hA hM _ cAA ?_; cbv)
    | (refine inl_call hA _ _ _ ⟨fun _ => (by rw [← hM]; exact kP), (by cbv; repeat' first | apply And.intro | exact True.intro | rfl | exact .inr trivial | exact .inl trivial | exact .inl (Nat.le_refl _)), ?_⟩; cbv)
    | exact flat_row hA _ _
  have kT := k_telln j mk (kr + 1) R1 c2 (by omega) Pg d hd Q v2 i (by omega) 1 R' (fun q hq => by
    rw [hR' q hq, e1, hR1]
    dsimp only
    by_cases a : q < i
    · rw [if_pos a, if_neg (by omega), if_pos a]
    · rw [if_neg a]
      by_cases b : q = i
      · rw [if_pos b, if_pos b]
      · rw [if_neg b, if_neg b, if_neg a, if_neg b]) P' (fun q hq => by rw [hP' q hq, e1])
  have esp : s1.e = r0.win.e := by rw [hr0]
  refine stop_ofG hA ⟨[(0, .c (.bp 1920 1 0)), (7, .c (.bp 3448 1 0)), (14, .c (.op 2664 1 i 0))], [(1920, 1, .box [.d (eI j.srcs), .d (eI j.tsks), .d (eI j.kind), .d (eI j.size), .d (eI j.step), .d (eI j.late), .d (eI j.tell), .d (eB j.piece), .d (eI j.least), .d (eI j.room), .d (eI mk), .own 2664 0 (kr + 1) 1, .own 2001 0 c2 v2, .own 2002 0 d 1]), (2664, 1, .arr 13 (kr + 1) fun i => eRow (R1 i)), (2001, v2, .arr 9 c2 fun i => ePane (Pg i)), (2002, 1, .arr 7 d fun i => eLat (Q i)), (3256, 1, .dead), (3320, 1, .dead), (3448, 1, .box ((eWin s1).map .d)), (3512, 1, .dead), (3600, 1, .dead), (4320, 1, .dead), (4384, 1, .dead), (4448, 1, .dead), (1793, 2, .dead), (8440, 2, .dead), (1192, 1, .dead), (2600, 2, .dead)]⟩ (cov_ofG ?_ ?_ ?_) ?_
  · subst hA; (repeat' first | exact True.intro | exact rfl | apply And.intro)
  · subst hA; (repeat' first | exact True.intro | exact rfl | apply And.intro | (intro _ _; first | rfl | trivial))
  · subst hA; (repeat' first | exact True.intro | exact rfl | apply And.intro | exact .inl rfl | exact .inr (le_of_nble rfl) | exact .inr (Nat.le_refl _) | exact .inr (Nat.le_succ _))
  have no : ∀ {A : Ar}, real = A → A.cmp .geq mk s1.e = false → False := fun hA h => by
    subst hA
    have h : decide (mk ≥ s1.e) = false := h
    simp at h; omega
  cbv
  repeat' first
    | exact (no hA (by assumption)).elim
    | apply And.intro
    | exact True.intro
    | with_reducible rfl
    | exact same_of hA rfl
    | refine br_of hA (fun _ => ?_) (fun _ => ?_)
    | exact imp_of hA id
    | (refine imp_of hA ?_; subst hA; simp only [real, Bool.true_and]; exact id)
    | (refine ind_of hA ?_; decide +kernel)
    | (refine inl_call hA _ _ _ ⟨fun _ => (by rw [← hM]; exact kT), (by cbv; repeat' first | apply And.intro | exact True.intro | rfl | exact .inr trivial | exact .inl trivial | exact .inl (Nat.le_refl _)), ?_⟩; cbv)
    | (intro _ _; first | rfl | trivial)
def EXSn : FuncId → List Nat × Bool := fun f => bif nbeq f 1 then ([3000], false) else bif nbeq f 66 then ([0], false) else bif nbeq f 65 then ([99], false) else bif nbeq f 140 then ([99], false) else bif nbeq f 141 then ([99], false) else bif nbeq f 139 then ([99], false) else ([], false)
def st_s1n (j : JobT) (mk : Int) (n : Nat) (R : Nat → RowT) (c : Nat) (P : Nat → PaneT) (d : Nat) (Q : Nat → LatT) (x : ItmT) (w : WinT) (i k : Nat) (G : Nat → RowT) (sp : WinT) (kn : AggT) : St := ⟨[(24, .c (.d (eI i))), (23, .c (.d (eI n))), (22, .c (.own 1793 0 n 1)), (9, .c (.own 3600 0 k 1)), (6, .c (.clo 138 [(3256, 1), (3320, 1)])), (4, .c (.bp 3256 1 0)), (5, .c (.bp 3320 1 0)), (7, .c (.bp 3448 1 0)), (8, .c (.bp 3512 1 0)), (0, .c (.bp 1920 1 0))], [(1920, 1, .box [.d (eI j.srcs), .d (eI j.tsks), .d (eI j.kind), .d (eI j.size), .d (eI j.step), .d (eI j.late), .d (eI j.tell), .d (eB j.piece), .d (eI j.least), .d (eI j.room), .d (eI mk), .own 1793 0 n 1, .own 2001 0 c 1, .own 2002 0 d 1]), (1793, 1, .arr 13 n fun i => eRow (R i)), (2001, 1, .arr 9 c fun i => ePane (P i)), (2002, 1, .arr 7 d fun i => eLat (Q i)), (3256, 1, .box ((eItm x).map .d)), (3320, 1, .box ((eWin w).map .d)), (3448, 1, .box ((eWin sp).map .d)), (3512, 1, .box ((eAgg kn).map .d)), (3600, 1, .arr 13 k fun i => eRow (G i))]⟩
def st_s2n (j : JobT) (mk : Int) (kr : Nat) (Rr : Nat → RowT) (k : Nat) (G : Nat → RowT) (x : ItmT) (sp : WinT) (kn : AggT) (u c : Nat) (P : Nat → PaneT) (pv d : Nat) (Q : Nat → LatT) : St := ⟨[(91, .c (.d (eI u))), (90, .c (.d (eI k))), (89, .c (.own 3600 0 k 1)), (4, .c (.bp 3256 1 0)), (7, .c (.bp 3448 1 0)), (8, .c (.bp 3512 1 0)), (0, .c (.bp 1920 1 0))], [(1920, 1, .box [.d (eI j.srcs), .d (eI j.tsks), .d (eI j.kind), .d (eI j.size), .d (eI j.step), .d (eI j.late), .d (eI j.tell), .d (eB j.piece), .d (eI j.least), .d (eI j.room), .d (eI mk), .own 8440 0 kr 1, .own 2001 0 c pv, .own 2002 0 d 1]), (8440, 1, .arr 13 kr fun i => eRow (Rr i)), (2001, pv, .arr 9 c fun i => ePane (P i)), (2002, 1, .arr 7 d fun i => eLat (Q i)), (1793, 2, .dead), (3256, 1, .box ((eItm x).map .d)), (3448, 1, .box ((eWin sp).map .d)), (3512, 1, .box ((eAgg kn).map .d)), (3600, 1, .arr 13 k fun i => eRow (G i))]⟩
theorem k_sn (j : JobT) (mk : Int) (n : Nat) (R : Nat → RowT) (c : Nat) (hc : c ≤ 1080000) (P : Nat → PaneT) (d : Nat) (hd : d ≤ 1080000) (Q : Nat → LatT) (x : ItmT) (w : WinT) (hn : n ≤ 300) (hcs : c ≤ 1000000) (L : List RowT) (hl : Lst zRow L n R) (sp : WinT) (hsp : sp = spanL w (oldL x.key w L)) (hov : mk < w64 (sp.e + j.late)) (hone : oneB sp (oldL x.key w L) = false) (a : AggT) (ha : a = aggAdd (((oldL x.key w L).map (·.all)).foldl aggB zAgg) x.v) (kr : Nat) (Rr : Nat → RowT) (hr : Lst zRow (restL x.key w L) kr Rr) (cg : Nat) (Pg : Nat → PaneT) (hPg : Ext zPan c P (goneL (oldL x.key w L)) cg Pg) (vp : Nat) (hvp : vp = (goneL (oldL x.key w L)).length + 2) (r0 : RowT) (hr0 : r0 = ⟨x.key, sp, a, a, 0, false⟩) (i : Nat) (hi : i ≤ kr) (h1 : ∀ q, q < i → RA (Rr q) r0) (h2 : ∀ q, i ≤ q → q < kr → ¬ RA (Rr q) r0) (hm : mk < sp.e) (R' : Nat → RowT) (hR' : ∀ q, q < kr + 1 → R' q = if q < i then Rr q else if q = i then r0 else Rr (q - 1)) : MeetsO Try.prog 105 [.c (.bp 1920 1 0), .agg ((eItm x).map .d), .agg ((eWin w).map .d)]
    [(1920, 1, .box [.d (eI j.srcs), .d (eI j.tsks), .d (eI j.kind), .d (eI j.size), .d (eI j.step), .d (eI j.late), .d (eI j.tell), .d (eB j.piece), .d (eI j.least), .d (eI j.room), .d (eI mk), .own 1793 0 n 1, .own 2001 0 c 1, .own 2002 0 d 1]), (1793, 1, .arr 13 n fun i => eRow (R i)), (2001, 1, .arr 9 c fun i => ePane (P i)), (2002, 1, .arr 7 d fun i => eLat (Q i))] (.tup [])
    [(1920, 1, .box [.d (eI j.srcs), .d (eI j.tsks), .d (eI j.kind), .d (eI j.size), .d (eI j.step), .d (eI j.late), .d (eI j.tell), .d (eB j.piece), .d (eI j.least), .d (eI j.room), .d (eI mk), .own 2664 0 (kr + 1) 1, .own 2001 0 cg vp, .own 2002 0 d 1]), (2664, 1, .arr 13 (kr + 1) fun i => eRow (R' i)), (2001, vp, .arr 9 cg fun i => ePane (Pg i)), (2002, 1, .arr 7 d fun i => eLat (Q i)), (3256, 1, .dead), (3320, 1, .dead), (3448, 1, .dead), (3512, 1, .dead), (3600, 1, .dead), (4320, 1, .dead), (4384, 1, .dead), (4448, 1, .dead), (6384, 1, .dead), (8560, 1, .dead), (1793, 2, .dead), (8440, 2, .dead), (1192, 1, .dead), (2600, 2, .dead)] := by
  have hnL : n ≤ maxLen := Nat.le_trans (show n ≤ 1080000 by omega) (by decide)
  refine inl_ofH [999, 10, 20, 22] (EX := EXSn) ttok mixed Try.func105 rfl (by kernel_rfl) (by decide) rfl rfl rfl rfl ?_
  generalize hA : real = A
  generalize hM : MeetsB Try.prog = M
  cbv
  repeat' first
    | apply And.intro
    | exact True.intro
    | with_reducible rfl
    | exact same_of hA rfl
    | refine br_of hA (fun _ => ?_) (fun _ => ?_)
    | exact imp_of hA id
    | (refine imp_of hA ?_; subst hA; simp only [real, Bool.true_and]; exact id)
    | (refine ind_of hA ?_; decide +kernel)
  refine loop_ofG hA (α := { y : Nat × Nat × (Nat → RowT) × WinT × AggT // y.1 ≤ n ∧ Lst zRow (oldL x.key w (L.take y.1)) y.2.1 y.2.2.1 ∧ y.2.2.2.1 = spanL w (oldL x.key w (L.take y.1)) ∧ y.2.2.2.2 = ((oldL x.key w (L.take y.1)).map (·.all)).foldl aggB zAgg }) (fun y => st_s1n j mk n R c P d Q x w y.1.1 y.1.2.1 y.1.2.2.1 y.1.2.2.2.1 y.1.2.2.2.2) (fun y => n - y.1.1) ⟨(0, 0, (fun _ => zRow), w, zAgg), Nat.zero_le _, ⟨rfl, fun k h => absurd h (Nat.not_lt_zero k)⟩, rfl, rfl⟩ ?_ ?_
  · refine cov_prom 9 3600 1 13 (fun _ => eRow zRow) rfl rfl (cov_ofG ?_ ?_ ?_)
    · subst hA; (repeat' first | exact True.intro | exact rfl | apply And.intro | (intro _ _; first | rfl | trivial))
    · subst hA; (repeat' first | exact True.intro | exact rfl | apply And.intro | (intro _ _; first | rfl | trivial) )
    · subst hA; (repeat' first | exact True.intro | exact rfl | apply And.intro | exact .inl rfl | exact .inr (le_of_nble rfl))
  rintro ⟨⟨u, k, G, s1, kn⟩, hu, hG, hs1, hkn⟩
  have hu : u ≤ n := hu
  have hG : Lst zRow (oldL x.key w (L.take u)) k G := hG
  have hs1 : s1 = spanL w (oldL x.key w (L.take u)) := hs1
  have hkn : kn = ((oldL x.key w (L.take u)).map (·.all)).foldl aggB zAgg := hkn
  have hki : k ≤ u := by
    rw [hG.1]
    refine Nat.le_trans (oldL_len _ _ _) ?_
    rw [List.length_take]; omega
  obtain ⟨sp2, hsp2⟩ : ∃ z, z = winSpan s1 (R u).win := ⟨_, rfl⟩
  obtain ⟨kn2, hkn2⟩ : ∃ z, z = aggB kn (R u).all := ⟨_, rfl⟩
  have cS := fun q (e : q = u) => c_WinSpan s1 (R q).win sp2 (by rw [e]; exact hsp2)
  have cB := fun q (e : q = u) => c_AggBoth kn (R q).all kn2 (by rw [e]; exact hkn2)
  have eq0 : A.add 0 (A.nat (Int.ofNat u)) = u := by subst hA; exact Nat.zero_add u
  have hsn : u < n → oldL x.key w (L.take (u + 1)) = oldL x.key w (L.take u) ++ if tchR x.key w (R u) = true then [R u] else [] := fun h => by rw [lst_take hl h, oldL_snoc]
  cbv
  repeat' first
    | apply And.intro
    | exact True.intro
    | with_reducible rfl
    | exact same_of hA rfl
    | refine br_of hA (fun _ => ?_) (fun _ => ?_)
    | exact imp_of hA id
    | (refine imp_of hA ?_; subst hA; simp only [real, Bool.true_and]; exact id)
    | (refine ind_of hA ?_; decide +kernel)
    | (refine call_of hA hM _ (cS _ eq0) ?_; cbv)
    | (refine call_of hA hM _ (cB _ eq0) ?_; cbv)
    | (refine call_ex hA hM (c_touched _ x w) (fun _ _ => ?_); cbv)
    | (refine inb_lt hA ?_; first | exact lt2_of hA (by assumption) | exact lt_of hA (by assumption))
    | exact room_add2 hA (by omega) (by decide)
    | exact flat_row hA _ _
  · rename_i hlt b hb hc
    have hlt' : u < n := lt2_of hA hlt
    have ht : tchR x.key w (R u) = true := by
      rw [← eq0]
      exact hb.1 hc
    refine ⟨⟨(u + 1, k + 1, (fun q => if q < k then G q else R u), sp2, kn2), hlt', ?_, ?_, ?_⟩, by dsimp only; omega, cov_ofG ?_ ?_ ?_⟩
    · dsimp only; rw [hsn hlt', if_pos ht]
      exact lst_snoc hG
    · dsimp only; rw [hsn hlt', if_pos ht]
      rw [spanL_app, ← hs1]; exact hsp2
    · dsimp only; rw [hsn hlt', if_pos ht]
      rw [List.map_append, List.foldl_append, ← hkn]; exact hkn2
    · subst hA; (repeat' first | exact True.intro | exact rfl | apply And.intro | exact congrArg (fun x => DV.v (.int .i64 x)) (up64 hlt' hnL))
    · subst hA
      (repeat' first | exact True.intro | exact rfl | apply And.intro | (intro _ _; first | rfl | trivial) | (intro q hq; refine Eq.trans (push_if (A := real) eRow rfl k G (R (0 + u)) (fun _ => eRow zRow) q hq) (congrArg eRow (by rw [Nat.zero_add]))))
    · subst hA; (repeat' first | exact True.intro | exact rfl | apply And.intro | exact .inl rfl | exact .inr (le_of_nble rfl))
  · rename_i hlt b hb hc
    have hlt' : u < n := lt2_of hA hlt
    have ht : ¬ tchR x.key w (R u) = true := by
      rw [← eq0]
      intro h; have := hb.2 h; rw [hc] at this; cases this
    refine ⟨⟨(u + 1, k, G, s1, kn), hlt', ?_, ?_, ?_⟩, by dsimp only; omega, cov_ofG ?_ ?_ ?_⟩
    · dsimp only; rw [hsn hlt', if_neg ht]
      rw [List.append_nil]; exact hG
    · dsimp only; rw [hsn hlt', if_neg ht]
      rw [List.append_nil]; exact hs1
    · dsimp only; rw [hsn hlt', if_neg ht]
      rw [List.append_nil]; exact hkn
    · subst hA; (repeat' first | exact True.intro | exact rfl | apply And.intro | exact congrArg (fun x => DV.v (.int .i64 x)) (up64 hlt' hnL))
    · subst hA; (repeat' first | exact True.intro | exact rfl | apply And.intro | (intro _ _; first | rfl | trivial))
    · subst hA; (repeat' first | exact True.intro | exact rfl | apply And.intro | exact .inl rfl | exact .inr (le_of_nble rfl))
  rename_i hge
  have hin : n = u := by have := ge2_of hA hge; omega
  subst hin
  rw [lst_all hl] at hG hs1 hkn
  have hss : s1 = sp := hs1.trans hsp.symm
  subst hss
  refine stop_ofG hA ⟨[(0, .c (.bp 1920 1 0)), (4, .c (.bp 3256 1 0)), (5, .c (.bp 3320 1 0)), (6, .c (.clo 138 [(3256, 1), (3320, 1)])), (7, .c (.bp 3448 1 0)), (8, .c (.bp 3512 1 0)), (9, .c (.own 3600 0 k 1))], [(1920, 1, .box [.d (eI j.srcs), .d (eI j.tsks), .d (eI j.kind), .d (eI j.size), .d (eI j.step), .d (eI j.late), .d (eI j.tell), .d (eB j.piece), .d (eI j.least), .d (eI j.room), .d (eI mk), .own 1793 0 n 1, .own 2001 0 c 1, .own 2002 0 d 1]), (1793, 1, .arr 13 n fun i => eRow (R i)), (2001, 1, .arr 9 c fun i => ePane (P i)), (2002, 1, .arr 7 d fun i => eLat (Q i)), (3256, 1, .box ((eItm x).map .d)), (3320, 1, .box ((eWin w).map .d)), (3448, 1, .box ((eWin s1).map .d)), (3512, 1, .box ((eAgg kn).map .d)), (3600, 1, .arr 13 k fun i => eRow (G i))]⟩ (cov_ofG ?_ ?_ ?_) ?_
  · subst hA; (repeat' first | exact True.intro | exact rfl | apply And.intro | (intro _ _; first | rfl | trivial))
  · subst hA; (repeat' first | exact True.intro | exact rfl | apply And.intro | (intro _ _; first | rfl | trivial) )
  · subst hA; (repeat' first | exact True.intro | exact rfl | apply And.intro | exact .inl rfl | exact .inr (le_of_nble rfl))
  cbv
  have kG := k_gonef j mk n R c hc P d hd Q x w s1 hov
  have hno : ¬ (k = 1 ∧ (G 0).win.s = s1.s ∧ (G 0).win.e = s1.e) := fun h => by rw [(one_iff hG).2 h] at hone; cases hone
  have hT : ∀ r, Meets Try.prog 138 [xd (eRow r), .c (.d (.p (eItm x))), .c (.d (.p (eWin w)))] ⟨.one (.c (.d (eB (tchR x.key w r)))), [none, none, none]⟩ := fun r => by
    obtain ⟨b, hb, hm⟩ := c_touched r x w
    have e : b = tchR x.key w r := Bool.eq_iff_iff.2 hb
    rw [← e]; exact hm
  have hkeep : Lst zRow (keepN R (tchR x.key w) n) kr Rr := by
    have e : restL x.key w L = keepN R (tchR x.key w) n := by rw [lst_eq hl]; rfl
    rw [← e]; exact hr
  have cD := c_DeleteRow2 n (by omega) R 138 _ _ (tchR x.key w) hT kr Rr hkeep
  have hkrn : kr ≤ n := by rw [hr.1, hl.1]; exact restL_len _ _ _
  have hkn' : k ≤ n := by rw [hG.1, hl.1]; exact oldL_len _ _ _
  obtain ⟨old, hold⟩ : ∃ old, old = oldL x.key w L := ⟨_, rfl⟩
  rw [← hold] at hG hPg hvp hkn ha
  repeat' first
    | (exfalso; rename_i h; cases h; done)
    | (exfalso; rename_i h; subst hA; simp [real] at h; exact hno ⟨by omega, h.2.1, h.2.2⟩)
    | apply And.intro
    | exact True.intro
    | with_reducible rfl
    | exact same_of hA rfl
    | refine br_of hA (fun _ => ?_) (fun _ => ?_)
    | exact imp_of hA id
    | (refine imp_of hA ?_; subst hA; simp only [real, Bool.true_and]; exact id)
    | (refine ind_of hA ?_; decide +kernel)
    | (refine inl_call hA _ _ _ ⟨fun _ => (by rw [← hM]; exact kG), (by cbv; repeat' first | apply And.intro | exact True.intro | rfl | exact .inr trivial | exact .inl trivial | exact .inl (Nat.le_refl _)), ?_⟩; cbv)
    | exact flat_row hA _ _
    | (refine inb_of hA fun h => ?_; subst hA; have h1 : ((k : Nat) : Int) = 1 := of_decide_eq_true h; exact ⟨Int.le_refl 0, by omega⟩)
    | (refine call_of2 hA hM _ cD (by (subst hA; first | rfl | (simp only [sub0r]; try rfl))) ?_; cbv)
  refine loop_ofG hA (α := { y : Nat × Nat × (Nat → PaneT) // y.1 ≤ k ∧ Ext zPan c P (goneL (old.take y.1)) y.2.1 y.2.2 }) (fun y => st_s2n j mk kr Rr k G x s1 kn y.1.1 y.1.2.1 y.1.2.2 (1 + (y.1.2.1 - c)) d Q) (fun y => k - y.1.1) ⟨(0, c, P), Nat.zero_le _, ext_nil zPan c P⟩ ?_ ?_
  · refine cov_ofG ?_ ?_ ?_
    · subst hA; (repeat' first | exact True.intro | exact rfl | apply And.intro)
    · subst hA; (repeat' first | exact True.intro | exact rfl | apply And.intro | (intro _ _; first | rfl | trivial) | exact (show 1 = 1 + (c - c) by omega) | exact (show 1 + (c - c) = 1 by omega))
    · subst hA; (repeat' first | exact True.intro | exact rfl | apply And.intro | exact .inl rfl | exact .inr (le_of_nble rfl) | exact .inr (show 1 ≤ 1 + (c - c) by omega))
  rintro ⟨⟨u2, c2, P2⟩, hu2, hE⟩
  have hu2 : u2 ≤ k := hu2
  have hE : Ext zPan c P (goneL (old.take u2)) c2 P2 := hE
  have hc2 : c ≤ c2 ∧ c2 ≤ c + u2 := by
    have h1 := gone_len (old.take u2)
    rw [List.length_take] at h1
    have := hE.1
    omega
  have hcb : c2 + 1 ≤ 1080000 := by omega
  obtain ⟨v2, hv2⟩ : ∃ v2, v2 = 1 + (c2 - c) := ⟨_, rfl⟩
  dsimp only
  rw [← hv2]
  cbv
  repeat' first
    | apply And.intro
    | exact True.intro
    | with_reducible rfl
    | exact same_of hA rfl
    | refine br_of hA (fun _ => ?_) (fun _ => ?_)
    | exact imp_of hA id
    | (refine imp_of hA ?_; subst hA; simp only [real, Bool.true_and]; exact id)
    | (refine ind_of hA ?_; decide +kernel)
    | (refine inb_lt hA ?_; first | exact lt2_of hA (by assumption) | exact lt_of hA (by assumption))
    | exact room_add2 hA (by omega) (by decide)
    | exact flat_row hA _ _
  all_goals have eq2 : A.add 0 (A.nat (Int.ofNat u2)) = u2 := by subst hA; exact Nat.zero_add u2
  · rename_i hlt hc3
    have hlt' : u2 < k := lt2_of hA hlt
    have hto : 0 < (G u2).told := by
      rw [← eq2]
      subst hA
      exact of_decide_eq_true hc3
    have htk : goneL (old.take (u2 + 1)) = goneL (old.take u2) ++ [goneP (G u2)] := by
      rw [lst_take hG hlt', goneL_snoc, if_pos hto]
    refine ⟨⟨(u2 + 1, c2 + 1, fun q => if q < c2 then P2 q else goneP (G u2)), hlt', ?_⟩, by dsimp only; omega, cov_ofG ?_ ?_ ?_⟩
    · dsimp only; rw [htk]
      exact ext_snoc hE fun q _ => rfl
    · subst hA; (repeat' first | exact True.intro | exact rfl | apply And.intro | exact congrArg (fun x => DV.v (.int .i64 x)) (up64 hlt' (Nat.le_trans (show k ≤ 1080000 by omega) (by decide))))
    · subst hA
      (repeat' first | exact True.intro | exact rfl | apply And.intro | (intro _ _; first | rfl | trivial) | (intro q hq; refine Eq.trans (push_if (A := real) ePane rfl c2 P2 (goneP (G (0 + u2))) (fun _ => [eI 0, eI 0, eI 0, eI 0, eI 0, eI 0, eI 0, eI 0, eI 0]) q hq) (congrArg ePane (by rw [Nat.zero_add]))) | exact (show v2 + 1 = 1 + (c2 + 1 - c) by omega) | exact (show 1 + (c2 + 1 - c) = v2 + 1 by omega) | exact (show v2 = 1 + (c2 - c) by omega) | exact (show 1 + (c2 - c) = v2 by omega))
    · subst hA; (repeat' first | exact True.intro | exact rfl | apply And.intro | exact .inl rfl | exact .inr (le_of_nble rfl) | exact .inr (show v2 + 1 ≤ 1 + (c2 + 1 - c) by omega) | exact .inr (show v2 ≤ 1 + (c2 + 1 - c) by omega) | exact .inr (show v2 ≤ 1 + (c2 - c) by omega))
  · rename_i hlt hc3
    have hlt' : u2 < k := lt2_of hA hlt
    have hto : ¬ 0 < (G u2).told := by
      rw [← eq2]
      subst hA
      exact of_decide_eq_false hc3
    have htk : goneL (old.take (u2 + 1)) = goneL (old.take u2) ++ [] := by
      rw [lst_take hG hlt', goneL_snoc, if_neg hto]
    refine ⟨⟨(u2 + 1, c2, P2), hlt', ?_⟩, by dsimp only; omega, cov_ofG ?_ ?_ ?_⟩
    · dsimp only; rw [htk]
      rw [List.append_nil]; exact hE
    · subst hA; (repeat' first | exact True.intro | exact rfl | apply And.intro | exact congrArg (fun x => DV.v (.int .i64 x)) (up64 hlt' (Nat.le_trans (show k ≤ 1080000 by omega) (by decide))))
    · subst hA
      (repeat' first | exact True.intro | exact rfl | apply And.intro | (intro _ _; first | rfl | trivial) | exact (show v2 + 1 = 1 + (c2 + 1 - c) by omega) | exact (show 1 + (c2 + 1 - c) = v2 + 1 by omega) | exact (show v2 = 1 + (c2 - c) by omega) | exact (show 1 + (c2 - c) = v2 by omega))
    · subst hA; (repeat' first | exact True.intro | exact rfl | apply And.intro | exact .inl rfl | exact .inr (le_of_nble rfl) | exact .inr (show v2 + 1 ≤ 1 + (c2 + 1 - c) by omega) | exact .inr (show v2 ≤ 1 + (c2 + 1 - c) by omega) | exact .inr (show v2 ≤ 1 + (c2 - c) by omega))
  rename_i hge
  have hk2 : k = u2 := by have := ge2_of hA hge; omega
  subst hk2
  rw [show old.take k = old from lst_all hG] at hE
  have hcc : c2 = cg := hE.1.trans hPg.1.symm
  subst hcc
  have hPP : ∀ q, q < c2 → P2 q = Pg q := fun q hq => (hE.2 q hq).trans (hPg.2 q hq).symm
  have hvv : vp = v2 + 1 := by have := hPg.1; omega
  subst hvv
  have cAA := c_AggAdd kn x.v a (by rw [ha, hkn])
  obtain ⟨R1, hR1⟩ : ∃ R1 : Nat → RowT, R1 = fun q => if q < i then Rr q else if q = i then r0 else Rr (q - 1) := ⟨_, rfl⟩
  have e1 : R1 i = r0 := by rw [hR1]; dsimp only; rw [if_neg (Nat.lt_irrefl i), if_pos rfl]
  have kP := k_puts j mk kr Rr c2 (by omega) Pg d hd Q v2 (by omega) r0 i hi h1 h2 R1 (fun q _ => by rw [hR1])
  rw [hr0] at kP
  refine stop_ofG hA ⟨[(0, .c (.bp 1920 1 0)), (4, .c (.bp 3256 1 0)), (7, .c (.bp 3448 1 0)), (8, .c (.bp 3512 1 0))], [(1920, 1, .box [.d (eI j.srcs), .d (eI j.tsks), .d (eI j.kind), .d (eI j.size), .d (eI j.step), .d (eI j.late), .d (eI j.tell), .d (eB j.piece), .d (eI j.least), .d (eI j.room), .d (eI mk), .own 8440 0 kr 1, .own 2001 0 c2 v2, .own 2002 0 d 1]), (8440, 1, .arr 13 kr fun i => eRow (Rr i)), (2001, v2, .arr 9 c2 fun i => ePane (Pg i)), (2002, 1, .arr 7 d fun i => eLat (Q i)), (1793, 2, .dead), (3256, 1, .box ((eItm x).map .d)), (3448, 1, .box ((eWin s1).map .d)), (3512, 1, .box ((eAgg kn).map .d))]⟩ (cov_ofG ?_ ?_ ?_) ?_
  · subst hA; (repeat' first | exact True.intro | exact rfl | apply And.intro)
  · subst hA; (repeat' first | exact True.intro | exact rfl | apply And.intro | (intro _ _; first | rfl | trivial) | (intro q hq; exact congrArg ePane (hPP q hq)))
  · subst hA; (repeat' first | exact True.intro | exact rfl | apply And.intro | exact .inl rfl | exact .inr (le_of_nble rfl) | exact .inr (Nat.le_refl _))
  cbv
  repeat' first
    | apply And.intro
    | exact True.intro
    | with_reducible rfl
    | exact same_of hA rfl
    | refine br_of hA (fun _ => ?_) (fun _ => ?_)
    | exact imp_of hA id
    | (refine imp_of hA ?_; subst hA; simp only [real, Bool.true_and]; exact id)
    | (refine ind_of hA ?_; decide +kernel)
    | (refine call_of hA hM _ cAA ?_; cbv)
    | (refine inl_call hA _ _ _ ⟨fun _ => (by rw [← hM]; exact kP), (by cbv; repeat' first | apply And.intro | exact True.intro | rfl | exact .inr trivial | exact .inl trivial | exact .inl (Nat.le_refl _)), ?_⟩; cbv)
    | exact flat_row hA _ _
  have esp : s1.e = r0.win.e := by rw [hr0]
  refine stop_ofG hA ⟨[(0, .c (.bp 1920 1 0)), (7, .c (.bp 3448 1 0)), (14, .c (.op 2664 1 i 0))], [(1920, 1, .box [.d (eI j.srcs), .d (eI j.tsks), .d (eI j.kind), .d (eI j.size), .d (eI j.step), .d (eI j.late), .d (eI j.tell), .d (eB j.piece), .d (eI j.least), .d (eI j.room), .d (eI mk), .own 2664 0 (kr + 1) 1, .own 2001 0 c2 (v2 + 1), .own 2002 0 d 1]), (2664, 1, .arr 13 (kr + 1) fun i => eRow (R1 i)), (2001, (v2 + 1), .arr 9 c2 fun i => ePane (Pg i)), (2002, 1, .arr 7 d fun i => eLat (Q i)), (3256, 1, .dead), (3320, 1, .dead), (3448, 1, .box ((eWin s1).map .d)), (3512, 1, .dead), (3600, 1, .dead), (4320, 1, .dead), (4384, 1, .dead), (4448, 1, .dead), (6384, 1, .dead), (8560, 1, .dead), (1793, 2, .dead), (8440, 2, .dead), (1192, 1, .dead), (2600, 2, .dead)]⟩ (cov_ofG ?_ ?_ ?_) ?_
  · subst hA; (repeat' first | exact True.intro | exact rfl | apply And.intro)
  · subst hA; (repeat' first | exact True.intro | exact rfl | apply And.intro | (intro _ _; first | rfl | trivial))
  · subst hA; (repeat' first | exact True.intro | exact rfl | apply And.intro | exact .inl rfl | exact .inr (le_of_nble rfl) | exact .inr (Nat.le_refl _) | exact .inr (Nat.le_succ _))
  have no : ∀ {A : Ar}, real = A → A.cmp .geq mk s1.e = true → False := fun hA h => by
    subst hA
    have h : decide (mk ≥ s1.e) = true := h
    simp at h; omega
  cbv
  repeat' first
    | exact (no hA (by assumption)).elim
    | apply And.intro
    | exact True.intro
    | with_reducible rfl
    | exact same_of hA rfl
    | refine br_of hA (fun _ => ?_) (fun _ => ?_)
    | exact imp_of hA id
    | (refine imp_of hA ?_; subst hA; simp only [real, Bool.true_and]; exact id)
    | (refine ind_of hA ?_; decide +kernel)
    | (intro q hq; exact congrArg eRow ((congrFun hR1 q).trans (hR' q hq).symm))
    | (intro _ _; first | rfl | trivial)
end Go.Rk
/- The windows of a time. -/
namespace Go.Rk
set_option linter.unusedSimpArgs false
set_option linter.unusedVariables false
open Go.Proofs
theorem c_JobOkP (j : JobT) : ∃ b, (b = true ↔ JobOkP j) ∧ Meets Try.prog 84 [xd (eJob j)] ⟨.one (.c (.d (eB b))), [none]⟩ := by
  obtain ⟨b, hb, hm⟩ := c_JobOk j.srcs j.tsks j.kind j.size j.step j.late j.tell j.piece j.least j.room
  exact ⟨b, by rw [hb, decide_eq_true_eq]; exact Iff.rfl, hm⟩
theorem c_sJobOkP (j : JobT) : ∃ b, (b = true ↔ JobOkP j) ∧ Meets Try.prog 71 [xd (eJob j)] ⟨.one (.c (.d (eB b))), [none]⟩ := by
  obtain ⟨b, hb, hm⟩ := c_sJobOk j.srcs j.tsks j.kind j.size j.step j.late j.tell j.piece j.least j.room
  exact ⟨b, by rw [hb, decide_eq_true_eq]; exact Iff.rfl, hm⟩


theorem nz_of {A : Ar} (hA : real = A) {g : Bool} {n : Int} (h : n ≠ 0) : A.nz g n := by subst hA; exact fun _ => h
def st_wo (j : JobT) (t sp f : Int) (n : Nat) (row : Nat → List DV) : St := ⟨[(5, .c (.d (eI f))), (6, .c (.d (eI sp))), (1, .c (.d (eI t))), (2, .c (.bp 128 1 0)), (7, .c (.own 3392 0 n 1))], [(128, 1, .box ((eJob j).map .d)), (3392, 1, .arr 2 n row)]⟩
set_option maxRecDepth 100000 in
theorem c_WinOf (j : JobT) (t : Int) (hj : JobOkP j) (ht : 0 ≤ t ∧ t ≤ 60) (n : Nat) (g : Nat → WinT) (hl : Tells zWin eWin (winsL j t) n (fun i => eWin (g i))) : Meets Try.prog 51 [xd (eJob j), .c (.d (eI t))] ⟨.one (.c (.own 2 n fun i => eWin (g i))), [none, none]⟩ := by
  have hsz : 1 ≤ j.size ∧ j.size ≤ 20 := hj.2.2.2.1
  have hst := hj.2.2.2.2.1
  have a := Int.tmod_nonneg j.size ht.1
  have b := Int.tmod_lt_of_pos t (show 0 < j.size by omega)
  have c : t.tmod j.size ≤ t := by
    rw [Int.tmod_eq_emod_of_nonneg ht.1]
    have := Int.emod_add_mul_ediv t j.size
    have := Int.mul_nonneg (show 0 ≤ j.size by omega) (Int.ediv_nonneg ht.1 (show 0 ≤ j.size by omega))
    omega
  refine meets_of (H := [14]) (EX := EXA) ttok mixed Try.func51 rfl (by kernel_rfl) (by decide) ?_
  generalize hA : real = A
  generalize hM : MeetsB Try.prog = M
  cbv
  repeat' first
    | apply And.intro
    | exact True.intro
    | with_reducible rfl
    | exact same_of hA rfl
    | refine br_of hA (fun _ => ?_) (fun _ => ?_)
    | exact imp_of hA id
    | (refine imp_of hA ?_; subst hA; simp only [real, Bool.true_and]; exact id)
    | (refine ind_of hA ?_; decide +kernel)
    | (refine call_ex hA hM (c_JobOkP j) (fun _ _ => ?_); cbv)
    | (refine call_ex hA hM (c_in _ _ _) (fun _ _ => ?_); cbv)
    | exact nz_of hA (show j.size ≠ 0 by omega)
  · exfalso
    rename_i b1 hb1 b2 hb2 hbad
    subst hA; subst hb2
    simp only [real, bifA, bifB, bifC, bifD, beqB, decide_eq_true_eq, decide_eq_false_iff_not, beqI, bneI, beqIF, bneIF, ne_eq, Classical.not_not, Bool.and_eq_true, Bool.or_eq_true, Bool.not_eq_true', Bool.not_eq_false', Bool.and_eq_false_iff, Bool.or_eq_false_iff, Bool.false_eq_true, and_false, false_and, or_false, false_or, and_true, true_and, not_true_eq_false, not_false_eq_true, true_iff, false_iff, Int.ofNat_eq_natCast, Int.toNat_natCast] at hbad
    rcases hbad with h | h
    · have := hb1.2 hj
      rw [h] at this; cases this
    · exact h ht
  · rename_i b1 hb1 b2 hb2 hgood hk1
    have hk : j.kind = 1 := by subst hA; have h : (j.kind == 1) = true := hk1; simpa using h
    have hsp : 1 ≤ j.size := hsz.1
    have hf0 : IntKind.i64.wrap (t - t.tmod j.size) = t - t.tmod j.size := IntWalk.i64_in _ (by omega)
    have hs0 : j.size = j.size := rfl
    have hall : [] ++ slideF j.size j.size t 100 (t - t.tmod j.size) = winsL j t := by unfold winsL winStep winFrom; rw [if_pos hk, if_pos hk]; rfl
    refine loop_of hA (α := { q : Int × Nat × (Nat → List DV) × List WinT // (0 ≤ q.1 ∧ q.1 ≤ 80) ∧ Tells zWin eWin q.2.2.2 q.2.1 q.2.2.1 ∧ q.2.2.2 ++ slideF j.size j.size t 100 q.1 = winsL j t }) (fun y => st_wo j t j.size y.1.1 y.1.2.1 y.1.2.2.1) (fun y => (61 - y.1.1).toNat) ⟨((t - t.tmod j.size), 0, fun _ => [], []), ⟨by simp only; omega, by simp only; omega⟩, ⟨rfl, fun k h => absurd h (Nat.not_lt_zero k)⟩, hall⟩ ?_ ?_
    · refine cov_prom 7 3392 1 2 (fun _ => []) (by cbv) (by cbv) (cov_of ?_ ?_ ?_)
      · cbv; try (subst hA; repeat' first | apply And.intro | exact True.intro | exact congrArg (fun x => DV.v (.int .i64 x)) hf0 | exact congrArg (fun x => DV.v (.int .i64 x)) hs0 | rfl)
      · cbv; try (subst hA; repeat' first | apply And.intro | exact True.intro | rfl | exact (fun _ _ => rfl) | (intro k hk; exact absurd hk (Nat.not_lt_zero k)))
      · cbv
    rintro ⟨⟨f, n1, row, l⟩, hf, hT, hw⟩
    have hf : 0 ≤ f ∧ f ≤ 80 := hf
    have hT : Tells zWin eWin l n1 row := hT
    have hw : l ++ slideF j.size j.size t 100 f = winsL j t := hw
    have hn1 : n1 ≤ 100 := by
      have := congrArg List.length hw
      rw [List.length_append] at this
      have := winsL_len j t
      have := hT.1
      omega
    have hws : IntKind.i64.wrap (f + j.size) = f + j.size := IntWalk.i64_in _ (by omega)
    have hwp : IntKind.i64.wrap (f + j.size) = f + j.size := IntWalk.i64_in _ (by omega)
    cbv
    repeat' first
      | apply And.intro
      | exact True.intro
      | with_reducible rfl
      | exact same_of hA rfl
      | refine br_of hA (fun _ => ?_) (fun _ => ?_)
      | exact imp_of hA id
      | (refine imp_of hA ?_; subst hA; simp only [real, Bool.true_and]; exact id)
      | (refine ind_of hA ?_; decide +kernel)
      | exact room_add hA (by omega) (by decide)
    · rename_i hlt hin
      have hlt : f ≤ t := by subst hA; exact of_decide_eq_true hlt
      have hin : t < f + j.size := by
        subst hA
        have h : t < IntKind.i64.wrap (f + j.size) := of_decide_eq_true hin
        rw [hws] at h; exact h
      have hg := slideF_go (size := j.size) (step := j.size) (t := t) (f := f) hsp hf.1 ht.2 hlt
      rw [if_pos hin] at hg
      refine ⟨⟨(f + j.size, n1 + 1, fun k => if k < n1 then row k else eWin ⟨f, f + j.size⟩, l ++ [⟨f, f + j.size⟩]), ⟨by simp only; omega, by simp only; omega⟩, tells_snoc hT (fun k _ => rfl), by rw [List.append_assoc, ← hw, hg]⟩, by simp only; omega, cov_of ?_ ?_ ?_⟩
      · cbv
        subst hA
        repeat' first | apply And.intro | exact True.intro | exact congrArg (fun x => DV.v (.int .i64 x)) hwp | rfl | (intro k hk; exact push_at rfl _ _ _ _ k hk)
      · cbv
        subst hA
        repeat' first | apply And.intro | exact True.intro | rfl | (intro k hk; exact (push_at rfl _ _ _ _ k hk).trans (congrArg (fun x => if k < n1 then row k else [eI f, eI x]) hws))
      · cbv
    · rename_i hlt hin
      have hlt : f ≤ t := by subst hA; exact of_decide_eq_true hlt
      have hin : ¬ t < f + j.size := by
        subst hA
        have h : ¬ t < IntKind.i64.wrap (f + j.size) := of_decide_eq_false hin
        rw [hws] at h; exact h
      have hg := slideF_go (size := j.size) (step := j.size) (t := t) (f := f) hsp hf.1 ht.2 hlt
      rw [if_neg hin] at hg
      refine ⟨⟨(f + j.size, n1, row, l), ⟨by simp only; omega, by simp only; omega⟩, hT, by rw [← hw, hg]; rfl⟩, by simp only; omega, cov_of ?_ ?_ ?_⟩
      · cbv
        subst hA
        repeat' first | apply And.intro | exact True.intro | exact congrArg (fun x => DV.v (.int .i64 x)) hwp | rfl | (intro k hk; exact push_at rfl _ _ _ _ k hk)
      · cbv; try (subst hA; repeat' first | apply And.intro | exact True.intro | rfl | (intro _ _; rfl))
      · cbv
    · rename_i hlt
      have hlt : ¬ f ≤ t := by subst hA; exact of_decide_eq_false hlt
      rw [slideF_end hlt, List.append_nil] at hw
      subst hw
      have hnn : n1 = n := hT.1.trans hl.1.symm
      subst hnn
      refine stop_of hA ⟨[(7, .c (.own 3392 0 n1 1))], [(3392, 1, .arr 2 n1 fun i => eWin (g i))]⟩ (cov_of ?_ ?_ ?_) ?_
      · cbv
      · cbv
        exact ⟨fun q hq => (hT.2 q hq).trans (hl.2 q hq).symm, trivial⟩
      · cbv
      · cbv
        repeat' first
          | apply And.intro
          | exact True.intro
          | with_reducible rfl
          | exact same_of hA rfl
          | refine br_of hA (fun _ => ?_) (fun _ => ?_)
          | exact imp_of hA id
          | (refine imp_of hA ?_; subst hA; simp only [real, Bool.true_and]; exact id)
          | (refine ind_of hA ?_; decide +kernel)
  · rename_i b1 hb1 b2 hb2 hgood hk1 hk2
    have hk : j.kind = 2 := by subst hA; have h : (j.kind == 2) = true := hk2; simpa using h
    have hsp : 1 ≤ j.step ∧ j.step ≤ 20 := by omega
    have hsp2 := hsp.2
    have hsp : 1 ≤ j.step := hsp.1
    have hf0 : (0 : Int) = 0 := rfl
    have hs0 : j.step = j.step := rfl
    have hall : [] ++ slideF j.size j.step t 100 0 = winsL j t := by unfold winsL winStep winFrom; rw [if_neg (by omega), if_pos hk, if_neg (by omega), if_pos hk]; rfl
    refine loop_of hA (α := { q : Int × Nat × (Nat → List DV) × List WinT // (0 ≤ q.1 ∧ q.1 ≤ 80) ∧ Tells zWin eWin q.2.2.2 q.2.1 q.2.2.1 ∧ q.2.2.2 ++ slideF j.size j.step t 100 q.1 = winsL j t }) (fun y => st_wo j t j.step y.1.1 y.1.2.1 y.1.2.2.1) (fun y => (61 - y.1.1).toNat) ⟨(0, 0, fun _ => [], []), ⟨by simp only; omega, by simp only; omega⟩, ⟨rfl, fun k h => absurd h (Nat.not_lt_zero k)⟩, hall⟩ ?_ ?_
    · refine cov_prom 7 3392 1 2 (fun _ => []) (by cbv) (by cbv) (cov_of ?_ ?_ ?_)
      · cbv; try (subst hA; repeat' first | apply And.intro | exact True.intro | exact congrArg (fun x => DV.v (.int .i64 x)) hf0 | exact congrArg (fun x => DV.v (.int .i64 x)) hs0 | rfl)
      · cbv; try (subst hA; repeat' first | apply And.intro | exact True.intro | rfl | exact (fun _ _ => rfl) | (intro k hk; exact absurd hk (Nat.not_lt_zero k)))
      · cbv
    rintro ⟨⟨f, n1, row, l⟩, hf, hT, hw⟩
    have hf : 0 ≤ f ∧ f ≤ 80 := hf
    have hT : Tells zWin eWin l n1 row := hT
    have hw : l ++ slideF j.size j.step t 100 f = winsL j t := hw
    have hn1 : n1 ≤ 100 := by
      have := congrArg List.length hw
      rw [List.length_append] at this
      have := winsL_len j t
      have := hT.1
      omega
    have hws : IntKind.i64.wrap (f + j.size) = f + j.size := IntWalk.i64_in _ (by omega)
    have hwp : IntKind.i64.wrap (f + j.step) = f + j.step := IntWalk.i64_in _ (by omega)
    cbv
    repeat' first
      | apply And.intro
      | exact True.intro
      | with_reducible rfl
      | exact same_of hA rfl
      | refine br_of hA (fun _ => ?_) (fun _ => ?_)
      | exact imp_of hA id
      | (refine imp_of hA ?_; subst hA; simp only [real, Bool.true_and]; exact id)
      | (refine ind_of hA ?_; decide +kernel)
      | exact room_add hA (by omega) (by decide)
    · rename_i hlt hin
      have hlt : f ≤ t := by subst hA; exact of_decide_eq_true hlt
      have hin : t < f + j.size := by
        subst hA
        have h : t < IntKind.i64.wrap (f + j.size) := of_decide_eq_true hin
        rw [hws] at h; exact h
      have hg := slideF_go (size := j.size) (step := j.step) (t := t) (f := f) hsp hf.1 ht.2 hlt
      rw [if_pos hin] at hg
      refine ⟨⟨(f + j.step, n1 + 1, fun k => if k < n1 then row k else eWin ⟨f, f + j.size⟩, l ++ [⟨f, f + j.size⟩]), ⟨by simp only; omega, by simp only; omega⟩, tells_snoc hT (fun k _ => rfl), by rw [List.append_assoc, ← hw, hg]⟩, by simp only; omega, cov_of ?_ ?_ ?_⟩
      · cbv
        subst hA
        repeat' first | apply And.intro | exact True.intro | exact congrArg (fun x => DV.v (.int .i64 x)) hwp | rfl | (intro k hk; exact push_at rfl _ _ _ _ k hk)
      · cbv
        subst hA
        repeat' first | apply And.intro | exact True.intro | rfl | (intro k hk; exact (push_at rfl _ _ _ _ k hk).trans (congrArg (fun x => if k < n1 then row k else [eI f, eI x]) hws))
      · cbv
    · rename_i hlt hin
      have hlt : f ≤ t := by subst hA; exact of_decide_eq_true hlt
      have hin : ¬ t < f + j.size := by
        subst hA
        have h : ¬ t < IntKind.i64.wrap (f + j.size) := of_decide_eq_false hin
        rw [hws] at h; exact h
      have hg := slideF_go (size := j.size) (step := j.step) (t := t) (f := f) hsp hf.1 ht.2 hlt
      rw [if_neg hin] at hg
      refine ⟨⟨(f + j.step, n1, row, l), ⟨by simp only; omega, by simp only; omega⟩, hT, by rw [← hw, hg]; rfl⟩, by simp only; omega, cov_of ?_ ?_ ?_⟩
      · cbv
        subst hA
        repeat' first | apply And.intro | exact True.intro | exact congrArg (fun x => DV.v (.int .i64 x)) hwp | rfl | (intro k hk; exact push_at rfl _ _ _ _ k hk)
      · cbv; try (subst hA; repeat' first | apply And.intro | exact True.intro | rfl | (intro _ _; rfl))
      · cbv
    · rename_i hlt
      have hlt : ¬ f ≤ t := by subst hA; exact of_decide_eq_false hlt
      rw [slideF_end hlt, List.append_nil] at hw
      subst hw
      have hnn : n1 = n := hT.1.trans hl.1.symm
      subst hnn
      refine stop_of hA ⟨[(7, .c (.own 3392 0 n1 1))], [(3392, 1, .arr 2 n1 fun i => eWin (g i))]⟩ (cov_of ?_ ?_ ?_) ?_
      · cbv
      · cbv
        exact ⟨fun q hq => (hT.2 q hq).trans (hl.2 q hq).symm, trivial⟩
      · cbv
      · cbv
        repeat' first
          | apply And.intro
          | exact True.intro
          | with_reducible rfl
          | exact same_of hA rfl
          | refine br_of hA (fun _ => ?_) (fun _ => ?_)
          | exact imp_of hA id
          | (refine imp_of hA ?_; subst hA; simp only [real, Bool.true_and]; exact id)
          | (refine ind_of hA ?_; decide +kernel)
  · rename_i b1 hb1 b2 hb2 hgood hk1 hk2
    have hk1 : ¬ j.kind = 1 := by subst hA; have h : (j.kind == 1) = false := hk1; simpa using h
    have hk2 : ¬ j.kind = 2 := by subst hA; have h : (j.kind == 2) = false := hk2; simpa using h
    have hsp : (1 : Int) ≤ 1 := Int.le_refl _
    have hf0 : t = t := rfl
    have hs0 : (1 : Int) = 1 := rfl
    have hall : [] ++ slideF j.size 1 t 100 t = winsL j t := by unfold winsL winStep winFrom; rw [if_neg hk1, if_neg hk2, if_neg hk1, if_neg hk2]; rfl
    refine loop_of hA (α := { q : Int × Nat × (Nat → List DV) × List WinT // (0 ≤ q.1 ∧ q.1 ≤ 80) ∧ Tells zWin eWin q.2.2.2 q.2.1 q.2.2.1 ∧ q.2.2.2 ++ slideF j.size 1 t 100 q.1 = winsL j t }) (fun y => st_wo j t 1 y.1.1 y.1.2.1 y.1.2.2.1) (fun y => (61 - y.1.1).toNat) ⟨(t, 0, fun _ => [], []), ⟨by simp only; omega, by simp only; omega⟩, ⟨rfl, fun k h => absurd h (Nat.not_lt_zero k)⟩, hall⟩ ?_ ?_
    · refine cov_prom 7 3392 1 2 (fun _ => []) (by cbv) (by cbv) (cov_of ?_ ?_ ?_)
      · cbv; try (subst hA; repeat' first | apply And.intro | exact True.intro | exact congrArg (fun x => DV.v (.int .i64 x)) hf0 | exact congrArg (fun x => DV.v (.int .i64 x)) hs0 | rfl)
      · cbv; try (subst hA; repeat' first | apply And.intro | exact True.intro | rfl | exact (fun _ _ => rfl) | (intro k hk; exact absurd hk (Nat.not_lt_zero k)))
      · cbv
    rintro ⟨⟨f, n1, row, l⟩, hf, hT, hw⟩
    have hf : 0 ≤ f ∧ f ≤ 80 := hf
    have hT : Tells zWin eWin l n1 row := hT
    have hw : l ++ slideF j.size 1 t 100 f = winsL j t := hw
    have hn1 : n1 ≤ 100 := by
      have := congrArg List.length hw
      rw [List.length_append] at this
      have := winsL_len j t
      have := hT.1
      omega
    have hws : IntKind.i64.wrap (f + j.size) = f + j.size := IntWalk.i64_in _ (by omega)
    have hwp : IntKind.i64.wrap (f + 1) = f + 1 := IntWalk.i64_in _ (by omega)
    cbv
    repeat' first
      | apply And.intro
      | exact True.intro
      | with_reducible rfl
      | exact same_of hA rfl
      | refine br_of hA (fun _ => ?_) (fun _ => ?_)
      | exact imp_of hA id
      | (refine imp_of hA ?_; subst hA; simp only [real, Bool.true_and]; exact id)
      | (refine ind_of hA ?_; decide +kernel)
      | exact room_add hA (by omega) (by decide)
    · rename_i hlt hin
      have hlt : f ≤ t := by subst hA; exact of_decide_eq_true hlt
      have hin : t < f + j.size := by
        subst hA
        have h : t < IntKind.i64.wrap (f + j.size) := of_decide_eq_true hin
        rw [hws] at h; exact h
      have hg := slideF_go (size := j.size) (step := 1) (t := t) (f := f) hsp hf.1 ht.2 hlt
      rw [if_pos hin] at hg
      refine ⟨⟨(f + 1, n1 + 1, fun k => if k < n1 then row k else eWin ⟨f, f + j.size⟩, l ++ [⟨f, f + j.size⟩]), ⟨by simp only; omega, by simp only; omega⟩, tells_snoc hT (fun k _ => rfl), by rw [List.append_assoc, ← hw, hg]⟩, by simp only; omega, cov_of ?_ ?_ ?_⟩
      · cbv
        subst hA
        repeat' first | apply And.intro | exact True.intro | exact congrArg (fun x => DV.v (.int .i64 x)) hwp | rfl | (intro k hk; exact push_at rfl _ _ _ _ k hk)
      · cbv
        subst hA
        repeat' first | apply And.intro | exact True.intro | rfl | (intro k hk; exact (push_at rfl _ _ _ _ k hk).trans (congrArg (fun x => if k < n1 then row k else [eI f, eI x]) hws))
      · cbv
    · rename_i hlt hin
      have hlt : f ≤ t := by subst hA; exact of_decide_eq_true hlt
      have hin : ¬ t < f + j.size := by
        subst hA
        have h : ¬ t < IntKind.i64.wrap (f + j.size) := of_decide_eq_false hin
        rw [hws] at h; exact h
      have hg := slideF_go (size := j.size) (step := 1) (t := t) (f := f) hsp hf.1 ht.2 hlt
      rw [if_neg hin] at hg
      refine ⟨⟨(f + 1, n1, row, l), ⟨by simp only; omega, by simp only; omega⟩, hT, by rw [← hw, hg]; rfl⟩, by simp only; omega, cov_of ?_ ?_ ?_⟩
      · cbv
        subst hA
        repeat' first | apply And.intro | exact True.intro | exact congrArg (fun x => DV.v (.int .i64 x)) hwp | rfl | (intro k hk; exact push_at rfl _ _ _ _ k hk)
      · cbv; try (subst hA; repeat' first | apply And.intro | exact True.intro | rfl | (intro _ _; rfl))
      · cbv
    · rename_i hlt
      have hlt : ¬ f ≤ t := by subst hA; exact of_decide_eq_false hlt
      rw [slideF_end hlt, List.append_nil] at hw
      subst hw
      have hnn : n1 = n := hT.1.trans hl.1.symm
      subst hnn
      refine stop_of hA ⟨[(7, .c (.own 3392 0 n1 1))], [(3392, 1, .arr 2 n1 fun i => eWin (g i))]⟩ (cov_of ?_ ?_ ?_) ?_
      · cbv
      · cbv
        exact ⟨fun q hq => (hT.2 q hq).trans (hl.2 q hq).symm, trivial⟩
      · cbv
      · cbv
        repeat' first
          | apply And.intro
          | exact True.intro
          | with_reducible rfl
          | exact same_of hA rfl
          | refine br_of hA (fun _ => ?_) (fun _ => ?_)
          | exact imp_of hA id
          | (refine imp_of hA ?_; subst hA; simp only [real, Bool.true_and]; exact id)
          | (refine ind_of hA ?_; decide +kernel)
def st_l4 (j : JobT) (t sp f : Int) (n : Nat) (row : Nat → List DV) : St := ⟨[(6, .c (.d (eI f))), (1, .c (.d (eI t))), (2, .c (.bp 128 1 0)), (5, .c (.own 2368 0 n 1))], [(128, 1, .box ((eJob j).map .d)), (2368, 1, .arr 2 n row)]⟩
set_option maxRecDepth 100000 in
theorem m_l4Of1 (j : JobT) (t : Int) (hs : 1 ≤ j.size) (hk : j.kind = 1) (row : Nat → List DV) (hrow : row = real.app 1 (real.rep [eI (IntKind.i64.wrap (t - t.tmod j.size)), eI (IntKind.i64.wrap (IntKind.i64.wrap (t - t.tmod j.size) + j.size))]) (real.rep [eI 0, eI 0])) : Meets Try.prog 142 [xd (eJob j), .c (.d (eI t))] ⟨.one (.c (.own 2 1 row)), [none, none]⟩ := by
  refine meets_of (H := []) (EX := EXA) ttok mixed Try.func142 rfl (by kernel_rfl) (by decide) ?_
  generalize hA : real = A
  generalize hM : MeetsB Try.prog = M
  cbv
  repeat' first
    | apply And.intro
    | exact True.intro
    | with_reducible rfl
    | exact same_of hA rfl
    | refine br_of hA (fun _ => ?_) (fun _ => ?_)
    | exact imp_of hA id
    | (refine imp_of hA ?_; subst hA; simp only [real, Bool.true_and]; exact id)
    | (refine ind_of hA ?_; decide +kernel)
    | exact nz_of hA (show j.size ≠ 0 by omega)
  · subst hA; rw [hrow]; rfl
  · exfalso
    rename_i h1 h2
    subst hA
    have h : (j.kind == 1) = false := h1
    rw [hk] at h
    cases h
  · exfalso
    rename_i h1 h2
    subst hA
    have h : (j.kind == 1) = false := h1
    rw [hk] at h
    cases h
set_option maxRecDepth 100000 in
theorem m_l4Of3 (j : JobT) (t : Int) (hs : 1 ≤ j.size) (hk : j.kind = 3) (row : Nat → List DV) (hrow : row = real.app 1 (real.rep [eI t, eI (IntKind.i64.wrap (t + j.size))]) (real.rep [eI 0, eI 0])) : Meets Try.prog 142 [xd (eJob j), .c (.d (eI t))] ⟨.one (.c (.own 2 1 row)), [none, none]⟩ := by
  refine meets_of (H := []) (EX := EXA) ttok mixed Try.func142 rfl (by kernel_rfl) (by decide) ?_
  generalize hA : real = A
  generalize hM : MeetsB Try.prog = M
  cbv
  repeat' first
    | apply And.intro
    | exact True.intro
    | with_reducible rfl
    | exact same_of hA rfl
    | refine br_of hA (fun _ => ?_) (fun _ => ?_)
    | exact imp_of hA id
    | (refine imp_of hA ?_; subst hA; simp only [real, Bool.true_and]; exact id)
    | (refine ind_of hA ?_; decide +kernel)
    | exact nz_of hA (show j.size ≠ 0 by omega)
  · exfalso
    rename_i h1
    subst hA
    have h : (j.kind == 1) = true := h1
    rw [hk] at h
    cases h
  · subst hA; rw [hrow]; rfl
  · exfalso
    rename_i h1 h2
    subst hA
    have h : (j.kind == 3) = false := h2
    rw [hk] at h
    cases h
set_option maxRecDepth 100000 in
theorem m_l4Of2 (j : JobT) (t : Int) (hsz : 1 ≤ j.size ∧ j.size ≤ 20) (hsp : 1 ≤ j.step) (hsp2 : j.step ≤ 20) (hk : j.kind = 2) (ht : 0 ≤ t ∧ t ≤ 60) (n : Nat) (g : Nat → WinT) (hl : Tells zWin eWin (winsL j t) n (fun i => eWin (g i))) : Meets Try.prog 142 [xd (eJob j), .c (.d (eI t))] ⟨.one (.c (.own 2 n fun i => eWin (g i))), [none, none]⟩ := by
  refine meets_of (H := [12]) (EX := EXA) ttok mixed Try.func142 rfl (by kernel_rfl) (by decide) ?_
  generalize hA : real = A
  generalize hM : MeetsB Try.prog = M
  cbv
  repeat' first
    | apply And.intro
    | exact True.intro
    | with_reducible rfl
    | exact same_of hA rfl
    | refine br_of hA (fun _ => ?_) (fun _ => ?_)
    | exact imp_of hA id
    | (refine imp_of hA ?_; subst hA; simp only [real, Bool.true_and]; exact id)
    | (refine ind_of hA ?_; decide +kernel)
    | exact nz_of hA (show j.size ≠ 0 by omega)
  · exfalso
    rename_i h1
    subst hA
    have h : (j.kind == 1) = true := h1
    rw [hk] at h
    cases h
  · exfalso
    rename_i h1 h2
    subst hA
    have h : (j.kind == 3) = true := h2
    rw [hk] at h
    cases h
  have hf0 : (0 : Int) = 0 := rfl
  have hs0 : j.step = j.step := rfl
  have hall : [] ++ slideF j.size j.step t 100 0 = winsL j t := by unfold winsL winStep winFrom; rw [if_neg (by omega), if_pos hk, if_neg (by omega), if_pos hk]; rfl
  refine loop_of hA (α := { q : Int × Nat × (Nat → List DV) × List WinT // (0 ≤ q.1 ∧ q.1 ≤ 80) ∧ Tells zWin eWin q.2.2.2 q.2.1 q.2.2.1 ∧ q.2.2.2 ++ slideF j.size j.step t 100 q.1 = winsL j t }) (fun y => st_l4 j t j.step y.1.1 y.1.2.1 y.1.2.2.1) (fun y => (61 - y.1.1).toNat) ⟨(0, 0, fun _ => [], []), ⟨by simp only; omega, by simp only; omega⟩, ⟨rfl, fun k h => absurd h (Nat.not_lt_zero k)⟩, hall⟩ ?_ ?_
  · refine cov_of ?_ ?_ ?_
    · cbv; try (subst hA; repeat' first | apply And.intro | exact True.intro | exact congrArg (fun x => DV.v (.int .i64 x)) hf0 | exact congrArg (fun x => DV.v (.int .i64 x)) hs0 | rfl)
    · cbv; try (subst hA; repeat' first | apply And.intro | exact True.intro | rfl | exact (fun _ _ => rfl) | (intro k hk; exact absurd hk (Nat.not_lt_zero k)))
    · cbv
  rintro ⟨⟨f, n1, row, l⟩, hf, hT, hw⟩
  have hf : 0 ≤ f ∧ f ≤ 80 := hf
  have hT : Tells zWin eWin l n1 row := hT
  have hw : l ++ slideF j.size j.step t 100 f = winsL j t := hw
  have hn1 : n1 ≤ 100 := by
    have := congrArg List.length hw
    rw [List.length_append] at this
    have := winsL_len j t
    have := hT.1
    omega
  have hws : IntKind.i64.wrap (f + j.size) = f + j.size := IntWalk.i64_in _ (by omega)
  have hwp : IntKind.i64.wrap (f + j.step) = f + j.step := IntWalk.i64_in _ (by omega)
  cbv
  repeat' first
    | apply And.intro
    | exact True.intro
    | with_reducible rfl
    | exact same_of hA rfl
    | refine br_of hA (fun _ => ?_) (fun _ => ?_)
    | exact imp_of hA id
    | (refine imp_of hA ?_; subst hA; simp only [real, Bool.true_and]; exact id)
    | (refine ind_of hA ?_; decide +kernel)
    | exact room_add hA (by omega) (by decide)
  · rename_i hlt hin
    have hlt : f ≤ t := by subst hA; exact of_decide_eq_true hlt
    have hin : t < f + j.size := by
      subst hA
      have h : t < IntKind.i64.wrap (f + j.size) := of_decide_eq_true hin
      rw [hws] at h; exact h
    have hg := slideF_go (size := j.size) (step := j.step) (t := t) (f := f) hsp hf.1 ht.2 hlt
    rw [if_pos hin] at hg
    refine ⟨⟨(f + j.step, n1 + 1, fun k => if k < n1 then row k else eWin ⟨f, f + j.size⟩, l ++ [⟨f, f + j.size⟩]), ⟨by simp only; omega, by simp only; omega⟩, tells_snoc hT (fun k _ => rfl), by rw [List.append_assoc, ← hw, hg]⟩, by simp only; omega, cov_of ?_ ?_ ?_⟩
    · cbv
      subst hA
      repeat' first | apply And.intro | exact True.intro | exact congrArg (fun x => DV.v (.int .i64 x)) hwp | rfl | (intro k hk; exact push_at rfl _ _ _ _ k hk)
    · cbv
      subst hA
      repeat' first | apply And.intro | exact True.intro | rfl | (intro k hk; exact (push_at rfl _ _ _ _ k hk).trans (congrArg (fun x => if k < n1 then row k else [eI f, eI x]) hws))
    · cbv
  · rename_i hlt hin
    have hlt : f ≤ t := by subst hA; exact of_decide_eq_true hlt
    have hin : ¬ t < f + j.size := by
      subst hA
      have h : ¬ t < IntKind.i64.wrap (f + j.size) := of_decide_eq_false hin
      rw [hws] at h; exact h
    have hg := slideF_go (size := j.size) (step := j.step) (t := t) (f := f) hsp hf.1 ht.2 hlt
    rw [if_neg hin] at hg
    refine ⟨⟨(f + j.step, n1, row, l), ⟨by simp only; omega, by simp only; omega⟩, hT, by rw [← hw, hg]; rfl⟩, by simp only; omega, cov_of ?_ ?_ ?_⟩
    · cbv
      subst hA
      repeat' first | apply And.intro | exact True.intro | exact congrArg (fun x => DV.v (.int .i64 x)) hwp | rfl | (intro k hk; exact push_at rfl _ _ _ _ k hk)
    · cbv; try (subst hA; repeat' first | apply And.intro | exact True.intro | rfl | (intro _ _; rfl))
    · cbv
  · rename_i hlt
    have hlt : ¬ f ≤ t := by subst hA; exact of_decide_eq_false hlt
    rw [slideF_end hlt, List.append_nil] at hw
    subst hw
    have hnn : n1 = n := hT.1.trans hl.1.symm
    subst hnn
    refine stop_of hA ⟨[(5, .c (.own 2368 0 n1 1))], [(2368, 1, .arr 2 n1 fun i => eWin (g i))]⟩ (cov_of ?_ ?_ ?_) ?_
    · cbv
    · cbv
      exact ⟨fun q hq => (hT.2 q hq).trans (hl.2 q hq).symm, trivial⟩
    · cbv
    · cbv
      repeat' first
        | apply And.intro
        | exact True.intro
        | with_reducible rfl
        | exact same_of hA rfl
        | refine br_of hA (fun _ => ?_) (fun _ => ?_)
        | exact imp_of hA id
        | (refine imp_of hA ?_; subst hA; simp only [real, Bool.true_and]; exact id)
        | (refine ind_of hA ?_; decide +kernel)
theorem c_l4Of (j : JobT) (t : Int) (hj : JobOkP j) (ht : 0 ≤ t ∧ t ≤ 60) (n : Nat) (g : Nat → WinT) (hl : Tells zWin eWin (winsL j t) n (fun i => eWin (g i))) : Meets Try.prog 142 [xd (eJob j), .c (.d (eI t))] ⟨.one (.c (.own 2 n fun i => eWin (g i))), [none, none]⟩ := by
  have hsz : 1 ≤ j.size ∧ j.size ≤ 20 := hj.2.2.2.1
  have hst := hj.2.2.2.2.1
  have hkk : 1 ≤ j.kind ∧ j.kind ≤ 3 := hj.2.2.1
  by_cases k2 : j.kind = 2
  · exact m_l4Of2 j t hsz (by omega) (by omega) k2 ht n g hl
  have a := Int.tmod_nonneg j.size ht.1
  have b := Int.tmod_lt_of_pos t (show 0 < j.size by omega)
  by_cases k1 : j.kind = 1
  · have e := winsL_fixed k1 hsz.1 ht.1 ht.2
    rw [e] at hl
    have hn : n = 1 := hl.1
    subst hn
    refine meets_rows (fun i hi => ?_) (m_l4Of1 j t hsz.1 k1 _ rfl)
    have hi0 : i = 0 := Nat.lt_one_iff.1 hi
    subst hi0
    refine Eq.trans ?_ (hl.2 0 hi).symm
    show [eI (IntKind.i64.wrap (t - t.tmod j.size)), eI (IntKind.i64.wrap (IntKind.i64.wrap (t - t.tmod j.size) + j.size))] = [eI (t - t.tmod j.size), eI (t - t.tmod j.size + j.size)]
    rw [IntWalk.i64_in (t - t.tmod j.size) (by omega), IntWalk.i64_in (t - t.tmod j.size + j.size) (by omega)]
  · have k3 : j.kind = 3 := by omega
    have e := winsL_sess k3 hsz.1 ht.1 ht.2
    rw [e] at hl
    have hn : n = 1 := hl.1
    subst hn
    refine meets_rows (fun i hi => ?_) (m_l4Of3 j t hsz.1 k3 _ rfl)
    have hi0 : i = 0 := Nat.lt_one_iff.1 hi
    subst hi0
    refine Eq.trans ?_ (hl.2 0 hi).symm
    show [eI t, eI (IntKind.i64.wrap (t + j.size))] = [eI t, eI (t + j.size)]
    rw [IntWalk.i64_in (t + j.size) (by omega)]
end Go.Rk
/- What a record does, step by step, at rows that rise. -/
namespace Go.Rk
set_option linter.unusedSimpArgs false
set_option linter.unusedVariables false
theorem rise_at {l : List RowT} {n : Nat} {R : Nat → RowT} (hL : Lst zRow l n R) (hs : RiseR l) {a b : Nat} (hab : a < b) (hb : b < n) : RA (R a) (R b) := by
  have := List.pairwise_iff_getElem.1 hs a b (by rw [← hL.1]; omega) (by rw [← hL.1]; exact hb) hab
  have ea := lst_at hL (show a < n by omega)
  have eb := lst_at hL hb
  rw [List.getElem?_eq_getElem (by rw [← hL.1]; omega)] at ea
  rw [List.getElem?_eq_getElem (by rw [← hL.1]; exact hb)] at eb
  simp only [Option.some.injEq] at ea eb
  rwa [ea, eb] at this
theorem pos_ex {l : List RowT} {n : Nat} {R : Nat → RowT} (hL : Lst zRow l n R) (hs : RiseR l) (r : RowT) : ∃ i, i ≤ n ∧ (∀ q, q < i → RA (R q) r) ∧ ∀ q, i ≤ q → q < n → ¬ RA (R q) r := by
  obtain ⟨x, hx⟩ := firstIx_ex n fun q => ¬ RA (R q) r
  cases hx with
  | «at» i hi hp hb =>
    refine ⟨i, Nat.le_of_lt hi, fun q hq => Classical.byContradiction (hb q hq), fun q h1 h2 ha => ?_⟩
    by_cases e : q = i
    · subst e; exact hp ha
    · exact hp (ra_tr (rise_at hL hs (show i < q by omega) h2) ha)
  | none hb => exact ⟨n, Nat.le_refl _, fun q hq => Classical.byContradiction (hb q hq), fun q h1 h2 => by omega⟩
theorem into_found {j : JobT} {m k v : Int} {w : WinT} {l : List RowT} {n i : Nat} {R : Nat → RowT} (hL : Lst zRow l n R) (ho : m < w64 (w.e + j.late)) (hi : i < n) (he : IsR k w (R i)) (hb : ∀ q, q < i → ¬ IsR k w (R q)) :
    intoL j m k v w l = some (rPut (tellS j m (addR (R i) v)).1 l, (tellS j m (addR (R i) v)).2) := by
  unfold intoL
  rw [if_neg (by omega), rfind_some hL hi he hb]; rfl
theorem into_new {j : JobT} {m k v : Int} {w : WinT} {l : List RowT} {n : Nat} {R : Nat → RowT} (hL : Lst zRow l n R) (ho : m < w64 (w.e + j.late)) (hb : ∀ q, q < n → ¬ IsR k w (R q)) :
    intoL j m k v w l = some (rPut (tellS j m (addR (nrow k w) v)).1 l, (tellS j m (addR (nrow k w) v)).2) := by
  unfold intoL
  rw [if_neg (by omega), rfind_none hL hb]; rfl
theorem takeS_some {j : JobT} {m : Int} {x : ItmT} {a : List RowT × List PaneT × List LatT} {w : WinT} {q : List RowT × List PaneT} (h : stepT j m x w a.1 = some q) : takeS j m x a w = (q.1, a.2.1 ++ q.2, a.2.2) := by
  unfold takeS; rw [h]
theorem takeS_none {j : JobT} {m : Int} {x : ItmT} {a : List RowT × List PaneT × List LatT} {w : WinT} (h : stepT j m x w a.1 = none) : takeS j m x a w = (a.1, a.2.1, a.2.2 ++ [⟨x, w⟩]) := by
  unfold takeS; rw [h]
theorem rise_adj {n : Nat} {g : Nat → RowT} (h : ∀ i, 0 < i → i < n → RA (g (i - 1)) (g i)) : RiseR ((List.range n).map g) := by
  have key : ∀ b a, a < b → b < n → RA (g a) (g b) := by
    intro b
    induction b with
    | zero => intro a ha; omega
    | succ b ih =>
      intro a ha hb
      have h1 := h (b + 1) (by omega) hb
      rw [Nat.add_sub_cancel] at h1
      by_cases e : a = b
      · subst e; exact h1
      · exact ra_tr (ih a (by omega) (by omega)) h1
  rw [RiseR, List.pairwise_map]
  refine List.Pairwise.imp_of_mem ?_ (List.pairwise_lt_range (n := n))
  intro a b ha hb hab
  exact key b a hab (List.mem_range.1 hb)
theorem rise_ok {j : JobT} {s : OpStT} (h : OpOkP j s) : RiseR (rowsL s) := rise_adj fun i h0 hi => (h.2.2.2 i hi).2.1 h0
theorem all_ok {j : JobT} {s : OpStT} (h : OpOkP j s) : ∀ r, r ∈ rowsL s → 1 ≤ r.all.n ∧ r.all.n ≤ 1000 := by
  intro r hr
  obtain ⟨i, hi, rfl⟩ := List.mem_map.1 hr
  have h1 := (h.2.2.2 i (List.mem_range.1 hi)).1
  have h2 := h1.2.2.1
  have h3 := h1.2.2.2.2.1
  unfold AggOkP at h2
  omega
theorem sess_gone {j : JobT} {m k v : Int} {w : WinT} {l : List RowT} (h : w64 ((spanL w (oldL k w l)).e + j.late) ≤ m) : sessL j m k v w l = none := by unfold sessL; rw [if_pos h]
theorem sess_one {j : JobT} {m k v : Int} {w : WinT} {l : List RowT} (h : m < w64 ((spanL w (oldL k w l)).e + j.late)) (h1 : oneB (spanL w (oldL k w l)) (oldL k w l) = true) : sessL j m k v w l = intoL j m k v (spanL w (oldL k w l)) l := by
  unfold sessL; rw [if_neg (by omega), if_pos h1]
theorem sess_new {j : JobT} {m k v : Int} {w : WinT} {l : List RowT} {a : AggT} {r0 : RowT} (h : m < w64 ((spanL w (oldL k w l)).e + j.late)) (h1 : oneB (spanL w (oldL k w l)) (oldL k w l) = false) (hl : l.length ≤ 1000) (hb : ∀ r, r ∈ l → 1 ≤ r.all.n ∧ r.all.n ≤ 1000)
    (ha : a = aggAdd (((oldL k w l).map (·.all)).foldl aggB zAgg) v) (hr : r0 = ⟨k, spanL w (oldL k w l), a, a, 0, false⟩) : sessL j m k v w l = some (rPut (tellS j m r0).1 (restL k w l), goneL (oldL k w l) ++ (tellS j m r0).2) := by
  have e : a = ((oldL k w l).map (·.all)).foldl aggB (agg1 v) := by
    rw [ha]
    refine fold_last ?_ fun b hb' => ?_
    · rw [List.length_map]; exact Nat.le_trans (oldL_len _ _ _) hl
    · obtain ⟨r, hr, rfl⟩ := List.mem_map.1 hb'
      exact hb r (List.mem_filter.1 hr).1
  unfold sessL; rw [if_neg (by omega), if_neg (by rw [h1]; simp), hr, ← e]
/-- Where one is touched, and grows not, it is found. -/
theorem one_found {k : Int} {w : WinT} {l : List RowT} {n : Nat} {R : Nat → RowT} (hL : Lst zRow l n R) (h1 : oneB (spanL w (oldL k w l)) (oldL k w l) = true) : ∃ i, i < n ∧ IsR k (spanL w (oldL k w l)) (R i) ∧ ∀ q, q < i → ¬ IsR k (spanL w (oldL k w l)) (R q) := by
  obtain ⟨o, ho⟩ : ∃ o, oldL k w l = [o] := by
    cases h : oldL k w l with
    | nil => rw [h] at h1; cases h1
    | cons a r => cases r with
      | nil => exact ⟨a, rfl⟩
      | cons _ _ => rw [h] at h1; cases h1
  have hm : o ∈ oldL k w l := by rw [ho]; simp
  have hm2 := List.mem_filter.1 hm
  have hk : o.key = k := by have := hm2.2; unfold tchR at this; exact (of_decide_eq_true this).1
  have hw : o.win.s = (spanL w (oldL k w l)).s ∧ o.win.e = (spanL w (oldL k w l)).e := by
    have h2 := h1
    rw [show oneB (spanL w (oldL k w l)) (oldL k w l) = oneB (spanL w (oldL k w l)) [o] by rw [ho]] at h2
    exact of_decide_eq_true h2
  obtain ⟨t, ht, e⟩ := lst_mem hL hm2.1
  obtain ⟨x, hx⟩ := firstIx_ex n fun q => IsR k (spanL w (oldL k w l)) (R q)
  cases hx with
  | «at» i hi hp hb => exact ⟨i, hi, hp, hb⟩
  | none hb => exact absurd (by rw [e]; exact ⟨hk, hw⟩) (hb t ht)
theorem rest_rise {k : Int} {w : WinT} {l : List RowT} (h : RiseR l) : RiseR (restL k w l) := List.Pairwise.filter _ h
theorem ext_one {α : Type} (z : α) (c : Nat) (P : Nat → α) (x : α) : Ext z c P [x] (c + 1) (fun q => if q < c then P q else x) := ext_snoc (ps := []) (ext_nil z c P) fun _ _ => rfl
end Go.Rk
/- A record is taken. -/
namespace Go.Rk
set_option linter.unusedSimpArgs false
set_option linter.unusedVariables false
open Go.Proofs
set_option maxRecDepth 100000
set_option maxHeartbeats 1000000
def EXOT : FuncId → List Nat × Bool := fun f => bif nbeq f 105 then ([99], false) else bif nbeq f 106 then ([99], false) else ([], false)
def st_ot (j : JobT) (mk : Int) (x : ItmT) (nw : Nat) (g : Nat → WinT) (u n : Nat) (R : Nat → RowT) (c : Nat) (P : Nat → PaneT) (d : Nat) (Q : Nat → LatT) : St := ⟨[(36, .c (.d (eI u))), (35, .c (.d (eI nw))), (34, .c (.own 2176 0 nw 1)), (9, .c (.bp 1920 1 0)), (3, .c (.bp 192 1 0)), (5, .c (.bp 320 1 0)), (6, .c (.bp 384 1 0))], [(1920, 1, .box [.d (eI j.srcs), .d (eI j.tsks), .d (eI j.kind), .d (eI j.size), .d (eI j.step), .d (eI j.late), .d (eI j.tell), .d (eB j.piece), .d (eI j.least), .d (eI j.room), .d (eI mk), .own 1793 0 n 1, .own 2001 0 c 1, .own 2002 0 d 1]), (1793, 1, .arr 13 n fun i => eRow (R i)), (2001, 1, .arr 9 c fun i => ePane (P i)), (2002, 1, .arr 7 d fun i => eLat (Q i)), (192, 1, .box [.d (eI j.srcs), .d (eI j.tsks), .d (eI j.kind), .d (eI j.size), .d (eI j.step), .d (eI j.late), .d (eI j.tell), .d (eB j.piece), .d (eI j.least), .d (eI j.room)]), (320, 1, .box ((eItm x).map .d)), (384, 1, .box [.d (eI 0), .d (.v nilS)]), (2176, 1, .arr 2 nw fun i => eWin (g i))]⟩
theorem m_OpTake (j : JobT) (s : OpStT) (x : ItmT) (hok : OpOkP j s) (hrec : RecP x) (h280 : s.rows.n ≤ 280) (k : Nat) (G : Nat → RowT) (hG : Lst zRow (takeL j s.mark x (winsL j x.t) (rowsL s)).1 k G) (cz : Nat) (Pz : Nat → PaneT) (hPz : Lst zPan (takeL j s.mark x (winsL j x.t) (rowsL s)).2.1 cz Pz) (dz : Nat) (Qz : Nat → LatT) (hQz : Lst zLat (takeL j s.mark x (winsL j x.t) (rowsL s)).2.2 dz Qz) :
    Meets Try.prog 48 [xd (eJob j), .agg [.d (eI s.mark), .d (.sl 13 s.rows.n fun i => eRow (s.rows.g i))], xd (eItm x)] ⟨.tup [.agg [.d (eI s.mark), .own 13 k fun i => eRow (G i)], .c (.own 9 cz fun i => ePane (Pz i)), .c (.own 7 dz fun i => eLat (Qz i))], [none, none, none]⟩ := by
  obtain ⟨b1, hb1, cO⟩ := c_OpOk j s
  obtain ⟨b2, hb2, cR⟩ := c_isRecP x
  have hb1' : b1 = true := hb1.2 hok
  have hb2' : b2 = true := hb2.2 hrec
  subst hb1' hb2'
  have hrise := rise_ok hok
  have hall := all_ok hok
  have hjob := hok.1
  have hx : 0 ≤ x.t ∧ x.t ≤ 60 := by have h1 := hrec.1; have h2 := hrec.2; unfold ItmOkP at h2; omega
  obtain ⟨ws, hws⟩ : ∃ ws, ws = winsL j x.t := ⟨_, rfl⟩
  obtain ⟨L0, hL0⟩ : ∃ L0, L0 = rowsL s := ⟨_, rfl⟩
  obtain ⟨mk, n0, g0, hnL⟩ := s
  have h280 : n0 ≤ 280 := h280
  have hl0 : Lst zRow L0 n0 g0 := by rw [hL0]; exact lst_of zRow n0 g0
  rw [← hL0] at hrise hall hG hPz hQz
  rw [← hws] at hG hPz hQz
  obtain ⟨b3, hb3, cC⟩ := c_crowded mk n0 (by omega) g0
  have hb3' : b3 = false := by
    cases b3 with
    | false => rfl
    | true => exact absurd (hb3.1 rfl) (by omega)
  subst hb3'
  obtain ⟨nw, g, hg⟩ := lst_ex zWin ws
  have hnw : nw ≤ 100 := by rw [hg.1, hws]; exact winsL_len _ _
  have hnw2 : nw ≤ maxLen := Nat.le_trans hnw (by decide)
  have cW := c_WinOf j x.t hjob hx nw g (by rw [← hws]; exact lst_tells eWin hg)
  have hk3 : j.kind = 3 → nw = 1 ∧ (g 0).s < (g 0).e := fun h3 => by
    have e := winsL_sess h3 hjob.2.2.2.1.1 hx.1 hx.2
    rw [← hws] at e
    rw [e] at hg
    have e1 : nw = 1 := hg.1
    refine ⟨e1, ?_⟩
    have e2 : g 0 = ⟨x.t, x.t + j.size⟩ := hg.2 0 (by omega)
    rw [e2]
    have := hjob.2.2.2.1.1
    show x.t < x.t + j.size
    omega
  have cCp := c_copied mk n0 (by omega) g0
  refine meets_of (H := [11]) (EX := EXOT) ttok mixed Try.func48 rfl (by kernel_rfl) (by decide) ?_
  generalize hA : real = A
  generalize hM : MeetsB Try.prog = M
  cbv
  repeat' first
    | apply And.intro
    | exact True.intro
    | with_reducible rfl
    | exact same_of hA rfl
    | refine br_of hA (fun _ => ?_) (fun _ => ?_)
    | exact imp_of hA id
    | (refine imp_of hA ?_; subst hA; simp only [real, Bool.true_and]; exact id)
    | (refine ind_of hA ?_; decide +kernel)
    | (refine call_of hA hM _ cO ?_; cbv)
    | (refine call_of hA hM _ cR ?_; cbv)
    | (refine call_of hA hM _ cC ?_; cbv)
    | (refine call_of2 hA hM _ cCp (by subst hA; rfl) ?_; cbv)
    | (refine call_of hA hM _ cW ?_; cbv)
    | (exfalso; rename_i h; subst hA; simp [real] at h; done)
  refine loop_of hA (α := { y : Nat × (Nat × (Nat → RowT)) × (Nat × (Nat → PaneT)) × (Nat × (Nat → LatT)) // y.1 ≤ nw ∧ Lst zRow (takeL j mk x (ws.take y.1) L0).1 y.2.1.1 y.2.1.2 ∧ Lst zPan (takeL j mk x (ws.take y.1) L0).2.1 y.2.2.1.1 y.2.2.1.2 ∧ Lst zLat (takeL j mk x (ws.take y.1) L0).2.2 y.2.2.2.1 y.2.2.2.2 }) (fun y => st_ot j mk x nw g y.1.1 y.1.2.1.1 y.1.2.1.2 y.1.2.2.1.1 y.1.2.2.1.2 y.1.2.2.2.1 y.1.2.2.2.2) (fun y => nw - y.1.1) ⟨(0, (n0, g0), (0, fun _ => zPan), (0, fun _ => zLat)), Nat.zero_le _, hl0, ⟨rfl, fun k h => absurd h (Nat.not_lt_zero k)⟩, ⟨rfl, fun k h => absurd h (Nat.not_lt_zero k)⟩⟩ ?_ ?_
  · refine cov_promC 1920 2001 1 9 (fun i => ePane zPan) [.d (eI j.srcs), .d (eI j.tsks), .d (eI j.kind), .d (eI j.size), .d (eI j.step), .d (eI j.late), .d (eI j.tell), .d (eB j.piece), .d (eI j.least), .d (eI j.room), .d (eI mk), .own 1793 0 n0 1] [.d (.v nilS)] rfl rfl rfl (cov_promC 1920 2002 1 7 (fun i => eLat zLat) [.d (eI j.srcs), .d (eI j.tsks), .d (eI j.kind), .d (eI j.size), .d (eI j.step), .d (eI j.late), .d (eI j.tell), .d (eB j.piece), .d (eI j.least), .d (eI j.room), .d (eI mk), .own 1793 0 n0 1, .own 2001 0 0 1] [] rfl rfl rfl (cov_of ?_ ?_ ?_))
    · subst hA; (repeat' first | exact True.intro | exact rfl | apply And.intro)
    · subst hA; (repeat' first | exact True.intro | exact rfl | apply And.intro | (intro _ _; first | rfl | trivial) | (intro q hq; exact absurd hq (Nat.not_lt_zero q)))
    · subst hA; (repeat' first | exact True.intro | exact rfl | apply And.intro | exact .inl rfl | exact .inr (le_of_nble rfl))
  rintro ⟨⟨u, ⟨n, R⟩, ⟨c, P⟩, ⟨d, Q⟩⟩, hu, hR, hP, hQ⟩
  have hu : u ≤ nw := hu
  obtain ⟨T, hT⟩ : ∃ T, T = takeL j mk x (ws.take u) L0 := ⟨_, rfl⟩
  replace hR : Lst zRow T.1 n R := by rw [hT]; exact hR
  replace hP : Lst zPan T.2.1 c P := by rw [hT]; exact hP
  replace hQ : Lst zLat T.2.2 d Q := by rw [hT]; exact hQ
  have hTr : RiseR T.1 := by rw [hT]; exact rise_takeL hrise _
  have hlen := takeL_len (j := j) (m := mk) (x := x) (l := L0) (ws.take u)
  have hul : (ws.take u).length = u := by rw [List.length_take, ← hg.1]; omega
  rw [← hT, hul, ← hl0.1, ← hR.1, ← hP.1, ← hQ.1] at hlen
  obtain ⟨hn1, hc1, hd1⟩ := hlen
  have hc2 : c ≤ 100000 := by
    have h1 : u * (n0 + u + 1) ≤ 100 * 400 := Nat.mul_le_mul (by omega) (by omega)
    omega
  have hcx : c ≤ 1080000 := by omega
  have hdx : d ≤ 1080000 := by omega
  have hnext : ∀ (hlt : u < nw) (T' : List RowT × List PaneT × List LatT), takeS j mk x T (g u) = T' → takeL j mk x (ws.take (u + 1)) L0 = T' := fun hlt T' h => by rw [lst_take hg hlt, takeL_snoc, ← hT]; exact h
  have eq0 : A.add 0 (A.nat (Int.ofNat u)) = u := by subst hA; exact Nat.zero_add u
  cbv
  repeat' first
    | apply And.intro
    | exact True.intro
    | with_reducible rfl
    | exact same_of hA rfl
    | refine br_of hA (fun _ => ?_) (fun _ => ?_)
    | exact imp_of hA id
    | (refine imp_of hA ?_; subst hA; simp only [real, Bool.true_and]; exact id)
    | (refine ind_of hA ?_; decide +kernel)
    | (refine inb_lt hA ?_; first | exact lt2_of hA (by assumption) | exact lt_of hA (by assumption))
  · rename_i hlt hkd
    have hlt' : u < nw := lt2_of hA hlt
    have hkd : j.kind = 3 := eq_of hA hkd
    obtain ⟨hw1, hwg⟩ := hk3 hkd
    have hu0 : u = 0 := by omega
    have hT0 : T = (L0, [], []) := by rw [hT, hu0]; rfl
    have hallT : ∀ r, r ∈ T.1 → 1 ≤ r.all.n ∧ r.all.n ≤ 1000 := by rw [hT0]; exact hall
    have hn3 : n ≤ 300 := by omega
    have hstep : ∀ q, sessL j mk x.key x.v (g u) T.1 = q → stepT j mk x (g u) T.1 = q := fun q h => by unfold stepT; rw [if_pos hkd]; exact h
    obtain ⟨sp, hsp⟩ : ∃ sp, sp = spanL (g u) (oldL x.key (g u) T.1) := ⟨_, rfl⟩
    by_cases hov : w64 (sp.e + j.late) ≤ mk
    · have hs := takeS_none (hstep _ (sess_gone (by rw [← hsp]; exact hov)))
      have kW := fun q (e : q = u) => k_sg j mk n R c hcx P d hdx Q x (g q) hn3 (by omega) T.1 hR sp (by rw [e]; exact hsp) hov (fun z => if z < d then Q z else ⟨x, g u⟩) (fun z _ => by rw [e])
      refine inl_call hA _ _ _ ⟨fun _ => (by rw [← hM]; exact kW _ eq0), (by cbv; repeat' first | apply And.intro | exact True.intro | rfl | exact .inr trivial | exact .inl trivial | exact .inl (Nat.le_refl _)), ?_⟩
      cbv
      repeat' first
        | apply And.intro
        | exact True.intro
        | with_reducible rfl
        | exact same_of hA rfl
        | refine br_of hA (fun _ => ?_) (fun _ => ?_)
        | exact imp_of hA id
        | (refine imp_of hA ?_; subst hA; simp only [real, Bool.true_and]; exact id)
        | (refine ind_of hA ?_; decide +kernel)
      refine ⟨⟨(u + 1, (n, R), (c, P), (d + 1, fun z => if z < d then Q z else ⟨x, g u⟩)), hlt', ?_, ?_, ?_⟩, by dsimp only; omega, cov_of ?_ ?_ ?_⟩
      · dsimp only; rw [hnext hlt' _ hs]; exact hR
      · dsimp only; rw [hnext hlt' _ hs]; exact hP
      · dsimp only; rw [hnext hlt' _ hs]; exact lst_snoc hQ
      · (subst hA; (repeat' first | exact True.intro | exact rfl | apply And.intro | exact congrArg (fun x => DV.v (.int .i64 x)) (up64 hlt' hnw2)))
      · (subst hA; (repeat' first | exact True.intro | exact rfl | apply And.intro | (intro _ _; first | rfl | trivial)))
      · (subst hA; (repeat' first | exact True.intro | exact rfl | apply And.intro | exact .inl rfl | exact .inr (le_of_nble rfl)))
    · have hov : mk < w64 (sp.e + j.late) := by omega
      by_cases hone : oneB sp (oldL x.key (g u) T.1) = true
      · obtain ⟨i, hi, he, hb⟩ := one_found hR (by rw [← hsp]; exact hone)
        rw [← hsp] at he
        have hb : ∀ q, q < i → ¬ IsR x.key sp (R q) := by rw [hsp]; exact hb
        obtain ⟨t, ht⟩ : ∃ t, t = tellS j mk (addR (R i) x.v) := ⟨_, rfl⟩
        have hin := into_found (k := x.key) (v := x.v) hR hov hi he hb
        rw [← ht] at hin
        have hs := takeS_some (hstep _ ((sess_one (by rw [← hsp]; exact hov) (by rw [← hsp]; exact hone)).trans (by rw [← hsp]; exact hin)))
        obtain ⟨c', P', hE⟩ := ext_ex zPan c P t.2
        have kW := fun q (e : q = u) => k_so j mk n R c hcx P d hdx Q x (g q) hn3 (by omega) T.1 hR sp (by rw [e]; exact hsp) hov (by rw [e]; exact hone) i hi he hb t ht (fun q => if q = i then t.1 else R q) (fun q _ => rfl) c' P' hE
        refine inl_call hA _ _ _ ⟨fun _ => (by rw [← hM]; exact kW _ eq0), (by cbv; repeat' first | apply And.intro | exact True.intro | rfl | exact .inr trivial | exact .inl trivial | exact .inl (Nat.le_refl _)), ?_⟩
        cbv
        repeat' first
          | apply And.intro
          | exact True.intro
          | with_reducible rfl
          | exact same_of hA rfl
          | refine br_of hA (fun _ => ?_) (fun _ => ?_)
          | exact imp_of hA id
          | (refine imp_of hA ?_; subst hA; simp only [real, Bool.true_and]; exact id)
          | (refine ind_of hA ?_; decide +kernel)
        refine ⟨⟨(u + 1, (n, fun q => if q = i then t.1 else R q), (c', P'), (d, Q)), hlt', ?_, ?_, ?_⟩, by dsimp only; omega, cov_of ?_ ?_ ?_⟩
        · dsimp only; rw [hnext hlt' _ hs]; exact rput_found hR hTr hi he (by rw [ht]; exact tellS_is (addR_is he)) (fun q _ => rfl)
        · dsimp only; rw [hnext hlt' _ hs]; exact ext_lst hP hE
        · dsimp only; rw [hnext hlt' _ hs]; exact hQ
        · (subst hA; (repeat' first | exact True.intro | exact rfl | apply And.intro | exact congrArg (fun x => DV.v (.int .i64 x)) (up64 hlt' hnw2)))
        · (subst hA; (repeat' first | exact True.intro | exact rfl | apply And.intro | (intro _ _; first | rfl | trivial)))
        · (subst hA; (repeat' first | exact True.intro | exact rfl | apply And.intro | exact .inl rfl | exact .inr (le_of_nble rfl)))
      · have hone : oneB sp (oldL x.key (g u) T.1) = false := by
          cases h : oneB sp (oldL x.key (g u) T.1) with
          | true => exact absurd h hone
          | false => rfl
        obtain ⟨a, ha⟩ : ∃ a, a = aggAdd (((oldL x.key (g u) T.1).map (·.all)).foldl aggB zAgg) x.v := ⟨_, rfl⟩
        obtain ⟨r0, hr0⟩ : ∃ r0 : RowT, r0 = ⟨x.key, sp, a, a, 0, false⟩ := ⟨_, rfl⟩
        obtain ⟨kr, Rr, hr⟩ := lst_ex zRow (restL x.key (g u) T.1)
        obtain ⟨cg, Pg, hPg⟩ := ext_ex zPan c P (goneL (oldL x.key (g u) T.1))
        obtain ⟨i, hi, h1, h2⟩ := pos_ex hr (rest_rise hTr) r0
        have hr0is : IsR x.key sp r0 := by rw [hr0]; exact ⟨rfl, rfl, rfl⟩
        have hsn := sess_new (j := j) (m := mk) (l := T.1) (r0 := r0) (by rw [← hsp]; exact hov) (by rw [← hsp]; exact hone) (show T.1.length ≤ 1000 by rw [← hR.1]; omega) hallT ha (by rw [← hsp]; exact hr0)
        have hs := takeS_some (hstep _ hsn)
        have hno : ∀ q, q < kr → ¬ IsR x.key sp (Rr q) := fun q hq => by
          rw [hsp]
          refine rest_no (by rw [hu0]; exact hwg) ?_
          have := lst_at hr hq
          exact List.mem_of_getElem? this
        obtain ⟨vp, hvp⟩ : ∃ vp, vp = (goneL (oldL x.key (g u) T.1)).length + 2 := ⟨_, rfl⟩
        have hvp2 : 2 ≤ vp := by omega
        by_cases hm : mk < sp.e
        · have htl : tellS j mk r0 = (r0, []) := by
            unfold tellS; rw [if_pos (show mk < r0.win.e by rw [hr0]; exact hm)]
          rw [htl] at hs
          obtain ⟨R', hR'⟩ : ∃ R' : Nat → RowT, R' = fun q => if q < i then Rr q else if q = i then r0 else Rr (q - 1) := ⟨_, rfl⟩
          have kW := fun q (e : q = u) => k_sn j mk n R c hcx P d hdx Q x (g q) hn3 (by omega) T.1 hR sp (by rw [e]; exact hsp) hov (by rw [e]; exact hone) a (by rw [e]; exact ha) kr Rr (by rw [e]; exact hr) cg Pg (by rw [e]; exact hPg) vp (by rw [e]; exact hvp) r0 hr0 i hi h1 h2 hm R' (fun q _ => by rw [hR'])
          refine inl_call hA _ _ _ ⟨fun _ => (by rw [← hM]; exact kW _ eq0), (by cbv; repeat' first | apply And.intro | exact True.intro | rfl | exact .inr trivial | exact .inl trivial | exact .inl (Nat.le_refl _) | exact .inl hvp2), ?_⟩
          cbv
          repeat' first
            | apply And.intro
            | exact True.intro
            | with_reducible rfl
            | exact same_of hA rfl
            | refine br_of hA (fun _ => ?_) (fun _ => ?_)
            | exact imp_of hA id
            | (refine imp_of hA ?_; subst hA; simp only [real, Bool.true_and]; exact id)
            | (refine ind_of hA ?_; decide +kernel)
          refine ⟨⟨(u + 1, (kr + 1, R'), (cg, Pg), (d, Q)), hlt', ?_, ?_, ?_⟩, by dsimp only; omega, cov_relB 1920 2664 1793 3 13 (fun i => eRow (R' i)) [.d (eI j.srcs), .d (eI j.tsks), .d (eI j.kind), .d (eI j.size), .d (eI j.step), .d (eI j.late), .d (eI j.tell), .d (eB j.piece), .d (eI j.least), .d (eI j.room), .d (eI mk)] [.own 2001 0 cg vp, .own 2002 0 d 1] rfl rfl rfl rfl rfl rfl (cov_of ?_ ?_ ?_)⟩
          · dsimp only; rw [hnext hlt' _ hs]; exact rput_new (r := r0) hr hi (fun q hq => ra_r hr0is hr0is (h1 q hq)) (fun q a b hra => h2 q a b (ra_r hr0is hr0is hra)) (fun q hq => by rw [(isR_eq hr0is).1, (isR_eq hr0is).2]; exact hno q hq) (fun q _ => by rw [hR'])
          · dsimp only; rw [hnext hlt' _ hs]; exact ext_lst hP (by rw [List.append_nil]; exact hPg)
          · dsimp only; rw [hnext hlt' _ hs]; exact hQ
          · (subst hA; (repeat' first | exact True.intro | exact rfl | apply And.intro | exact congrArg (fun x => DV.v (.int .i64 x)) (up64 hlt' hnw2)))
          · (subst hA; (repeat' first | exact True.intro | exact rfl | apply And.intro | (intro _ _; first | rfl | trivial)))
          · (subst hA; (repeat' first | exact True.intro | exact rfl | apply And.intro | exact .inl rfl | exact .inr (le_of_nble rfl)))
        · have htl : tellS j mk r0 = (toldR r0, [paneP j.piece r0 1]) := by
            unfold tellS; rw [if_neg (show ¬ mk < r0.win.e by rw [hr0]; exact hm), show kindT r0 = 1 from (by rw [hr0]; rfl)]
          rw [htl] at hs
          obtain ⟨R', hR'⟩ : ∃ R' : Nat → RowT, R' = fun q => if q < i then Rr q else if q = i then toldR r0 else Rr (q - 1) := ⟨_, rfl⟩
          have kW := fun q (e : q = u) => k_st j mk n R c hcx P d hdx Q x (g q) hn3 (by omega) T.1 hR sp (by rw [e]; exact hsp) hov (by rw [e]; exact hone) a (by rw [e]; exact ha) kr Rr (by rw [e]; exact hr) cg Pg (by rw [e]; exact hPg) vp (by rw [e]; exact hvp) r0 hr0 i hi h1 h2 hm R' (fun q _ => by rw [hR']) (fun q => if q < cg then Pg q else paneP j.piece r0 1) (fun q _ => rfl)
          refine inl_call hA _ _ _ ⟨fun _ => (by rw [← hM]; exact kW _ eq0), (by cbv; repeat' first | apply And.intro | exact True.intro | rfl | exact .inr trivial | exact .inl trivial | exact .inl (Nat.le_refl _) | exact .inl hvp2), ?_⟩
          cbv
          repeat' first
            | apply And.intro
            | exact True.intro
            | with_reducible rfl
            | exact same_of hA rfl
            | refine br_of hA (fun _ => ?_) (fun _ => ?_)
            | exact imp_of hA id
            | (refine imp_of hA ?_; subst hA; simp only [real, Bool.true_and]; exact id)
            | (refine ind_of hA ?_; decide +kernel)
          refine ⟨⟨(u + 1, (kr + 1, R'), (cg + 1, fun q => if q < cg then Pg q else paneP j.piece r0 1), (d, Q)), hlt', ?_, ?_, ?_⟩, by dsimp only; omega, cov_relB 1920 2664 1793 3 13 (fun i => eRow (R' i)) [.d (eI j.srcs), .d (eI j.tsks), .d (eI j.kind), .d (eI j.size), .d (eI j.step), .d (eI j.late), .d (eI j.tell), .d (eB j.piece), .d (eI j.least), .d (eI j.room), .d (eI mk)] [.own 2001 0 (cg + 1) vp, .own 2002 0 d 1] rfl rfl rfl rfl rfl rfl (cov_of ?_ ?_ ?_)⟩
          · dsimp only; rw [hnext hlt' _ hs]; exact rput_new (r := toldR r0) hr hi (fun q hq => ra_r hr0is (toldR_is hr0is) (h1 q hq)) (fun q a b hra => h2 q a b (ra_r (toldR_is hr0is) hr0is hra)) (fun q hq => by rw [(isR_eq (toldR_is hr0is)).1, (isR_eq (toldR_is hr0is)).2]; exact hno q hq) (fun q _ => by rw [hR'])
          · dsimp only; rw [hnext hlt' _ hs]; exact ext_lst hP (ext_app hPg (ext_one zPan cg Pg _))
          · dsimp only; rw [hnext hlt' _ hs]; exact hQ
          · (subst hA; (repeat' first | exact True.intro | exact rfl | apply And.intro | exact congrArg (fun x => DV.v (.int .i64 x)) (up64 hlt' hnw2)))
          · (subst hA; (repeat' first | exact True.intro | exact rfl | apply And.intro | (intro _ _; first | rfl | trivial)))
          · (subst hA; (repeat' first | exact True.intro | exact rfl | apply And.intro | exact .inl rfl | exact .inr (le_of_nble rfl)))
  · rename_i hlt hkd
    have hlt' : u < nw := lt2_of hA hlt
    have hkd : ¬ j.kind = 3 := ne_of hA hkd
    have hstep : ∀ q, intoL j mk x.key x.v (g u) T.1 = q → stepT j mk x (g u) T.1 = q := fun q h => by unfold stepT; rw [if_neg hkd]; exact h
    by_cases hov : w64 ((g u).e + j.late) ≤ mk
    · have hs := takeS_none (hstep _ (if_pos hov))
      have kW := fun q (e : q = u) => k_wgone j mk n R c hcx P d hdx Q x (g q) (by rw [e]; exact hov) (fun z => if z < d then Q z else ⟨x, g u⟩) (fun z _ => by rw [e])
      refine inl_call hA _ _ _ ⟨fun _ => (by rw [← hM]; exact kW _ eq0), (by cbv; repeat' first | apply And.intro | exact True.intro | rfl | exact .inr trivial | exact .inl trivial | exact .inl (Nat.le_refl _)), ?_⟩
      cbv
      repeat' first
        | apply And.intro
        | exact True.intro
        | with_reducible rfl
        | exact same_of hA rfl
        | refine br_of hA (fun _ => ?_) (fun _ => ?_)
        | exact imp_of hA id
        | (refine imp_of hA ?_; subst hA; simp only [real, Bool.true_and]; exact id)
        | (refine ind_of hA ?_; decide +kernel)
      refine ⟨⟨(u + 1, (n, R), (c, P), (d + 1, fun z => if z < d then Q z else ⟨x, g u⟩)), hlt', ?_, ?_, ?_⟩, by dsimp only; omega, cov_of ?_ ?_ ?_⟩
      · dsimp only; rw [hnext hlt' _ hs]; exact hR
      · dsimp only; rw [hnext hlt' _ hs]; exact hP
      · dsimp only; rw [hnext hlt' _ hs]; exact lst_snoc hQ
      · (subst hA; (repeat' first | exact True.intro | exact rfl | apply And.intro | exact congrArg (fun x => DV.v (.int .i64 x)) (up64 hlt' hnw2)))
      · (subst hA; (repeat' first | exact True.intro | exact rfl | apply And.intro | (intro _ _; first | rfl | trivial)))
      · (subst hA; (repeat' first | exact True.intro | exact rfl | apply And.intro | exact .inl rfl | exact .inr (le_of_nble rfl)))
    · have hov : mk < w64 ((g u).e + j.late) := by omega
      obtain ⟨z, hz⟩ := firstIx_ex n fun q => IsR x.key (g u) (R q)
      cases hz with
      | «at» i hi he hb =>
        obtain ⟨t, ht⟩ : ∃ t, t = tellS j mk (addR (R i) x.v) := ⟨_, rfl⟩
        have hin := into_found (k := x.key) (v := x.v) hR hov hi he hb
        rw [← ht] at hin
        have hs := takeS_some (hstep _ hin)
        obtain ⟨c', P', hE⟩ := ext_ex zPan c P t.2
        have kW := fun q (e : q = u) => k_wfound j mk n R c hcx P d hdx Q x (g q) (by omega) (by rw [e]; exact hov) i hi (by rw [e]; exact he) (by rw [e]; exact hb) t ht (fun q => if q = i then t.1 else R q) (fun q _ => rfl) c' hE.1 P' hE.2
        refine inl_call hA _ _ _ ⟨fun _ => (by rw [← hM]; exact kW _ eq0), (by cbv; repeat' first | apply And.intro | exact True.intro | rfl | exact .inr trivial | exact .inl trivial | exact .inl (Nat.le_refl _)), ?_⟩
        cbv
        repeat' first
          | apply And.intro
          | exact True.intro
          | with_reducible rfl
          | exact same_of hA rfl
          | refine br_of hA (fun _ => ?_) (fun _ => ?_)
          | exact imp_of hA id
          | (refine imp_of hA ?_; subst hA; simp only [real, Bool.true_and]; exact id)
          | (refine ind_of hA ?_; decide +kernel)
        refine ⟨⟨(u + 1, (n, fun q => if q = i then t.1 else R q), (c', P'), (d, Q)), hlt', ?_, ?_, ?_⟩, by dsimp only; omega, cov_of ?_ ?_ ?_⟩
        · dsimp only; rw [hnext hlt' _ hs]; exact rput_found hR hTr hi he (by rw [ht]; exact tellS_is (addR_is he)) (fun q _ => rfl)
        · dsimp only; rw [hnext hlt' _ hs]; exact ext_lst hP hE
        · dsimp only; rw [hnext hlt' _ hs]; exact hQ
        · (subst hA; (repeat' first | exact True.intro | exact rfl | apply And.intro | exact congrArg (fun x => DV.v (.int .i64 x)) (up64 hlt' hnw2)))
        · (subst hA; (repeat' first | exact True.intro | exact rfl | apply And.intro | (intro _ _; first | rfl | trivial)))
        · (subst hA; (repeat' first | exact True.intro | exact rfl | apply And.intro | exact .inl rfl | exact .inr (le_of_nble rfl)))
      | none hb =>
        obtain ⟨t, ht⟩ : ∃ t, t = tellS j mk (addR (nrow x.key (g u)) x.v) := ⟨_, rfl⟩
        have hin := into_new (k := x.key) (v := x.v) hR hov hb
        rw [← ht] at hin
        have hs := takeS_some (hstep _ hin)
        obtain ⟨c', P', hE⟩ := ext_ex zPan c P t.2
        obtain ⟨i, hi, h1, h2⟩ := pos_ex hR hTr (nrow x.key (g u))
        have hti : IsR x.key (g u) t.1 := by rw [ht]; exact tellS_is (addR_is (nrow_is _ _))
        obtain ⟨R', hR'⟩ : ∃ R' : Nat → RowT, R' = fun q => if q < i then R q else if q = i then t.1 else R (q - 1) := ⟨_, rfl⟩
        have kW := fun q (e : q = u) => k_wnew j mk n R c hcx P d hdx Q x (g q) (by omega) (by rw [e]; exact hov) (by rw [e]; exact hb) i hi (by rw [e]; exact h1) (by rw [e]; exact h2) t (by rw [e]; exact ht) R' (fun q _ => by rw [hR']) c' hE.1 P' hE.2
        refine inl_call hA _ _ _ ⟨fun _ => (by rw [← hM]; exact kW _ eq0), (by cbv; repeat' first | apply And.intro | exact True.intro | rfl | exact .inr trivial | exact .inl trivial | exact .inl (Nat.le_refl _)), ?_⟩
        cbv
        repeat' first
          | apply And.intro
          | exact True.intro
          | with_reducible rfl
          | exact same_of hA rfl
          | refine br_of hA (fun _ => ?_) (fun _ => ?_)
          | exact imp_of hA id
          | (refine imp_of hA ?_; subst hA; simp only [real, Bool.true_and]; exact id)
          | (refine ind_of hA ?_; decide +kernel)
        refine ⟨⟨(u + 1, (n + 1, R'), (c', P'), (d, Q)), hlt', ?_, ?_, ?_⟩, by dsimp only; omega, cov_relB 1920 2664 1793 3 13 (fun i => eRow (R' i)) [.d (eI j.srcs), .d (eI j.tsks), .d (eI j.kind), .d (eI j.size), .d (eI j.step), .d (eI j.late), .d (eI j.tell), .d (eB j.piece), .d (eI j.least), .d (eI j.room), .d (eI mk)] [.own 2001 0 c' 2, .own 2002 0 d 1] rfl rfl rfl rfl rfl rfl (cov_of ?_ ?_ ?_)⟩
        · dsimp only; rw [hnext hlt' _ hs]; exact rput_new (r := t.1) hR hi (fun q hq => ra_r (nrow_is _ _) hti (h1 q hq)) (fun q a b hra => h2 q a b (ra_r hti (nrow_is _ _) hra)) (fun q hq => by rw [(isR_eq hti).1, (isR_eq hti).2]; exact hb q hq) (fun q _ => by rw [hR'])
        · dsimp only; rw [hnext hlt' _ hs]; exact ext_lst hP hE
        · dsimp only; rw [hnext hlt' _ hs]; exact hQ
        · (subst hA; (repeat' first | exact True.intro | exact rfl | apply And.intro | exact congrArg (fun x => DV.v (.int .i64 x)) (up64 hlt' hnw2)))
        · (subst hA; (repeat' first | exact True.intro | exact rfl | apply And.intro | (intro _ _; first | rfl | trivial)))
        · (subst hA; (repeat' first | exact True.intro | exact rfl | apply And.intro | exact .inl rfl | exact .inr (le_of_nble rfl)))
  rename_i hge
  have hun : nw = u := by have := ge2_of hA hge; omega
  have hR9 : Lst zRow T.1 n R := hR
  have hP9 : Lst zPan T.2.1 c P := hP
  have hQ9 : Lst zLat T.2.2 d Q := hQ
  subst hun
  rw [lst_all hg] at hT
  rw [← hT] at hG hPz hQz
  have e1 : n = k := hR9.1.trans hG.1.symm
  have e2 : c = cz := hP9.1.trans hPz.1.symm
  have e3 : d = dz := hQ9.1.trans hQz.1.symm
  subst e1 e2 e3
  refine stop_of hA ⟨[(9, .c (.bp 1920 1 0)), (3, .c (.bp 192 1 0)), (5, .c (.bp 320 1 0)), (6, .c (.bp 384 1 0))], [(1920, 1, .box [.d (eI j.srcs), .d (eI j.tsks), .d (eI j.kind), .d (eI j.size), .d (eI j.step), .d (eI j.late), .d (eI j.tell), .d (eB j.piece), .d (eI j.least), .d (eI j.room), .d (eI mk), .own 1793 0 n 1, .own 2001 0 c 1, .own 2002 0 d 1]), (1793, 1, .arr 13 n fun i => eRow (G i)), (2001, 1, .arr 9 c fun i => ePane (Pz i)), (2002, 1, .arr 7 d fun i => eLat (Qz i)), (192, 1, .box [.d (eI j.srcs), .d (eI j.tsks), .d (eI j.kind), .d (eI j.size), .d (eI j.step), .d (eI j.late), .d (eI j.tell), .d (eB j.piece), .d (eI j.least), .d (eI j.room)]), (320, 1, .box ((eItm x).map .d)), (384, 1, .box [.d (eI 0), .d (.v nilS)]), (2176, 1, .arr 2 nw fun i => eWin (g i))]⟩ (cov_of ?_ ?_ ?_) ?_
  · subst hA; (repeat' first | exact True.intro | exact rfl | apply And.intro)
  · subst hA; (repeat' first | exact True.intro | exact rfl | apply And.intro | (intro _ _; first | rfl | trivial) | (intro q hq; exact congrArg eRow ((hR9.2 q hq).trans (hG.2 q hq).symm)) | (intro q hq; exact congrArg ePane ((hP9.2 q hq).trans (hPz.2 q hq).symm)) | (intro q hq; exact congrArg eLat ((hQ9.2 q hq).trans (hQz.2 q hq).symm)))
  · subst hA; (repeat' first | exact True.intro | exact rfl | apply And.intro | exact .inl rfl | exact .inr (le_of_nble rfl))
  cbv
  repeat' first
    | apply And.intro
    | exact True.intro
    | with_reducible rfl
    | exact same_of hA rfl
    | refine br_of hA (fun _ => ?_) (fun _ => ?_)
    | exact imp_of hA id
    | (refine imp_of hA ?_; subst hA; simp only [real, Bool.true_and]; exact id)
    | (refine ind_of hA ?_; decide +kernel)
theorem c_OpTake (j : JobT) (s : OpStT) (hn : s.rows.n ≤ 1080000) (x : ItmT) (y : Int × List RowT × List PaneT × List LatT) (hy : y = opTakeL j s x) (k : Nat) (G : Nat → RowT) (hG : Lst zRow y.2.1 k G) (c : Nat) (P : Nat → PaneT) (hP : Lst zPan y.2.2.1 c P) (d : Nat) (Q : Nat → LatT) (hQ : Lst zLat y.2.2.2 d Q) :
    Meets Try.prog 48 [xd (eJob j), .agg [.d (eI s.mark), .d (.sl 13 s.rows.n fun i => eRow (s.rows.g i))], xd (eItm x)] ⟨.tup [.agg [.d (eI y.1), .own 13 k fun i => eRow (G i)], .c (.own 9 c fun i => ePane (P i)), .c (.own 7 d fun i => eLat (Q i))], [none, none, none]⟩ := by
  unfold opTakeL at hy
  by_cases hok : OpOkP j s ∧ RecP x ∧ s.rows.n ≤ 280
  · rw [if_pos hok] at hy
    subst hy
    exact m_OpTake j s x hok.1 hok.2.1 hok.2.2 k G hG c P hP d Q hQ
  · rw [if_neg hok] at hy
    subst hy
    have hk0 : k = 0 := hG.1
    have hc0 : c = 0 := hP.1
    have hd0 : d = 0 := hQ.1
    subst hk0 hc0 hd0
    obtain ⟨mk, n, g, hnL⟩ := s
    have hn : n ≤ 1080000 := hn
    refine meets_up (res := .tup [.agg [.d (eI 0), .d (.v nilS)], .c (.d (.v nilS)), .c (.d (.v nilS))]) ⟨⟨UpV.refl _, UpV.nil 13 fun i => eRow (G i), trivial⟩, UpV.nil 9 fun i => ePane (P i), UpV.nil 7 fun i => eLat (Q i), trivial⟩ ?_
    obtain ⟨b1, hb1, cO⟩ := c_OpOk j ⟨mk, ⟨n, g, hnL⟩⟩
    obtain ⟨b2, hb2, cR⟩ := c_isRecP x
    obtain ⟨b3, hb3, cC⟩ := c_crowded mk n hn g
    have hbb : ¬ (b1 = true ∧ b2 = true ∧ b3 = false) := fun h => hok ⟨hb1.1 h.1, hb2.1 h.2.1, Nat.le_of_not_lt fun hc => by have := hb3.2 hc; rw [h.2.2] at this; cases this⟩
    have no3 : ∀ {A : Ar}, real = A → A.bite (A.bite (A.bnot b1) true (A.bnot b2)) true b3 = false → False := fun hA h => by
      subst hA
      have h : (bif (bif !b1 then true else !b2) then true else b3) = false := h
      cases b1 <;> cases b2 <;> cases b3 <;> simp at h hbb
    refine meets_of (H := []) (EX := EXA) ttok mixed Try.func48 rfl (by kernel_rfl) (by decide) ?_
    generalize hA : real = A
    generalize hM : MeetsB Try.prog = M
    cbv
    repeat' first
      | exact (no3 hA (by assumption)).elim
      | apply And.intro
      | exact True.intro
      | with_reducible rfl
      | exact same_of hA rfl
      | refine br_of hA (fun _ => ?_) (fun _ => ?_)
      | exact imp_of hA id
      | (refine imp_of hA ?_; subst hA; simp only [real, Bool.true_and]; exact id)
      | (refine ind_of hA ?_; decide +kernel)
      | (refine call_of hA hM _ cO ?_; cbv)
      | (refine call_of hA hM _ cR ?_; cbv)
      | (refine call_of hA hM _ cC ?_; cbv)
    all_goals first | (subst hA; rfl) | (subst hA; trace_state)
end Go.Rk
/- A row put in its place, step by step. -/
namespace Go.Rk
set_option linter.unusedSimpArgs false
set_option linter.unusedVariables false
theorem rIns_app {r : RowT} : ∀ {l : List RowT} (m : List RowT), (∃ q, q ∈ l ∧ RA r q) → rIns r (l ++ m) = rIns r l ++ m
  | [], _, ⟨_, h, _⟩ => by simp at h
  | q :: l, m, ⟨p, hp, ha⟩ => by
    show (if RA r q then r :: q :: (l ++ m) else q :: rIns r (l ++ m)) = (if RA r q then r :: q :: l else q :: rIns r l) ++ m
    by_cases h : RA r q
    · rw [if_pos h, if_pos h]; rfl
    · rw [if_neg h, if_neg h, rIns_app m ⟨p, (List.mem_cons.1 hp).resolve_left (fun e => h (e ▸ ha)), ha⟩]; rfl
theorem rIns_none {r : RowT} : ∀ {l : List RowT}, (∀ q, q ∈ l → ¬ RA r q) → rIns r l = l ++ [r]
  | [], _ => rfl
  | q :: l, h => by
    show (if RA r q then r :: q :: l else q :: rIns r l) = _
    rw [if_neg (h q (by simp)), rIns_none fun x hx => h x (List.mem_cons_of_mem _ hx)]; rfl
theorem rIns_hit {r x : RowT} : ∀ {l : List RowT}, (∀ q, q ∈ l → ¬ RA r q) → RA r x → rIns r (l ++ [x]) = (l ++ [r]) ++ [x]
  | [], _, hx => by
    show (if RA r x then r :: x :: [] else _) = _
    rw [if_pos hx]; rfl
  | q :: l, h, hx => by
    show (if RA r q then _ else q :: rIns r (l ++ [x])) = _
    rw [if_neg (h q (by simp)), rIns_hit (fun y hy => h y (List.mem_cons_of_mem _ hy)) hx]; rfl
/-- Behind so many rows: what is gathered, and whether the row was put. -/
def PutAt (r : RowT) (l : List RowT) (dn : Bool) (out : List RowT) : Prop :=
  (dn = false ∧ out = rOut r.key r.win l ∧ ∀ q, q ∈ out → ¬ RA r q) ∨ (dn = true ∧ out = rIns r (rOut r.key r.win l) ∧ ∃ q, q ∈ rOut r.key r.win l ∧ RA r q)
theorem rOut_snoc (k : Int) (w : WinT) (l : List RowT) (x : RowT) : rOut k w (l ++ [x]) = rOut k w l ++ if IsR k w x then [] else [x] := by
  unfold rOut; rw [List.filter_append]; congr 1
  by_cases h : IsR k w x <;> simp [h]
theorem putAt_same {r x : RowT} {l out : List RowT} {dn : Bool} (h : PutAt r l dn out) (hx : IsR r.key r.win x) : PutAt r (l ++ [x]) dn out := by
  unfold PutAt; rw [rOut_snoc, if_pos hx, List.append_nil]; exact h
theorem putAt_hit {r x : RowT} {l out : List RowT} (h : PutAt r l false out) (hx : ¬ IsR r.key r.win x) (ha : RA r x) : PutAt r (l ++ [x]) true ((out ++ [r]) ++ [x]) := by
  rcases h with ⟨_, rfl, h2⟩ | ⟨h, _⟩
  · refine .inr ⟨rfl, ?_, x, ?_, ha⟩
    · rw [rOut_snoc, if_neg hx, rIns_hit h2 ha]
    · rw [rOut_snoc, if_neg hx]; simp
  · cases h
theorem putAt_on {r x : RowT} {l out : List RowT} {dn : Bool} (h : PutAt r l dn out) (hx : ¬ IsR r.key r.win x) (ha : ¬ (dn = false ∧ RA r x)) : PutAt r (l ++ [x]) dn (out ++ [x]) := by
  rcases h with ⟨rfl, rfl, h2⟩ | ⟨rfl, rfl, h2⟩
  · refine .inl ⟨rfl, by rw [rOut_snoc, if_neg hx], fun q hq => ?_⟩
    rcases List.mem_append.1 hq with h | h
    · exact h2 q h
    · simp at h; subst h; exact fun hr => ha ⟨rfl, hr⟩
  · obtain ⟨q, hq, hqa⟩ := h2
    refine .inr ⟨rfl, ?_, q, ?_, hqa⟩
    · rw [rOut_snoc, if_neg hx, rIns_app _ ⟨q, hq, hqa⟩]
    · rw [rOut_snoc]; exact List.mem_append_left _ hq
theorem putAt_end {r : RowT} {l out : List RowT} {dn : Bool} (h : PutAt r l dn out) : rPut r l = if dn = true then out else out ++ [r] := by
  unfold rPut
  rcases h with ⟨rfl, rfl, h2⟩ | ⟨rfl, rfl, h2⟩
  · rw [if_neg (by simp), rIns_none h2]
  · rw [if_pos rfl]
theorem putAt_len {r : RowT} {l out : List RowT} {dn : Bool} (h : PutAt r l dn out) : out.length ≤ l.length + 1 := by
  have h1 : (rOut r.key r.win l).length ≤ l.length := List.length_filter_le _ _
  rcases h with ⟨_, rfl, _⟩ | ⟨_, rfl, _⟩
  · omega
  · rw [rIns_len]; omega
theorem room_add3 {A : Ar} (hA : real = A) {n m k b : Nat} (hn : n + m + k ≤ 2000000) (hb : b ≤ 100000) : A.room (A.add (A.add n m) k) b := by
  have e : A.add n m = n + m := by subst hA; rfl
  rw [e]
  exact room_add2 hA hn hb
theorem push2_if {α : Type} (e : α → List DV) (n : Nat) (G : Nat → α) (x y : α) (z z' : Nat → List DV) (k : Nat) (hk : k < n + 1 + 1) : real.app (real.add n 1) (real.app n (fun i => e (G i)) (real.sub 0 (real.app 1 (real.rep (e x)) z))) (real.sub 0 (real.app 1 (real.rep (e y)) z')) k = e (if k < n + 1 then (if k < n then G k else x) else y) := by
  show (if k < n + 1 then (if k < n then e (G k) else (if 0 + (k - n) < 1 then e x else z (0 + (k - n) - 1))) else (if 0 + (k - (n + 1)) < 1 then e y else z' (0 + (k - (n + 1)) - 1))) = _
  by_cases a : k < n + 1
  · rw [if_pos a, if_pos a]
    by_cases b : k < n
    · rw [if_pos b, if_pos b]
    · rw [if_neg b, if_neg b, if_pos (by omega)]
  · rw [if_neg a, if_neg a, if_pos (by omega)]
theorem restL_snoc (k : Int) (w : WinT) (l : List RowT) (r : RowT) : restL k w (l ++ [r]) = restL k w l ++ if tchR k w r = true then [] else [r] := by
  unfold restL; rw [List.filter_append]; congr 1
  cases h : tchR k w r <;> simp [h]
theorem app_if {α : Type} {z : α} (e : α → List DV) {l m : List α} {n k : Nat} {G H : Nat → α} (h1 : Lst z l n G) (h2 : Lst z m k H) (i : Nat) (hi : i < n + k) : real.app n (fun i => e (G i)) (real.sub 0 fun i => e (H i)) i = e ((l ++ m).getD i z) := by
  show (if i < n then e (G i) else e (H (0 + (i - n)))) = _
  by_cases a : i < n
  · rw [if_pos a, h1.2 i a, List.getD_eq_getElem?_getD, List.getD_eq_getElem?_getD, List.getElem?_append_left (by rw [← h1.1]; exact a)]
  · rw [if_neg a, Nat.zero_add, h2.2 (i - n) (by omega), List.getD_eq_getElem?_getD, List.getD_eq_getElem?_getD, List.getElem?_append_right (by rw [← h1.1]; omega), ← h1.1]
theorem app_if2 {α : Type} (e : α → List DV) {n : Nat} {G H : Nat → α} (i : Nat) : real.app n (fun i => e (G i)) (fun i => e (H i)) i = e (if i < n then G i else H (i - n)) := by
  show (if i < n then e (G i) else e (H (i - n))) = _
  by_cases a : i < n
  · rw [if_pos a, if_pos a]
  · rw [if_neg a, if_neg a]
theorem lst_app {α : Type} {z : α} {l m : List α} {n k : Nat} {G H : Nat → α} (h1 : Lst z l n G) (h2 : Lst z m k H) : Lst z (l ++ m) (n + k) (fun i => if i < n then G i else H (i - n)) := by
  refine ⟨by rw [List.length_append, h1.1, h2.1], fun i hi => ?_⟩
  show (if i < n then G i else H (i - n)) = _
  by_cases a : i < n
  · rw [if_pos a, h1.2 i a, List.getD_eq_getElem?_getD, List.getD_eq_getElem?_getD, List.getElem?_append_left (by rw [← h1.1]; exact a)]
  · rw [if_neg a, h2.2 (i - n) (by omega), List.getD_eq_getElem?_getD, List.getD_eq_getElem?_getD, List.getElem?_append_right (by rw [← h1.1]; omega), ← h1.1]
end Go.Rk
/- A record, as the reference takes it. -/
namespace Go.Rk
set_option linter.unusedSimpArgs false
set_option linter.unusedVariables false
open Go.Proofs
set_option maxRecDepth 100000
set_option maxHeartbeats 1000000
def st_lp (n : Nat) (g : Nat → RowT) (r : RowT) (i : Nat) (dn : Bool) (c : Nat) (G : Nat → RowT) : St := ⟨[(7, .c (.d (eI i))), (6, .c (.d (eB dn))), (5, .c (.own 576 0 c 1)), (0, .c (.d (.sl 13 n fun i => eRow (g i)))), (3, .c (.bp 192 1 0))], [(192, 1, .box ((eRow r).map .d)), (576, 1, .arr 13 c fun i => eRow (G i))]⟩
theorem c_l7Put (l : List RowT) (n : Nat) (g : Nat → RowT) (hl : Lst zRow l n g) (hn : n ≤ 1080000) (r : RowT) (n1 : Nat) (G1 : Nat → RowT) (h1 : Lst zRow (rPut r l) n1 G1) : Meets Try.prog 165 [.c (.d (.sl 13 n fun i => eRow (g i))), xd (eRow r)] ⟨.one (.c (.own 13 n1 fun i => eRow (G1 i))), [none, none]⟩ := by
  have hnL : n ≤ maxLen := Nat.le_trans hn (by decide)
  refine meets_of (H := [14]) (EX := EXA) ttok mixed Try.func165 rfl (by kernel_rfl) (by decide) ?_
  generalize hA : real = A
  generalize hM : MeetsB Try.prog = M
  cbv
  repeat' first
    | apply And.intro
    | exact True.intro
    | with_reducible rfl
    | exact same_of hA rfl
    | refine br_of hA (fun _ => ?_) (fun _ => ?_)
    | exact imp_of hA id
    | (refine imp_of hA ?_; subst hA; simp only [real, Bool.true_and]; exact id)
    | (refine ind_of hA ?_; decide +kernel)
  refine loop_of hA (α := { y : Nat × Bool × Nat × (Nat → RowT) // y.1 ≤ n ∧ ∃ out, PutAt r (l.take y.1) y.2.1 out ∧ Lst zRow out y.2.2.1 y.2.2.2 }) (fun y => st_lp n g r y.1.1 y.1.2.1 y.1.2.2.1 y.1.2.2.2) (fun y => n - y.1.1) ⟨(0, false, 0, fun _ => zRow), Nat.zero_le _, [], .inl ⟨rfl, rfl, fun q hq => by simp at hq⟩, rfl, fun k h => absurd h (Nat.not_lt_zero k)⟩ ?_ ?_
  · refine cov_of ?_ ?_ ?_
    · (subst hA; (repeat' first | exact True.intro | exact rfl | apply And.intro))
    · (subst hA; (repeat' first | exact True.intro | exact rfl | apply And.intro | (intro _ _; first | rfl | trivial) | (intro q hq; exact absurd hq (Nat.not_lt_zero q))))
    · (subst hA; (repeat' first | exact True.intro | exact rfl | apply And.intro | exact .inl rfl | exact .inr (le_of_nble rfl)))
  rintro ⟨⟨i, dn, c, G⟩, hi, out, hp, hG⟩
  have hi : i ≤ n := hi
  have hp : PutAt r (l.take i) dn out := hp
  have hG : Lst zRow out c G := hG
  have hcl : c ≤ i + 1 := by
    rw [hG.1]
    refine Nat.le_trans (putAt_len hp) ?_
    rw [List.length_take]; omega
  have eq0 : A.nat (Int.ofNat i) = i := by subst hA; exact Int.toNat_natCast i
  cbv
  repeat' first
    | apply And.intro
    | exact True.intro
    | with_reducible rfl
    | exact same_of hA rfl
    | refine br_of hA (fun _ => ?_) (fun _ => ?_)
    | exact imp_of hA id
    | (refine imp_of hA ?_; subst hA; simp only [real, Bool.true_and]; exact id)
    | (refine ind_of hA ?_; decide +kernel)
    | (refine call_ex hA hM (c_l5A _ _ _ _ _ _) (fun _ _ => ?_); cbv)
    | (refine inb_lt hA ?_; first | exact lt2_of hA (by assumption) | exact lt_of hA (by assumption))
    | exact room_add2 hA (by omega) (by decide)
    | exact room_add3 hA (by omega) (by decide)
    | exact flat_row hA _ _
  · rename_i hlt hs
    have hlt' : i < n := by first | exact lt2_of hA hlt | exact lt_of hA hlt
    have htk := lst_take hl hlt'
    have hsm : IsR r.key r.win (g i) := by
      rw [← eq0]
      subst hA
      simp only [real, bifA, Bool.and_eq_true, decide_eq_true_eq, beq_iff_eq] at hs
      unfold IsR
      simp_all
    refine ⟨⟨(i + 1, dn, c, G), hlt', out, by dsimp only; rw [htk]; exact putAt_same hp hsm, hG⟩, by dsimp only; omega, cov_of ?_ ?_ ?_⟩
    · (subst hA; (repeat' first | exact True.intro | exact rfl | apply And.intro | exact congrArg (fun x => DV.v (.int .i64 x)) (up64 hlt' hnL)))
    · (subst hA; (repeat' first | exact True.intro | exact rfl | apply And.intro | (intro _ _; first | rfl | trivial)))
    · (subst hA; (repeat' first | exact True.intro | exact rfl | apply And.intro | exact .inl rfl | exact .inr (le_of_nble rfl)))
  · rename_i hlt hs b hb hh
    have hlt' : i < n := by first | exact lt2_of hA hlt | exact lt_of hA hlt
    have htk := lst_take hl hlt'
    have hsm : ¬ IsR r.key r.win (g i) := by
      rw [← eq0]
      subst hA
      simp only [real, bifA, Bool.and_eq_true, Bool.and_eq_false_iff, decide_eq_false_iff_not, beq_eq_false_iff_ne, ne_eq] at hs
      intro hI
      unfold IsR at hI
      rcases hs with h | h | h | h <;> simp_all
    have hh2 : dn = false ∧ RA r (g i) := by
      rw [← eq0]
      subst hA
      have hh : (bif !dn then b else false) = true := hh
      cases dn with
      | true => cases hh
      | false => exact ⟨rfl, hb.1 hh⟩
    obtain ⟨hdn, hra⟩ := hh2
    subst hdn
    refine ⟨⟨(i + 1, true, c + 1 + 1, fun q => if q < c + 1 then (if q < c then G q else r) else g i), hlt', (out ++ [r]) ++ [g i], by dsimp only; rw [htk]; exact putAt_hit hp hsm hra, lst_snoc (lst_snoc hG)⟩, by dsimp only; omega, cov_of ?_ ?_ ?_⟩
    · (subst hA; (repeat' first | exact True.intro | exact rfl | apply And.intro | exact congrArg (fun x => DV.v (.int .i64 x)) (up64 hlt' hnL)))
    · (subst hA; (repeat' first | exact True.intro | exact rfl | apply And.intro | (intro _ _; first | rfl | trivial) | (intro q hq; exact push2_if eRow c G r (g i) (fun _ => eRow zRow) (fun _ => eRow zRow) q hq)))
    · (subst hA; (repeat' first | exact True.intro | exact rfl | apply And.intro | exact .inl rfl | exact .inr (le_of_nble rfl)))
  · rename_i hlt hs b hb hh
    have hlt' : i < n := by first | exact lt2_of hA hlt | exact lt_of hA hlt
    have htk := lst_take hl hlt'
    have hsm : ¬ IsR r.key r.win (g i) := by
      rw [← eq0]
      subst hA
      simp only [real, bifA, Bool.and_eq_true, Bool.and_eq_false_iff, decide_eq_false_iff_not, beq_eq_false_iff_ne, ne_eq] at hs
      intro hI
      unfold IsR at hI
      rcases hs with h | h | h | h <;> simp_all
    have hh2 : ¬ (dn = false ∧ RA r (g i)) := by
      rw [← eq0]
      subst hA
      have hh : (bif !dn then b else false) = false := hh
      rintro ⟨rfl, hr⟩
      have := hb.2 hr
      rw [this] at hh; cases hh
    refine ⟨⟨(i + 1, dn, c + 1, fun q => if q < c then G q else g i), hlt', out ++ [g i], by dsimp only; rw [htk]; exact putAt_on hp hsm hh2, lst_snoc hG⟩, by dsimp only; omega, cov_of ?_ ?_ ?_⟩
    · (subst hA; (repeat' first | exact True.intro | exact rfl | apply And.intro | exact congrArg (fun x => DV.v (.int .i64 x)) (up64 hlt' hnL)))
    · (subst hA; (repeat' first | exact True.intro | exact rfl | apply And.intro | (intro _ _; first | rfl | trivial) | (intro q hq; exact push_if (A := real) eRow rfl c G (g i) (fun _ => eRow zRow) q hq)))
    · (subst hA; (repeat' first | exact True.intro | exact rfl | apply And.intro | exact .inl rfl | exact .inr (le_of_nble rfl)))
  · rename_i hge hdd
    have hin : n = i := by first | (have := ge2_of hA hge; omega) | (have := ge_of hA hge; omega)
    have hp9 : PutAt r l dn out := by rw [← lst_all hl, hin]; exact hp
    have hG9 : Lst zRow out c G := hG
    have hd9 : dn = false := bnot_t hA hdd
    have he := putAt_end hp9
    rw [hd9] at he
    have he : rPut r l = out ++ [r] := he
    rw [he] at h1
    have hcc : c + 1 = n1 := by
      have := h1.1
      have := hG9.1
      simp at *
      omega
    subst hcc
    have hrow : ∀ q, q < c + 1 → (if q < c then G q else r) = G1 q := fun q hq => ((lst_snoc (x := r) hG9).2 q hq).trans (h1.2 q hq).symm
    refine stop_of hA ⟨[(5, .c (.own 576 0 (c + 1) 1))], [(576, 1, .arr 13 (c + 1) fun i => eRow (G1 i))]⟩ (cov_of ?_ ?_ ?_) ?_
    · (subst hA; (repeat' first | exact True.intro | exact rfl | apply And.intro))
    · (subst hA; (repeat' first | exact True.intro | exact rfl | apply And.intro | (intro _ _; first | rfl | trivial) | (intro q hq; exact (push_if (A := real) eRow rfl c G r (fun _ => eRow zRow) q hq).trans (congrArg eRow (hrow q hq)))))
    · (subst hA; (repeat' first | exact True.intro | exact rfl | apply And.intro | exact .inl rfl | exact .inr (le_of_nble rfl)))
    cbv
    repeat' first
      | apply And.intro
      | exact True.intro
      | with_reducible rfl
      | exact same_of hA rfl
      | refine br_of hA (fun _ => ?_) (fun _ => ?_)
      | exact imp_of hA id
      | (refine imp_of hA ?_; subst hA; simp only [real, Bool.true_and]; exact id)
      | (refine ind_of hA ?_; decide +kernel)
  · rename_i hge hdd
    have hin : n = i := by first | (have := ge2_of hA hge; omega) | (have := ge_of hA hge; omega)
    have hp9 : PutAt r l dn out := by rw [← lst_all hl, hin]; exact hp
    have hG9 : Lst zRow out c G := hG
    have hd9 : dn = true := bnot_f hA hdd
    have he := putAt_end hp9
    rw [hd9] at he
    have he : rPut r l = out := he
    rw [he] at h1
    have hcc : c = n1 := by
      have := h1.1
      have := hG9.1
      simp at *
      omega
    subst hcc
    have hrow : ∀ q, q < c → G q = G1 q := fun q hq => (hG9.2 q hq).trans (h1.2 q hq).symm
    refine stop_of hA ⟨[(5, .c (.own 576 0 (c) 1))], [(576, 1, .arr 13 (c) fun i => eRow (G1 i))]⟩ (cov_of ?_ ?_ ?_) ?_
    · (subst hA; (repeat' first | exact True.intro | exact rfl | apply And.intro))
    · (subst hA; (repeat' first | exact True.intro | exact rfl | apply And.intro | (intro _ _; first | rfl | trivial) | (intro q hq; exact congrArg eRow (hrow q hq))))
    · (subst hA; (repeat' first | exact True.intro | exact rfl | apply And.intro | exact .inl rfl | exact .inr (le_of_nble rfl)))
    cbv
    repeat' first
      | apply And.intro
      | exact True.intro
      | with_reducible rfl
      | exact same_of hA rfl
      | refine br_of hA (fun _ => ?_) (fun _ => ?_)
      | exact imp_of hA id
      | (refine imp_of hA ?_; subst hA; simp only [real, Bool.true_and]; exact id)
      | (refine ind_of hA ?_; decide +kernel)
end Go.Rk
/- A record, as the reference takes it: into a window. -/
namespace Go.Rk
set_option linter.unusedSimpArgs false
set_option linter.unusedVariables false
open Go.Proofs
set_option maxRecDepth 100000
set_option maxHeartbeats 1000000
def st_rf (mk : Int) (n : Nat) (g : Nat → RowT) (k : Int) (w : WinT) (i : Nat) : St := ⟨[(8, .c (.d (eI i))), (1, .c (.d (eI k))), (3, .c (.bp 192 1 0)), (5, .c (.bp 320 1 0)), (6, .c (.bp 384 1 0)), (7, .c (.d (eB false)))], [(192, 1, .box [.d (eI mk), .d (.sl 13 n fun i => eRow (g i))]), (320, 1, .box ((eWin w).map .d)), (384, 1, .box ((eRow zRow).map .d))]⟩
theorem c_sFindR (mk : Int) (l : List RowT) (n : Nat) (g : Nat → RowT) (hl : Lst zRow l n g) (hn : n ≤ 1080000) (k : Int) (w : WinT) (r : RowT) (hr : r = (rFind k w l).getD zRow) (b : Bool) (hb : b = (rFind k w l).isSome) : Meets Try.prog 28 [.agg [.d (eI mk), .d (.sl 13 n fun i => eRow (g i))], .c (.d (eI k)), xd (eWin w)] ⟨.tup [xd (eRow r), .c (.d (eB b))], [none, none, none]⟩ := by
  have hnL : n ≤ maxLen := Nat.le_trans hn (by decide)
  refine meets_of (H := []) (EX := EXA) ttok mixed Try.func28 rfl (by kernel_rfl) (by decide) ?_
  generalize hA : real = A
  generalize hM : MeetsB Try.prog = M
  cbv
  repeat' first
    | apply And.intro
    | exact True.intro
    | with_reducible rfl
    | exact same_of hA rfl
    | refine br_of hA (fun _ => ?_) (fun _ => ?_)
    | exact imp_of hA id
    | (refine imp_of hA ?_; subst hA; simp only [real, Bool.true_and]; exact id)
    | (refine ind_of hA ?_; decide +kernel)
  refine loop_of hA (α := { i : Nat // i ≤ n ∧ ∀ q, q < i → ¬ IsR k w (g q) }) (fun y => st_rf mk n g k w y.1) (fun y => n - y.1) ⟨0, Nat.zero_le _, fun q h => absurd h (Nat.not_lt_zero q)⟩ ?_ ?_
  · refine cov_of ?_ ?_ ?_
    · (subst hA; (repeat' first | exact True.intro | exact rfl | apply And.intro))
    · (subst hA; (repeat' first | exact True.intro | exact rfl | apply And.intro | (intro _ _; first | rfl | trivial)))
    · (subst hA; (repeat' first | exact True.intro | exact rfl | apply And.intro | exact .inl rfl | exact .inr (le_of_nble rfl)))
  rintro ⟨i, hi, hk⟩
  have hi : i ≤ n := hi
  have eq0 : A.nat (Int.ofNat i) = i := by subst hA; exact Int.toNat_natCast i
  cbv
  repeat' first
    | apply And.intro
    | exact True.intro
    | with_reducible rfl
    | exact same_of hA rfl
    | refine br_of hA (fun _ => ?_) (fun _ => ?_)
    | exact imp_of hA id
    | (refine imp_of hA ?_; subst hA; simp only [real, Bool.true_and]; exact id)
    | (refine ind_of hA ?_; decide +kernel)
    | (refine inb_lt hA ?_; first | exact lt2_of hA (by assumption) | exact lt_of hA (by assumption))
  · rename_i hlt hs
    have hlt' : i < n := by first | exact lt2_of hA hlt | exact lt_of hA hlt
    have hsm : IsR k w (g i) := by
      rw [← eq0]
      subst hA
      simp only [real, bifA, Bool.and_eq_true, decide_eq_true_eq, beq_iff_eq] at hs
      unfold IsR
      simp_all
    rw [rfind_some hl hlt' hsm hk] at hr hb
    have hr : r = g i := hr
    have hb : b = true := hb
    subst hr hb
    subst hA
    rfl
  · rename_i hlt hs
    have hlt' : i < n := by first | exact lt2_of hA hlt | exact lt_of hA hlt
    have hsm : ¬ IsR k w (g i) := by
      rw [← eq0]
      subst hA
      simp only [real, bifA, Bool.and_eq_true, Bool.and_eq_false_iff, decide_eq_false_iff_not, beq_eq_false_iff_ne, ne_eq] at hs
      intro hI
      unfold IsR at hI
      rcases hs with h | h | h | h <;> simp_all
    refine ⟨⟨i + 1, hlt', fun q hq => ?_⟩, by dsimp only; omega, cov_of ?_ ?_ ?_⟩
    · by_cases e : q = i
      · rw [e]; exact hsm
      · exact hk q (by have hq : q < i + 1 := hq; omega)
    · (subst hA; (repeat' first | exact True.intro | exact rfl | apply And.intro | exact congrArg (fun x => DV.v (.int .i64 x)) (up64 hlt' hnL)))
    · (subst hA; (repeat' first | exact True.intro | exact rfl | apply And.intro | (intro _ _; first | rfl | trivial)))
    · (subst hA; (repeat' first | exact True.intro | exact rfl | apply And.intro | exact .inl rfl | exact .inr (le_of_nble rfl)))
  · rename_i hge
    have hin : n = i := by first | (have := ge2_of hA hge; omega) | (have := ge_of hA hge; omega)
    rw [rfind_none hl fun q hq => hk q (by omega)] at hr hb
    have hr : r = zRow := hr
    have hb : b = false := hb
    subst hr hb
    rfl
theorem c_l7Tell (j : JobT) (mk : Int) (l : List RowT) (n : Nat) (g : Nat → RowT) (hl : Lst zRow l n g) (hn : n ≤ 1080000) (r : RowT) (t : RowT × List PaneT) (ht : t = tellS j mk r) (n1 : Nat) (G1 : Nat → RowT) (h1 : Lst zRow (rPut t.1 l) n1 G1) (c : Nat) (P : Nat → PaneT) (hP : Lst zPan t.2 c P) : Meets Try.prog 160 [xd (eJob j), .agg [.d (eI mk), .d (.sl 13 n fun i => eRow (g i))], xd (eRow r)] ⟨.tup [.agg [.d (eI mk), .own 13 n1 fun i => eRow (G1 i)], .c (.own 9 c fun i => ePane (P i))], [none, none, none]⟩ := by
  have cP := c_l7Put l n g hl hn t.1 n1 G1 h1
  unfold tellS at ht
  by_cases hm : mk < r.win.e
  · rw [if_pos hm] at ht
    subst ht
    have hc0 : c = 0 := hP.1
    subst hc0
    have cP : Meets Try.prog 165 [.c (.d (.sl 13 n fun i => eRow (g i))), xd (eRow r)] ⟨.one (.c (.own 13 n1 fun i => eRow (G1 i))), [none, none]⟩ := cP
    refine meets_up (res := .tup [.agg [.d (eI mk), .own 13 n1 fun i => eRow (G1 i)], .c (.own 9 0 (real.rep (ePane zPan)))]) ⟨⟨UpV.refl _, UpV.refl _, trivial⟩, UpV.row fun i hi => absurd hi (Nat.not_lt_zero i), trivial⟩ ?_
    have no : ∀ {A : Ar}, real = A → A.cmp .lss mk r.win.e = false → False := fun hA h => by
      subst hA
      exact of_decide_eq_false h hm
    refine meets_of (H := []) (EX := EXA) ttok mixed Try.func160 rfl (by kernel_rfl) (by decide) ?_
    generalize hA : real = A
    generalize hM : MeetsB Try.prog = M
    cbv
    repeat' first
      | exact (no hA (by assumption)).elim
      | apply And.intro
      | exact True.intro
      | with_reducible rfl
      | exact same_of hA rfl
      | refine br_of hA (fun _ => ?_) (fun _ => ?_)
      | exact imp_of hA id
      | (refine imp_of hA ?_; subst hA; simp only [real, Bool.true_and]; exact id)
      | (refine ind_of hA ?_; decide +kernel)
      | (refine call_of hA hM _ cP ?_; cbv)
      | exact flat_row hA _ _
    all_goals (subst hA; rfl)
  · rw [if_neg hm] at ht
    subst ht
    have hc1 : c = 1 := hP.1
    subst hc1
    have hP0 : P 0 = paneP j.piece r (kindT r) := hP.2 0 (by omega)
    have cP : Meets Try.prog 165 [.c (.d (.sl 13 n fun i => eRow (g i))), xd (eRow (toldR r))] ⟨.one (.c (.own 13 n1 fun i => eRow (G1 i))), [none, none]⟩ := cP
    obtain ⟨p, hp⟩ : ∃ p, p = paneP j.piece r (kindT r) := ⟨_, rfl⟩
    refine meets_up (res := .tup [.agg [.d (eI mk), .own 13 n1 fun i => eRow (G1 i)], .c (.own 9 1 (real.app 1 (real.rep (ePane p)) (real.rep (ePane zPan))))]) ⟨⟨UpV.refl _, UpV.refl _, trivial⟩, UpV.row fun i hi => (by rw [show i = 0 by omega, hP0, hp]; rfl), trivial⟩ ?_
    have no : ∀ {A : Ar}, real = A → A.cmp .lss mk r.win.e = true → False := fun hA h => by
      subst hA
      exact hm (of_decide_eq_true h)
    have cN2 := fun (h : r.timely = true) => c_l7Pane j r 2 p (by rw [hp, show kindT r = 2 from if_pos h])
    have cN1 := fun (h : ¬ r.timely = true) => c_l7Pane j r 1 p (by rw [hp, show kindT r = 1 from if_neg h])
    refine meets_of (H := []) (EX := EXA) ttok mixed Try.func160 rfl (by kernel_rfl) (by decide) ?_
    generalize hA : real = A
    generalize hM : MeetsB Try.prog = M
    cbv
    repeat' first
      | exact (no hA (by assumption)).elim
      | apply And.intro
      | exact True.intro
      | with_reducible rfl
      | exact same_of hA rfl
      | refine br_of hA (fun _ => ?_) (fun _ => ?_)
      | exact imp_of hA id
      | (refine imp_of hA ?_; subst hA; simp only [real, Bool.true_and]; exact id)
      | (refine ind_of hA ?_; decide +kernel)
      | (refine call_of2 hA hM _ cP (by subst hA; rfl) ?_; cbv)
      | exact flat_row hA _ _
    · rename_i h
      have h9 : ¬ r.timely = true := by rw [show r.timely = false from bnot_t hA h]; simp
      refine call_of hA hM _ (cN1 h9) ?_
      cbv
      repeat' first
        | apply And.intro
        | exact True.intro
        | with_reducible rfl
        | exact same_of hA rfl
        | refine br_of hA (fun _ => ?_) (fun _ => ?_)
        | exact imp_of hA id
        | (refine imp_of hA ?_; subst hA; simp only [real, Bool.true_and]; exact id)
        | (refine ind_of hA ?_; decide +kernel)
        | (refine call_of2 hA hM _ cP (by subst hA; rfl) ?_; cbv)
        | exact flat_row hA _ _
      all_goals (subst hA; rfl)
    · rename_i h
      have h9 : r.timely = true := bnot_f hA h
      refine call_of hA hM _ (cN2 h9) ?_
      cbv
      repeat' first
        | apply And.intro
        | exact True.intro
        | with_reducible rfl
        | exact same_of hA rfl
        | refine br_of hA (fun _ => ?_) (fun _ => ?_)
        | exact imp_of hA id
        | (refine imp_of hA ?_; subst hA; simp only [real, Bool.true_and]; exact id)
        | (refine ind_of hA ?_; decide +kernel)
        | (refine call_of2 hA hM _ cP (by subst hA; rfl) ?_; cbv)
        | exact flat_row hA _ _
      all_goals (subst hA; rfl)
theorem c_l7Into (j : JobT) (mk : Int) (l : List RowT) (n : Nat) (g : Nat → RowT) (hl : Lst zRow l n g) (hn : n ≤ 1080000) (x : ItmT) (w : WinT) :
    (∀ q, intoL j mk x.key x.v w l = some q → ∀ n1 G1, Lst zRow q.1 n1 G1 → ∀ c P, Lst zPan q.2 c P → Meets Try.prog 144 [xd (eJob j), .agg [.d (eI mk), .d (.sl 13 n fun i => eRow (g i))], xd (eItm x), xd (eWin w)] ⟨.tup [.agg [.d (eI mk), .d (.sl 13 n1 fun i => eRow (G1 i))], .c (.d (.sl 9 c fun i => ePane (P i))), .c (.d (eB true))], [none, none, none, none]⟩) ∧
    (intoL j mk x.key x.v w l = none → ∀ n1 G1, n1 = n → G1 = g → ∀ c P, c = 0 → P = (fun _ => zPan) → Meets Try.prog 144 [xd (eJob j), .agg [.d (eI mk), .d (.sl 13 n fun i => eRow (g i))], xd (eItm x), xd (eWin w)] ⟨.tup [.agg [.d (eI mk), .d (.sl 13 n1 fun i => eRow (G1 i))], .c (.d (.sl 9 c fun i => ePane (P i))), .c (.d (eB false))], [none, none, none, none]⟩) := by
  unfold intoL
  refine ⟨fun q hq n1 G1 h1 c P hP => ?_, fun hq n1 G1 e1 e2 c P e3 e4 => ?_⟩
  · split at hq
    · cases hq
    · rename_i hov
      obtain ⟨t, ht⟩ : ∃ t, t = tellS j mk (addR ((rFind x.key w l).getD (nrow x.key w)) x.v) := ⟨_, rfl⟩
      rw [← ht] at hq
      cases hq
      have h1 : Lst zRow (rPut t.1 l) n1 G1 := h1
      have hP : Lst zPan t.2 c P := hP
      obtain ⟨r0, hr0⟩ : ∃ r0, r0 = (rFind x.key w l).getD zRow := ⟨_, rfl⟩
      obtain ⟨b0, hb0⟩ : ∃ b0, b0 = (rFind x.key w l).isSome := ⟨_, rfl⟩
      have cF := c_sFindR mk l n g hl hn x.key w r0 hr0 b0 hb0
      obtain ⟨ra, hra⟩ : ∃ ra, ra = aggAdd r0.all x.v := ⟨_, rfl⟩
      obtain ⟨rb, hrb⟩ : ∃ ra, ra = aggAdd r0.fresh x.v := ⟨_, rfl⟩
      have cA := c_sAggAdd r0.all x.v ra hra
      have cB := c_sAggAdd r0.fresh x.v rb hrb
      have hrr : addR ((rFind x.key w l).getD (nrow x.key w)) x.v = ⟨x.key, w, ra, rb, r0.told, r0.timely⟩ := by
        cases h : rFind x.key w l with
        | none => rw [h] at hr0; rw [hra, hrb, hr0]; rfl
        | some r =>
          have his : IsR x.key w r := by have := getD_is (k := x.key) (w := w) (l := l); rw [h] at this; exact this
          rw [h] at hr0
          have e1 := (isR_eq his).1
          have e2 := (isR_eq his).2
          rw [hra, hrb, hr0, ← e1, ← e2]; rfl
      rw [hrr] at ht
      have cT := c_l7Tell j mk l n g hl hn ⟨x.key, w, ra, rb, r0.told, r0.timely⟩ t ht n1 G1 h1 c P hP
      have no : ∀ {A : Ar}, real = A → A.cmp .geq mk (A.ar .add .i64 w.e j.late) = true → False := fun hA h => by
        subst hA
        exact hov (of_decide_eq_true h)
      refine meets_frz (r := .tup [.agg [.d (eI mk), .own 13 n1 fun i => eRow (G1 i)], .c (.own 9 c fun i => ePane (P i)), .c (.d (eB true))]) ?_ rfl
      refine meets_of (H := []) (EX := EXA) ttok mixed Try.func144 rfl (by kernel_rfl) (by decide) ?_
      generalize hA : real = A
      generalize hM : MeetsB Try.prog = M
      cbv
      repeat' first
        | exact (no hA (by assumption)).elim
        | apply And.intro
        | exact True.intro
        | with_reducible rfl
        | exact same_of hA rfl
        | refine br_of hA (fun _ => ?_) (fun _ => ?_)
        | exact imp_of hA id
        | (refine imp_of hA ?_; subst hA; simp only [real, Bool.true_and]; exact id)
        | (refine ind_of hA ?_; decide +kernel)
        | (refine call_of hA hM _ cF ?_; cbv)
        | (refine call_of hA hM _ cA ?_; cbv)
        | (refine call_of hA hM _ cB ?_; cbv)
        | (refine call_of hA hM _ cT ?_; cbv)
        | exact flat_row hA _ _
        | exact flat_pane hA _ _
  · split at hq
    · rename_i hov
      subst e1 e2 e3 e4
      have no : ∀ {A : Ar}, real = A → A.cmp .geq mk (A.ar .add .i64 w.e j.late) = false → False := fun hA h => by
        subst hA
        exact of_decide_eq_false h hov
      refine meets_frz (r := .tup [.agg [.d (eI mk), .d (.sl 13 n1 fun i => eRow (G1 i))], .c (.own 9 0 fun i => ePane zPan), .c (.d (eB false))]) ?_ rfl
      refine meets_up (res := .tup [.agg [.d (eI mk), .d (.sl 13 n1 fun i => eRow (G1 i))], .c (.own 9 0 (real.rep (ePane zPan))), .c (.d (eB false))]) ⟨⟨UpV.refl _, UpV.refl _, trivial⟩, UpV.row fun i hi => absurd hi (Nat.not_lt_zero i), UpV.refl _, trivial⟩ ?_
      refine meets_of (H := []) (EX := EXA) ttok mixed Try.func144 rfl (by kernel_rfl) (by decide) ?_
      generalize hA : real = A
      generalize hM : MeetsB Try.prog = M
      cbv
      repeat' first
        | exact (no hA (by assumption)).elim
        | apply And.intro
        | exact True.intro
        | with_reducible rfl
        | exact same_of hA rfl
        | refine br_of hA (fun _ => ?_) (fun _ => ?_)
        | exact imp_of hA id
        | (refine imp_of hA ?_; subst hA; simp only [real, Bool.true_and]; exact id)
        | (refine ind_of hA ?_; decide +kernel)
      all_goals (subst hA; rfl)
    · cases hq
end Go.Rk
