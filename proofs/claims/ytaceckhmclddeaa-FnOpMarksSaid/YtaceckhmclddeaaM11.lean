/- The walk over this seat's functions, part 11: what each of them answers, at all data. -/
import Derived.Test.YtaceckhmclddeaaM1
import Derived.Test.YtaceckhmclddeaaM2
import Derived.Test.YtaceckhmclddeaaM3
import Derived.Test.YtaceckhmclddeaaM4
import Derived.Test.YtaceckhmclddeaaM5
import Derived.Test.YtaceckhmclddeaaM6
import Derived.Test.YtaceckhmclddeaaM7
import Derived.Test.YtaceckhmclddeaaM8
import Derived.Test.YtaceckhmclddeaaM9
import Derived.Test.YtaceckhmclddeaaM10
import Derived.Test.YtaceckhmclddeaaRows
import Derived.WalkKit
import Derived.ProofKit
import Derived.OpenShut
import Derived.ShutString
import Derived.ChangeOld
import Derived.SizedLaws
import Derived.DataShut
/- Two marks are the later one. -/
namespace Go.Rk
set_option linter.unusedSimpArgs false
set_option linter.unusedVariables false
theorem keepL_cons (late m : Int) (r : RowT) (l : List RowT) : keepL late m (r :: l) = if overB late m r = true then keepL late m l else markR m r :: keepL late m l := by
  unfold keepL
  rw [List.map_cons, List.filter_cons, overB_mark]
  cases overB late m r <;> simp
theorem tellL_cons (piece : Bool) (m : Int) (r : RowT) (l : List RowT) : tellL piece m (r :: l) = if dueB m r = true then paneP piece r 1 :: tellL piece m l else tellL piece m l := by
  unfold tellL
  rw [List.filter_cons]
  cases dueB m r <;> simp
theorem due_not {m : Int} {r : RowT} (h : dueB m r = true) (m' : Int) : dueB m' (markR m r) = false := by
  unfold markR; rw [if_pos h]; rfl
theorem mark_twice {j : JobT} (hj : JobOkP j) {mk m : Int} (hm : m < 1000) : ∀ {l : List RowT}, (∀ r, r ∈ l → RowOkP j r mk) → mk < m →
    keepL j.late (m + 1) (keepL j.late m l) = keepL j.late (m + 1) l ∧ (tellL j.piece m l ++ tellL j.piece (m + 1) (keepL j.late m l)).Perm (tellL j.piece (m + 1) l)
  | [], _, _ => ⟨rfl, .nil⟩
  | r :: l, h, hk => by
    have ih := mark_twice hj hm (fun q hq => h q (List.mem_cons_of_mem _ hq)) hk
    have hr := h r (by simp)
    have hw := winOk_d hr.2.1
    have hlw := late_w hj hr.2.1
    have hj2 : 0 ≤ j.late := by unfold JobOkP at hj; omega
    have hov : ∀ n, overB j.late n r = decide (r.win.e + j.late ≤ n) := fun n => by unfold overB; rw [hlw]
    cases hd : dueB m r with
    | true =>
      obtain ⟨d1, d2⟩ := due_iff.1 hd
      have hd2 : dueB (m + 1) r = true := due_iff.2 ⟨d1, by omega⟩
      have e1 : markR m r = toldR r := by unfold markR; rw [if_pos hd]
      have e2 : markR (m + 1) r = toldR r := by unfold markR; rw [if_pos hd2]
      have e3 : markR (m + 1) (toldR r) = toldR r := by rw [← e1]; unfold markR; rw [if_pos hd]; rfl
      have e4 : overB j.late (m + 1) (toldR r) = overB j.late (m + 1) r := rfl
      rw [keepL_cons, keepL_cons j.late (m + 1), tellL_cons, tellL_cons j.piece (m + 1), if_pos hd, if_pos hd2, e1, e2]
      by_cases ho : r.win.e + j.late ≤ m
      · rw [hov m, hov (m + 1), if_pos (decide_eq_true ho), if_pos (decide_eq_true (show r.win.e + j.late ≤ m + 1 by omega))]
        exact ⟨ih.1, .cons _ ih.2⟩
      · rw [hov m, if_neg (by rw [decide_eq_false ho]; simp), keepL_cons, tellL_cons, e4, hov (m + 1), e3, if_neg (show ¬ dueB (m + 1) (toldR r) = true by intro hc; cases hc)]
        refine ⟨?_, .cons _ ih.2⟩
        rw [ih.1]
    | false =>
      have e1 : markR m r = r := by unfold markR; rw [if_neg (by rw [hd]; simp)]
      rw [keepL_cons, keepL_cons j.late (m + 1), tellL_cons, tellL_cons j.piece (m + 1), e1, if_neg (show ¬ dueB m r = true by rw [hd]; simp)]
      by_cases ho : r.win.e + j.late ≤ m
      · have hd2 : dueB (m + 1) r = false := by
          cases hc : dueB (m + 1) r with
          | false => rfl
          | true =>
            obtain ⟨d1, d2⟩ := due_iff.1 hc
            rw [due_iff.2 ⟨d1, by omega⟩] at hd; cases hd
        rw [hov m, hov (m + 1), if_pos (decide_eq_true ho), if_pos (decide_eq_true (show r.win.e + j.late ≤ m + 1 by omega)), if_neg (show ¬ dueB (m + 1) r = true by rw [hd2]; simp)]
        exact ih
      · rw [hov m, if_neg (by rw [decide_eq_false ho]; simp), keepL_cons, tellL_cons]
        refine ⟨by rw [ih.1], ?_⟩
        cases dueB (m + 1) r with
        | true => exact List.perm_middle.trans (.cons _ ih.2)
        | false => exact ih.2
def paneSame (p q : PaneT) : Prop := p.key = q.key ∧ (p.win.s = q.win.s ∧ p.win.e = q.win.e)
theorem pane_sym {p q : PaneT} (h : ¬ paneSame p q) : ¬ paneSame q p := fun hc => h ⟨hc.1.symm, hc.2.1.symm, hc.2.2.symm⟩
def paneTab (p : PaneT) : TabT := ⟨p.key, p.win, p.agg⟩
/-- What panes of windows, each told once, tell. -/
theorem of_once (piece : Bool) : ∀ (l : List PaneT), (∀ p, p ∈ l → p.kind = 1) → l.Pairwise (fun p q => ¬ paneSame p q) → Rise (ofL piece l) ∧ ∀ t, t ∈ ofL piece l ↔ ∃ p, p ∈ l ∧ t = paneTab p := by
  refine snocInd (fun _ _ => ⟨List.Pairwise.nil, fun t => by simp [ofL]⟩) fun l p ih h1 h2 => ?_
  rw [List.pairwise_append] at h2
  obtain ⟨i1, i2⟩ := ih (fun q hq => h1 q (List.mem_append_left _ hq)) h2.1
  have hno : ∀ t, t ∈ ofL piece l → ¬ IsRow p.key p.win t := fun t ht hc => by
    obtain ⟨q, hq, rfl⟩ := (i2 t).1 ht
    exact h2.2.2 q hq p (by simp) hc
  have hk : ¬ p.kind = 3 := by rw [h1 p (by simp)]; decide
  have hf : tFind p.key p.win (ofL piece l) = none := by
    cases hc : tFind p.key p.win (ofL piece l) with
    | none => rfl
    | some a =>
      obtain ⟨r, hr, he, _⟩ := tFind_some hc
      exact absurd he (hno r hr)
  have ha : ofAgg piece (ofL piece l) p = p.agg := by
    unfold ofAgg
    split
    · rw [hf]; rfl
    · rfl
  have e : ofL piece (l ++ [p]) = tPut (paneTab p) (ofL piece l) := by
    rw [ofL_snoc]; unfold ofStep; rw [if_neg hk, ha]; rfl
  rw [e]
  refine ⟨rise_tPut i1, fun t => ?_⟩
  rw [mem_tPut]
  constructor
  · rintro (rfl | ⟨ht, _⟩)
    · exact ⟨p, by simp, rfl⟩
    · obtain ⟨q, hq, rfl⟩ := (i2 t).1 ht
      exact ⟨q, List.mem_append_left _ hq, rfl⟩
  · rintro ⟨q, hq, rfl⟩
    rcases List.mem_append.1 hq with hq | hq
    · exact .inr ⟨(i2 _).2 ⟨q, hq, rfl⟩, hno _ ((i2 _).2 ⟨q, hq, rfl⟩)⟩
    · rw [List.mem_singleton] at hq
      exact .inl (by rw [hq])
theorem of_perm {piece : Bool} {l l' : List PaneT} (hp : l.Perm l') (h1 : ∀ p, p ∈ l' → p.kind = 1) (h2 : l'.Pairwise (fun p q => ¬ paneSame p q)) : ofL piece l = ofL piece l' := by
  obtain ⟨a1, a2⟩ := of_once piece l (fun p hq => h1 p (hp.mem_iff.1 hq)) ((hp.pairwise_iff (fun {a b} h => pane_sym h)).2 h2)
  obtain ⟨b1, b2⟩ := of_once piece l' h1 h2
  refine sorted_ext ahead_irr ahead_tr a1 b1 fun t => ?_
  rw [a2, b2]
  exact ⟨fun ⟨p, hq, e⟩ => ⟨p, hp.mem_iff.1 hq, e⟩, fun ⟨p, hq, e⟩ => ⟨p, hp.mem_iff.2 hq, e⟩⟩
theorem tell_once {piece : Bool} {m : Int} {l : List RowT} (h : RiseR l) : (∀ p, p ∈ tellL piece m l → p.kind = 1) ∧ (tellL piece m l).Pairwise (fun p q => ¬ paneSame p q) := by
  refine ⟨fun p hp => ?_, ?_⟩
  · unfold tellL at hp
    obtain ⟨r, _, rfl⟩ := List.mem_map.1 hp
    rfl
  · unfold tellL
    rw [List.pairwise_map]
    refine List.Pairwise.imp (fun {a b} hab hc => ?_) (List.Pairwise.filter _ h)
    exact ra_ne hab ⟨rfl, rfl, rfl⟩ ⟨hc.1.symm, hc.2.1.symm, hc.2.2.symm⟩
/-- FnOpMarks in plain words. -/
theorem marks_two {j : JobT} {s : OpStT} {m : Int} {x z v : Int × List RowT × List PaneT} {k : Nat} {G : Nat → RowT} (hok : OpOkP j s) (hm : 0 ≤ m ∧ m < 1000) (hx : x = opMarkL j s m) (hG : Lst zRow x.2.1 k G) (hkL : k ≤ maxLen)
    (hz : z = opMarkL j ⟨x.1, ⟨k, G, hkL⟩⟩ (m + 1)) (hv : v = opMarkL j s (m + 1)) : z.1 = v.1 ∧ z.2.1 = v.2.1 ∧ x.2.2.length + z.2.2.length = v.2.2.length ∧ ofL j.piece (x.2.2 ++ z.2.2) = ofL j.piece v.2.2 := by
  have hol := okL_of hok
  have hb : ∀ r, r ∈ rowsL s → r.told ≤ 1500 := fun r hr => (hol.1 r hr).2.2.2.2.2.2.1.2
  have hmk := mark_ok (T := 1500) hok (show 0 ≤ m ∧ m ≤ 1000 by omega) (by decide) hb
  have hlen := (opMarkL_len j s m).1
  rw [← hx] at hmk hlen
  have h300 := hok.2.2.1
  have hmk0 := hok.2.1
  have hok2 : OpOkP j ⟨x.1, ⟨k, G, hkL⟩⟩ := ok_of hG hkL hok.1 (by omega) (by rw [hG.1]; omega) hmk.2.2.1
  rw [opMarkL_L hok2 (by omega), rowsL_lst hG hkL] at hz
  rw [opMarkL_L hok (by omega)] at hv hx
  have hz : z = markL j x.1 x.2.1 (m + 1) := hz
  by_cases hle : m ≤ s.mark
  · have e : x = (s.mark, rowsL s, []) := by rw [hx]; unfold markL; rw [if_pos hle]
    have ez : z = v := by rw [hz, e, hv]
    rw [ez, e]
    exact ⟨rfl, rfl, by simp, rfl⟩
  · have e : x = (m, keepL j.late m (rowsL s), tellL j.piece m (rowsL s)) := by rw [hx]; unfold markL; rw [if_neg hle]
    have ez : z = (m + 1, keepL j.late (m + 1) (keepL j.late m (rowsL s)), tellL j.piece (m + 1) (keepL j.late m (rowsL s))) := by rw [hz, e]; unfold markL; rw [if_neg (by show ¬ m + 1 ≤ m; omega)]
    have ev : v = (m + 1, keepL j.late (m + 1) (rowsL s), tellL j.piece (m + 1) (rowsL s)) := by rw [hv]; unfold markL; rw [if_neg (by omega)]
    obtain ⟨t1, t2⟩ := mark_twice hok.1 hm.2 hol.1 (show s.mark < m by omega)
    rw [ez, ev, e]
    obtain ⟨o1, o2⟩ := tell_once (piece := j.piece) (m := m + 1) hol.2.1
    refine ⟨rfl, t1, ?_, of_perm t2 o1 o2⟩
    have := t2.length_eq
    rw [List.length_append] at this
    exact this
end Go.Rk
/- The law, walked. -/
namespace Go.Rk
set_option linter.unusedSimpArgs false
set_option linter.unusedVariables false
open Go.Proofs Go.ChangeShapes Go.WideShapes Go.ChangeAt Go.RowKit
set_option maxRecDepth 100000
set_option maxHeartbeats 2000000
theorem app_args {c cz : Nat} (P Pz : Nat → PaneT) (zr : Nat → List DV) : DV.sl 9 (real.add (real.add 0 c) cz) (real.sub 0 (real.app (real.add 0 c) (real.app 0 zr fun i => ePane (P i)) fun i => ePane (Pz i))) = DV.sl 9 (c + cz) fun i => ePane (if i < c then P i else Pz (i - c)) := by
  rw [sub0r]
  have e : real.add 0 c = c := Nat.zero_add c
  rw [e]
  refine congrArg (DV.sl 9 (c + cz)) (funext fun i => ?_)
  show (if i < c then (if i < 0 then zr i else ePane (P (i - 0))) else ePane (Pz (i - c))) = _
  by_cases h : i < c
  · rw [if_pos h, if_pos h, if_neg (Nat.not_lt_zero i)]; rfl
  · rw [if_neg h, if_neg h]
theorem m_law (M0 : Nat) (b : Nat → Int) (hb : ∀ i, 0 ≤ b i ∧ b i ≤ 255) : Meets Try.prog 8 [.c (.d (.sl 1 M0 fun i => [eU (b i)]))] ⟨.one (.c (.d (eB true))), [none]⟩ := by
  refine meets_of (H := []) (EX := EXA) ttok mixed Try.func8 rfl (by kernel_rfl) (by decide) ?_
  generalize hA : real = A
  generalize hM : MeetsB Try.prog = M
  cbv
  repeat' first
    | apply And.intro
    | exact True.intro
    | with_reducible rfl
    | exact same_of hA rfl
    | refine br_of hA (fun _ => ?_) (fun _ => ?_)
    | exact imp_of hA id
    | (refine imp_of hA ?_; subst hA; simp only [real, Bool.true_and]; exact id)
    | (refine ind_of hA ?_; decide +kernel)
    | (refine call_ex hA hM (x_drawMark M0 b hb) ?_; rintro ⟨j, s, m⟩ hs; dsimp only at hs; cbv)
  have hs : s.rows.n ≤ 261 := hs
  obtain ⟨x, hx⟩ : ∃ x, x = opMarkL j s m := ⟨_, rfl⟩
  have hlen := opMarkL_len j s m
  rw [← hx] at hlen
  obtain ⟨k, G, hG⟩ := lst_ex zRow x.2.1
  obtain ⟨c, P, hP⟩ := lst_ex zPan x.2.2
  have hks : k ≤ 261 := by rw [hG.1]; exact Nat.le_trans hlen.1 hs
  have hcs : c ≤ 261 := by rw [hP.1]; exact Nat.le_trans hlen.2 hs
  have hsL : s.rows.n ≤ maxLen := s.rows.hn
  have hkL : k ≤ maxLen := Nat.le_trans hks (by decide)
  have hcL : c ≤ maxLen := Nat.le_trans hcs (by decide)
  have hI : Meets Try.prog 22 [xd (eJob j), .agg [.d (eI s.mark), .d (.sl 13 s.rows.n fun i => eRow (s.rows.g i))], .c (.d (eI m))] ⟨.tup [.agg [.d (eI x.1), .d (.sl 13 k fun i => eRow (G i))], .c (.d (.sl 9 c fun i => ePane (P i)))], [none, none, none]⟩ := meets_frz (c_OpMark j s (by omega) m x hx k G hG c P hP) rfl
  have hS : Meets Try.prog 23 [xd (eJob j), .agg [.d (eI s.mark), .d (.sl 13 s.rows.n fun i => eRow (s.rows.g i))], .c (.d (eI m))] ⟨.tup [.agg [.d (eI x.1), .d (.sl 13 k fun i => eRow (G i))], .c (.d (.sl 9 c fun i => ePane (P i)))], [none, none, none]⟩ := meets_frz (c_sOpMark j s (by omega) m x hx k G hG c P hP) rfl
  have hF := c_frOp x.1 k hkL G
  have hL := c_frPanes c hcL P
  obtain ⟨bo, hbo, hO⟩ := c_sOpOk j s
  obtain ⟨bo2, hbo2, hO2⟩ := c_OpOk j s
  have hbb : bo2 = bo := Bool.eq_iff_iff.2 (hbo2.trans hbo.symm)
  subst hbb
  have hgd : ∀ {A : Ar}, real = A → A.bite (A.bite (A.bnot bo2) true (A.cmp .lss m 0)) true (A.cmp .geq m 1000) = false → OpOkP j s ∧ (0 ≤ m ∧ m < 1000) := fun hA h => by
    subst hA
    have h : (bif (bif (!bo2) then true else decide (m < 0)) then true else decide (m ≥ 1000)) = false := h
    cases h1 : bo2 with
    | false => rw [h1] at h; cases h
    | true =>
      rw [h1] at h
      by_cases h2 : m < 0
      · rw [decide_eq_true h2] at h; cases h
      · rw [decide_eq_false h2] at h
        by_cases h3 : m ≥ 1000
        · rw [decide_eq_true h3] at h; cases h
        · exact ⟨hbo.1 h1, by omega, by omega⟩
  obtain ⟨m1, hm1⟩ : ∃ m1 : Int, m1 = m + 1 := ⟨_, rfl⟩
  obtain ⟨z, hz⟩ : ∃ z, z = opMarkL j ⟨x.1, ⟨k, G, hkL⟩⟩ m1 := ⟨_, rfl⟩
  have hzl := (opMarkL_len j ⟨x.1, ⟨k, G, hkL⟩⟩ m1)
  rw [← hz] at hzl
  have hzl : z.2.1.length ≤ k ∧ z.2.2.length ≤ k := hzl
  obtain ⟨kz, Gz, hGz⟩ := lst_ex zRow z.2.1
  obtain ⟨cz, Pz, hPz⟩ := lst_ex zPan z.2.2
  have hIz : Meets Try.prog 22 [xd (eJob j), .agg [.d (eI x.1), .d (.sl 13 k fun i => eRow (G i))], .c (.d (eI m1))] ⟨.tup [.agg [.d (eI z.1), .d (.sl 13 kz fun i => eRow (Gz i))], .c (.d (.sl 9 cz fun i => ePane (Pz i)))], [none, none, none]⟩ := meets_frz (c_OpMark j ⟨x.1, ⟨k, G, hkL⟩⟩ (show k ≤ 1080000 by omega) m1 z hz kz Gz hGz cz Pz hPz) rfl
  repeat' first
    | apply And.intro
    | exact True.intro
    | with_reducible rfl
    | exact same_of hA rfl
    | refine br_of hA (fun _ => ?_) (fun _ => ?_)
    | exact imp_of hA id
    | (refine imp_of hA ?_; subst hA; simp only [real, Bool.true_and]; exact id)
    | (refine ind_of hA ?_; decide +kernel)
    | (refine call_of hA hM _ hI ?_; cbv)
    | (refine call_of hA hM _ hS ?_; cbv)
    | (refine call_of hA hM _ hF ?_; cbv)
    | (refine call_of hA hM _ hL ?_; cbv)
    | (refine call_of hA hM _ hO ?_; cbv)
    | (refine call_of hA hM _ hO2 ?_; cbv)
    | (refine call_of hA hM _ c_frOk ?_; cbv)
    | (exfalso; rename_i h; subst hA; simp [real] at h; done)
    | (focus (clear hI hS hL hIz; subst hA; cases bo2 <;> exact rfl))
  obtain ⟨hok, hm0⟩ := hgd hA (by assumption)
  obtain ⟨v, hv⟩ : ∃ v, v = opMarkL j s m1 := ⟨_, rfl⟩
  have hvl := (opMarkL_len j s m1)
  rw [← hv] at hvl
  obtain ⟨t1, t2, t3, t4⟩ := marks_two hok hm0 hx hG hkL (show z = _ by rw [hz, hm1]) (show v = _ by rw [hv, hm1])
  obtain ⟨cv, Pv, hPv⟩ := lst_ex zPan v.2.2
  have hcz : cz ≤ 261 := by rw [hPz.1]; exact Nat.le_trans hzl.2 hks
  have hcv : cv ≤ 261 := by rw [hPv.1]; exact Nat.le_trans hvl.2 hs
  have hkz : kz ≤ maxLen := Nat.le_trans (show kz ≤ 261 by rw [hGz.1]; exact Nat.le_trans hzl.1 hks) (by decide)
  have hIv : Meets Try.prog 22 [xd (eJob j), .agg [.d (eI s.mark), .d (.sl 13 s.rows.n fun i => eRow (s.rows.g i))], .c (.d (eI m1))] ⟨.tup [.agg [.d (eI z.1), .d (.sl 13 kz fun i => eRow (Gz i))], .c (.d (.sl 9 cv fun i => ePane (Pv i)))], [none, none, none]⟩ := by
    have h := meets_frz (c_OpMark j s (by omega) m1 v hv kz Gz (by rw [← t2]; exact hGz) cv Pv hPv) rfl
    rw [← t1] at h
    exact h
  have hF2 := c_frOp z.1 kz hkz Gz
  have e9 : real.ar .add .i64 m 1 = m1 := by rw [hm1]; exact IntWalk.i64_in _ (by omega)
  have hcc : c + cz = cv := by rw [hP.1, hPz.1, hPv.1]; exact t3
  have hno : ∀ {A : Ar}, real = A → A.bite true (A.cmp .eql (A.ar .add .i64 (A.int c) (A.int cz)) (A.int cv)) false = false → False := fun hA h => by
    subst hA
    have h : (bif true then (w64 ((c : Int) + (cz : Int)) == (cv : Int)) else false) = false := h
    rw [w64_id (by omega), show (c : Int) + (cz : Int) = (cv : Int) by omega] at h
    simp at h
  obtain ⟨n0, G0, hG0⟩ := lst_ex zTab (ofL j.piece v.2.2)
  have hn0 : n0 ≤ 261 := by rw [hG0.1]; have := ofL_len j.piece v.2.2; have := hPv.1; omega
  have cO1 := c_Of (x.2.2 ++ z.2.2) (c + cz) _ (lst_app hP hPz) (by omega) j.piece n0 G0 (by rw [t4]; exact hG0)
  have cO2 := meets_frz (c_Of v.2.2 cv Pv hPv (by omega) j.piece n0 G0 hG0) rfl
  have cT := c_frTab n0 (Nat.le_trans hn0 (by decide)) G0
  repeat' first
    | exact (hno hA (by assumption)).elim
    | apply And.intro
    | exact True.intro
    | with_reducible rfl
    | exact same_of hA rfl
    | refine br_of hA (fun _ => ?_) (fun _ => ?_)
    | exact imp_of hA id
    | (refine imp_of hA ?_; subst hA; simp only [real, Bool.true_and]; exact id)
    | (refine ind_of hA ?_; decide +kernel)
    | (refine call_of hA hM _ hF2 ?_; cbv)
    | (refine call_of hA hM _ cO2 ?_; cbv)
    | (refine call_of2 hA hM _ cT (by (subst hA; first | rfl | (simp only [sub0r]; done) | (simp only [sub0r]; rfl))) ?_; cbv)
    | (refine call_of2 hA hM _ hIz (by (subst hA; (rw [← e9]); rfl)) ?_; cbv)
    | (refine call_of2 hA hM _ hIv (by (subst hA; (rw [← e9]); rfl)) ?_; cbv)
    | exact flatP hA _ _
    | exact flat_tab hA _ _
    | (subst hA; exact room_add2 rfl (show 0 + c + cz ≤ 2000000 by omega) (by decide))
    | exact room_add2 hA (by omega) (by decide)
    | (refine call_of2 hA hM _ cO1 (by (subst hA; exact congrArg (fun d => [XT.c (.d d), XT.c (.d (eB j.piece))]) (app_args P Pz (real.rep (ePane zPan))))) ?_; cbv)
  all_goals
    rename_i h
    clear cO1 cO2 cT
    subst hA
    refine congrArg (fun b => XA.one (.c (.d (eB b)))) ?_
    have h : (bif true then (w64 ((c : Int) + (cz : Int)) == (cv : Int)) else false) = true := h
    show (bif (bif true then (w64 ((c : Int) + (cz : Int)) == (cv : Int)) else false) then true else false) = true
    rw [h]; rfl
end Go.Rk
