/- The walk over this seat's functions, part 11: what each of them answers, at all data. -/
import Derived.Test.YtaceckhmclddeaaM1
import Derived.Test.YtaceckhmclddeaaM2
import Derived.Test.YtaceckhmclddeaaM3
import Derived.Test.YtaceckhmclddeaaM4
import Derived.Test.YtaceckhmclddeaaM5
import Derived.Test.YtaceckhmclddeaaM6
import Derived.Test.YtaceckhmclddeaaM7
import Derived.Test.YtaceckhmclddeaaM8
import Derived.Test.YtaceckhmclddeaaM9
import Derived.Test.YtaceckhmclddeaaM10
import Derived.Test.YtaceckhmclddeaaRows
import Derived.WalkKit
import Derived.ProofKit
import Derived.OpenShut
import Derived.ShutString
import Derived.ChangeOld
import Derived.SizedLaws
import Derived.DataShut
/- FnOpKeys and FnOpSwap in plain words. -/
namespace Go.Rk
set_option linter.unusedSimpArgs false
set_option linter.unusedVariables false
theorem lst_rows {mk : Int} {l : List RowT} {n : Nat} {G : Nat → RowT} (hL : Lst zRow l n G) (hn : n ≤ maxLen) : rowsL ⟨mk, ⟨n, G, hn⟩⟩ = l := rowsL_lst hL hn
theorem keys_law {j : JobT} {s : OpStT} {m z : ItmT} {x y b c : Int × List RowT × List PaneT × List LatT} {B : Int} (hok : OpOkP j s) (hm : RecP m) (hz : RecP z) (hne : m.key ≠ z.key) (hB : 0 ≤ B ∧ B ≤ 250) (hb : Bd B (rowsL s))
    (hx : x = opTakeL j s m) {k kb : Nat} {G Gb : Nat → RowT} (hG : Lst zRow x.2.1 k G) (hk : k ≤ maxLen) (hy : y = opTakeL j ⟨x.1, ⟨k, G, hk⟩⟩ z) (hbx : b = opTakeL j s z) (hGb : Lst zRow b.2.1 kb Gb) (hkb : kb ≤ maxLen) (hc : c = opTakeL j ⟨b.1, ⟨kb, Gb, hkb⟩⟩ m) :
    y.1 = c.1 ∧ y.2.1 = c.2.1 ∧ y.2.2.1 = b.2.2.1 ∧ c.2.2.1 = x.2.2.1 := by
  obtain ⟨x1, x2, x3, _, x5⟩ := take_stays hx hok hm (by omega) hb hG hk
  obtain ⟨b1, b2, b3, _, b5⟩ := take_stays hbx hok hz (by omega) hb hGb hkb
  obtain ⟨ky, Gy, hGy⟩ := lst_ex zRow y.2.1
  obtain ⟨kc, Gc, hGc⟩ := lst_ex zRow c.2.1
  have hyl := opTakeL_len j ⟨x.1, ⟨k, G, hk⟩⟩ z
  have hcl := opTakeL_len j ⟨b.1, ⟨kb, Gb, hkb⟩⟩ m
  rw [← hy] at hyl
  rw [← hc] at hcl
  have hky : ky ≤ maxLen := Nat.le_trans (show ky ≤ 400 by rw [hGy.1]; exact hyl.1) (by decide)
  have hkc : kc ≤ maxLen := Nat.le_trans (show kc ≤ 400 by rw [hGc.1]; exact hcl.1) (by decide)
  obtain ⟨_, y2, _, _, y5⟩ := take_stays hy x1 hz (by omega) x3 hGy hky
  obtain ⟨_, c2, _, _, c5⟩ := take_stays hc b1 hm (by omega) b3 hGc hkc
  rw [lst_rows hG hk] at y5
  rw [lst_rows hGb hkb] at c5
  have y2 : y.1 = x.1 := y2
  have c2 : c.1 = b.1 := c2
  have y5 : y.2 = takeL j x.1 z (winsL j z.t) x.2.1 := y5
  have c5 : c.2 = takeL j b.1 m (winsL j m.t) b.2.1 := c5
  rw [x2, x5] at y5
  rw [b2, b5] at c5
  obtain ⟨t1, t2, t3⟩ := take_comm (j := j) (m := s.mark) (x := m) (z := z) (wx := winsL j m.t) (wz := winsL j z.t) (rise_ok hok) hne
  refine ⟨by rw [y2, c2, x2, b2], ?_, ?_, ?_⟩
  · rw [y5, c5, t1]
  · rw [y5, t2, b5]
  · rw [c5, t3, x5]
theorem swap_law {j : JobT} {s : OpStT} {m z : ItmT} {x y b c : Int × List RowT × List PaneT × List LatT} {B : Int} (hok : OpOkP j s) (hm : RecP m) (hz : RecP z) (he : m.key = z.key) (hkd : ¬ j.kind = 3) (hB : 0 ≤ B ∧ B ≤ 250) (hb : Bd B (rowsL s))
    (hx : x = opTakeL j s m) {k kb : Nat} {G Gb : Nat → RowT} (hG : Lst zRow x.2.1 k G) (hk : k ≤ maxLen) (hy : y = opTakeL j ⟨x.1, ⟨k, G, hk⟩⟩ z) (hbx : b = opTakeL j s z) (hGb : Lst zRow b.2.1 kb Gb) (hkb : kb ≤ maxLen) (hc : c = opTakeL j ⟨b.1, ⟨kb, Gb, hkb⟩⟩ m) :
    y.1 = c.1 ∧ y.2.1 = c.2.1 ∧ c.2.2.2 = x.2.2.2 ∧ y.2.2.2 = b.2.2.2 ∧ x.2.2.1.length + y.2.2.1.length = b.2.2.1.length + c.2.2.1.length := by
  obtain ⟨x1, x2, x3, _, x5⟩ := take_stays hx hok hm (by omega) hb hG hk
  obtain ⟨b1, b2, b3, _, b5⟩ := take_stays hbx hok hz (by omega) hb hGb hkb
  obtain ⟨ky, Gy, hGy⟩ := lst_ex zRow y.2.1
  obtain ⟨kc, Gc, hGc⟩ := lst_ex zRow c.2.1
  have hyl := opTakeL_len j ⟨x.1, ⟨k, G, hk⟩⟩ z
  have hcl := opTakeL_len j ⟨b.1, ⟨kb, Gb, hkb⟩⟩ m
  rw [← hy] at hyl
  rw [← hc] at hcl
  have hky : ky ≤ maxLen := Nat.le_trans (show ky ≤ 400 by rw [hGy.1]; exact hyl.1) (by decide)
  have hkc : kc ≤ maxLen := Nat.le_trans (show kc ≤ 400 by rw [hGc.1]; exact hcl.1) (by decide)
  obtain ⟨_, y2, _, _, y5⟩ := take_stays hy x1 hz (by omega) x3 hGy hky
  obtain ⟨_, c2, _, _, c5⟩ := take_stays hc b1 hm (by omega) b3 hGc hkc
  rw [lst_rows hG hk] at y5
  rw [lst_rows hGb hkb] at c5
  have y2 : y.1 = x.1 := y2
  have c2 : c.1 = b.1 := c2
  have y5 : y.2 = takeL j x.1 z (winsL j z.t) x.2.1 := y5
  have c5 : c.2 = takeL j b.1 m (winsL j m.t) b.2.1 := c5
  rw [x2, x5] at y5
  rw [b2, b5] at c5
  have hol := okL_of hok
  obtain ⟨t1, t2, t3, t4⟩ := take_swap (j := j) (m := s.mark) (x := m) (z := z) hkd hok.1 (rise_ok hok) he fun r hr => ⟨aggOk_n (hol.1 r hr).2.2.1, aggOk_n (hol.1 r hr).2.2.2.1⟩
  refine ⟨by rw [y2, c2, x2, b2], ?_, ?_, ?_, ?_⟩
  · rw [y5, c5, t1]
  · rw [c5, t3, x5]
  · rw [y5, t2, b5]
  · rw [x5, y5, b5, c5]; exact t4
end Go.Rk
/- The law, walked. -/
namespace Go.Rk
set_option linter.unusedSimpArgs false
set_option linter.unusedVariables false
open Go.Proofs Go.ChangeShapes Go.WideShapes Go.ChangeAt Go.RowKit
set_option maxRecDepth 100000
set_option maxHeartbeats 2000000
def st_ky (j : JobT) (s : OpStT) (m : ItmT) (mk : Int) (k : Nat) (G : Nat → RowT) (c : Nat) (P : Nat → PaneT) (i : Nat) : St := ⟨[(12, .c (.d (eI i))), (7, .c (.d (.sl 9 c fun i => ePane (P i)))), (6, .c (.bp 384 1 0)), (5, .c (.bp 320 1 0)), (4, .c (.bp 256 1 0)), (3, .c (.bp 192 1 0))], [(384, 1, .box [.d (eI mk), .d (.sl 13 k fun i => eRow (G i))]), (320, 1, .box ((eItm m).map .d)), (256, 1, .box [.d (eI s.mark), .d (.sl 13 s.rows.n fun i => eRow (s.rows.g i))]), (192, 1, .box ((eJob j).map .d))]⟩
theorem m_law (M0 : Nat) (b : Nat → Int) (hb : ∀ i, 0 ≤ b i ∧ b i ≤ 255) : Meets Try.prog 10 [.c (.d (.sl 1 M0 fun i => [eU (b i)]))] ⟨.one (.c (.d (eB true))), [none]⟩ := by
  refine meets_of (H := []) (EX := EXA) ttok mixed Try.func10 rfl (by kernel_rfl) (by decide) ?_
  generalize hA : real = A
  generalize hM : MeetsB Try.prog = M
  cbv
  repeat' first
    | apply And.intro
    | exact True.intro
    | with_reducible rfl
    | exact same_of hA rfl
    | refine br_of hA (fun _ => ?_) (fun _ => ?_)
    | exact imp_of hA id
    | (refine imp_of hA ?_; subst hA; simp only [real, Bool.true_and]; exact id)
    | (refine ind_of hA ?_; decide +kernel)
    | (refine call_ex hA hM (x2_drawTake M0 b hb) ?_; rintro ⟨j, s, m⟩ hs; dsimp only at hs; cbv)
  obtain ⟨hs, hbd⟩ := hs
  have hs : s.rows.n ≤ 261 := hs
  have hsL : s.rows.n ≤ maxLen := s.rows.hn
  obtain ⟨x, hx⟩ : ∃ x, x = opTakeL j s m := ⟨_, rfl⟩
  have hlen := opTakeL_len j s m
  rw [← hx] at hlen
  obtain ⟨k, G, hG⟩ := lst_ex zRow x.2.1
  obtain ⟨c, P, hP⟩ := lst_ex zPan x.2.2.1
  obtain ⟨d, Q, hQ⟩ := lst_ex zLat x.2.2.2
  have hks : k ≤ 400 := by rw [hG.1]; exact hlen.1
  have hcs : c ≤ 40000 := by rw [hP.1]; exact hlen.2.1
  have hds : d ≤ 100 := by rw [hQ.1]; exact hlen.2.2
  have hkL : k ≤ maxLen := Nat.le_trans hks (by decide)
  have hcL : c ≤ maxLen := Nat.le_trans hcs (by decide)
  have hdL : d ≤ maxLen := Nat.le_trans hds (by decide)
  have hI : Meets Try.prog 48 [xd (eJob j), .agg [.d (eI s.mark), .d (.sl 13 s.rows.n fun i => eRow (s.rows.g i))], xd (eItm m)] ⟨.tup [.agg [.d (eI x.1), .d (.sl 13 k fun i => eRow (G i))], .c (.d (.sl 9 c fun i => ePane (P i))), .c (.d (.sl 7 d fun i => eLat (Q i)))], [none, none, none]⟩ := meets_frz (c_OpTake j s (by omega) m x hx k G hG c P hP d Q hQ) rfl
  have hS : Meets Try.prog 49 [xd (eJob j), .agg [.d (eI s.mark), .d (.sl 13 s.rows.n fun i => eRow (s.rows.g i))], xd (eItm m)] ⟨.tup [.agg [.d (eI x.1), .d (.sl 13 k fun i => eRow (G i))], .c (.d (.sl 9 c fun i => ePane (P i))), .c (.d (.sl 7 d fun i => eLat (Q i)))], [none, none, none]⟩ := c_sOpTake j s (by omega) m x hx k G hG c P hP d Q hQ
  have hF := c_frOp x.1 k hkL G
  have hPn := c_frPanes c hcL P
  have hL := c_frLates d hdL Q
  obtain ⟨bo, hbo, hO⟩ := c_sOpOk j s
  obtain ⟨bi, hbi, hItm⟩ := c_sItmOkP m
  have hbad : ∀ {A : Ar}, real = A → A.bite (A.bite (A.bnot bo) true (A.cmp .neq m.kind 1)) true (A.bnot bi) = true → x.1 = 0 ∧ k = 0 ∧ c = 0 ∧ d = 0 := fun hA h => by
    have hn : ¬ (OpOkP j s ∧ RecP m ∧ s.rows.n ≤ 280) := fun hn => by
      subst hA
      have h : (bif (bif (!bo) then true else (m.kind != 1)) then true else (!bi)) = true := h
      rw [hbo.2 hn.1, hbi.2 hn.2.1.2, hn.2.1.1] at h
      cases h
    have e : x = (0, [], [], []) := by rw [hx]; exact opTakeL_bad hn
    exact ⟨by rw [e], by rw [hG.1, e]; rfl, by rw [hP.1, e]; rfl, by rw [hQ.1, e]; rfl⟩
  have hgood : ∀ {A : Ar}, real = A → A.bite (A.bite (A.bnot bo) true (A.cmp .neq m.kind 1)) true (A.bnot bi) = false → OpOkP j s ∧ RecP m := fun hA h => by
    subst hA
    have h : (bif (bif (!bo) then true else (m.kind != 1)) then true else (!bi)) = false := h
    cases h1 : bo with
    | false => rw [h1] at h; cases h
    | true =>
      rw [h1] at h
      cases h2 : (m.kind != 1) with
      | true => rw [h2] at h; cases h
      | false =>
        rw [h2] at h
        cases h3 : bi with
        | false => rw [h3] at h; cases h
        | true => exact ⟨hbo.1 h1, by simpa using h2, hbi.1 h3⟩
  obtain ⟨bo3, hbo3, hO3⟩ := c_OpOk j s
  have hbb : bo3 = bo := Bool.eq_iff_iff.2 (hbo3.trans hbo.symm)
  subst hbb
  repeat' first
    | apply And.intro
    | exact True.intro
    | with_reducible rfl
    | exact same_of hA rfl
    | refine br_of hA (fun _ => ?_) (fun _ => ?_)
    | exact imp_of hA id
    | (refine imp_of hA ?_; subst hA; simp only [real, Bool.true_and]; exact id)
    | (refine ind_of hA ?_; decide +kernel)
    | (refine call_of hA hM _ hI ?_; cbv)
    | (refine call_of hA hM _ hS ?_; cbv)
    | (refine call_of hA hM _ hF ?_; cbv)
    | (refine call_of hA hM _ hPn ?_; cbv)
    | (refine call_of hA hM _ hO ?_; cbv)
    | (refine call_of hA hM _ hItm ?_; cbv)
    | (refine call_of hA hM _ hO3 ?_; cbv)
    | (refine call_of hA hM _ c_frOk ?_; cbv)
    | (refine nz_of hA ?_; decide)
    | (exfalso; rename_i h; subst hA; simp [real] at h; done)
    | (focus (clear hI hS hPn hL hO; subst hA; cases bo3 <;> exact rfl))
  obtain ⟨hok, hr⟩ := hgood hA (by assumption)
  have hrr := hr.2
  have hrk := hr.1
  unfold ItmOkP at hrr
  have hB := hbd hok
  obtain ⟨zk, hzk⟩ : ∃ v : Int, v = (m.key + 1).tmod 4 := ⟨_, rfl⟩
  have hzk2 : 0 ≤ zk ∧ zk ≤ 3 ∧ m.key ≠ zk := by
    rw [hzk]
    have h1 : m.key = 0 ∨ m.key = 1 ∨ m.key = 2 ∨ m.key = 3 := by omega
    rcases h1 with e | e | e | e <;> rw [e] <;> decide
  have e9 : real.ar .rem .i64 (real.ar .add .i64 m.key 1) 4 = zk := by
    rw [hzk]
    show (IntKind.i64.wrap (m.key + 1)).tmod 4 = _
    rw [IntWalk.i64_in _ (by omega)]
  obtain ⟨z, hz⟩ : ∃ z : ItmT, z = ⟨m.kind, m.t, zk, m.v, m.n⟩ := ⟨_, rfl⟩
  have hzr : RecP z := by
    refine ⟨by rw [hz]; exact hrk, ?_⟩
    unfold ItmOkP; rw [hz]
    exact .inl ⟨hrk, by show 0 ≤ m.t ∧ m.t ≤ 60; omega, by show 0 ≤ zk ∧ zk ≤ 3; omega, by show -9 ≤ m.v ∧ m.v ≤ 9; omega, by show m.n = 0; omega⟩
  have hzne : m.key ≠ z.key := by rw [hz]; exact hzk2.2.2
  obtain ⟨y1, hy1⟩ : ∃ y, y = opTakeL j ⟨x.1, ⟨k, G, hkL⟩⟩ z := ⟨_, rfl⟩
  obtain ⟨b1, hb1⟩ : ∃ y, y = opTakeL j s z := ⟨_, rfl⟩
  have hlenb := opTakeL_len j s z
  rw [← hb1] at hlenb
  obtain ⟨kb, Gb, hGb⟩ := lst_ex zRow b1.2.1
  obtain ⟨cb, Pb, hPb⟩ := lst_ex zPan b1.2.2.1
  obtain ⟨db, Qb, hQb⟩ := lst_ex zLat b1.2.2.2
  have hksb : kb ≤ 400 := by rw [hGb.1]; exact hlenb.1
  have hcsb : cb ≤ 40000 := by rw [hPb.1]; exact hlenb.2.1
  have hdsb : db ≤ 100 := by rw [hQb.1]; exact hlenb.2.2
  have hkLb : kb ≤ maxLen := Nat.le_trans hksb (by decide)
  have hcLb : cb ≤ maxLen := Nat.le_trans hcsb (by decide)
  have hdLb : db ≤ maxLen := Nat.le_trans hdsb (by decide)
  obtain ⟨c1, hc1⟩ : ∃ y, y = opTakeL j ⟨b1.1, ⟨kb, Gb, hkLb⟩⟩ m := ⟨_, rfl⟩
  have hleny := opTakeL_len j ⟨x.1, ⟨k, G, hkL⟩⟩ z
  rw [← hy1] at hleny
  obtain ⟨ky, Gy, hGy⟩ := lst_ex zRow y1.2.1
  obtain ⟨cy, Py, hPy⟩ := lst_ex zPan y1.2.2.1
  obtain ⟨dy, Qy, hQy⟩ := lst_ex zLat y1.2.2.2
  have hksy : ky ≤ 400 := by rw [hGy.1]; exact hleny.1
  have hcsy : cy ≤ 40000 := by rw [hPy.1]; exact hleny.2.1
  have hdsy : dy ≤ 100 := by rw [hQy.1]; exact hleny.2.2
  have hkLy : ky ≤ maxLen := Nat.le_trans hksy (by decide)
  have hcLy : cy ≤ maxLen := Nat.le_trans hcsy (by decide)
  have hdLy : dy ≤ maxLen := Nat.le_trans hdsy (by decide)
  have hlenc := opTakeL_len j ⟨b1.1, ⟨kb, Gb, hkLb⟩⟩ m
  rw [← hc1] at hlenc
  obtain ⟨kc, Gc, hGc⟩ := lst_ex zRow c1.2.1
  obtain ⟨cc, Pc, hPc⟩ := lst_ex zPan c1.2.2.1
  obtain ⟨dc, Qc, hQc⟩ := lst_ex zLat c1.2.2.2
  have hksc : kc ≤ 400 := by rw [hGc.1]; exact hlenc.1
  have hcsc : cc ≤ 40000 := by rw [hPc.1]; exact hlenc.2.1
  have hdsc : dc ≤ 100 := by rw [hQc.1]; exact hlenc.2.2
  have hkLc : kc ≤ maxLen := Nat.le_trans hksc (by decide)
  have hcLc : cc ≤ maxLen := Nat.le_trans hcsc (by decide)
  have hdLc : dc ≤ maxLen := Nat.le_trans hdsc (by decide)
  obtain ⟨t1, t2, t3, t4⟩ := keys_law (B := 130) hok hr hzr hzne (by decide) hB hx hG hkL hy1 hb1 hGb hkLb hc1
  have hIy : Meets Try.prog 48 [xd (eJob j), .agg [.d (eI x.1), .d (.sl 13 k fun i => eRow (G i))], xd (eItm z)] ⟨.tup [.agg [.d (eI y1.1), .d (.sl 13 ky fun i => eRow (Gy i))], .c (.d (.sl 9 cb fun i => ePane (Pb i))), .c (.d (.sl 7 dy fun i => eLat (Qy i)))], [none, none, none]⟩ := meets_frz (c_OpTake j ⟨x.1, ⟨k, G, hkL⟩⟩ (show k ≤ 1080000 by omega) z y1 hy1 ky Gy hGy cb Pb (by rw [t3]; exact hPb) dy Qy hQy) rfl
  have hIb : Meets Try.prog 48 [xd (eJob j), .agg [.d (eI s.mark), .d (.sl 13 s.rows.n fun i => eRow (s.rows.g i))], xd (eItm z)] ⟨.tup [.agg [.d (eI b1.1), .d (.sl 13 kb fun i => eRow (Gb i))], .c (.d (.sl 9 cb fun i => ePane (Pb i))), .c (.d (.sl 7 db fun i => eLat (Qb i)))], [none, none, none]⟩ := meets_frz (c_OpTake j s (by omega) z b1 hb1 kb Gb hGb cb Pb hPb db Qb hQb) rfl
  have hIc : Meets Try.prog 48 [xd (eJob j), .agg [.d (eI b1.1), .d (.sl 13 kb fun i => eRow (Gb i))], xd (eItm m)] ⟨.tup [.agg [.d (eI y1.1), .d (.sl 13 ky fun i => eRow (Gy i))], .c (.d (.sl 9 c fun i => ePane (P i))), .c (.d (.sl 7 dc fun i => eLat (Qc i)))], [none, none, none]⟩ := by
    have h := meets_frz (c_OpTake j ⟨b1.1, ⟨kb, Gb, hkLb⟩⟩ (show kb ≤ 1080000 by omega) m c1 hc1 ky Gy (by rw [← t2]; exact hGy) c P (by rw [t4]; exact hP) dc Qc hQc) rfl
    rw [← t1] at h
    exact h
  rw [hz] at hIy hIb
  have hFy := c_frOp y1.1 ky hkLy Gy
  have hPb2 := c_frPanes cb hcLb Pb
  refine loop_of hA (α := { i : Nat // i ≤ s.rows.n }) (fun y => st_ky j s m x.1 k G c P y.1) (fun y => s.rows.n - y.1) ⟨0, Nat.zero_le _⟩ ?_ ?_
  · refine cov_of ?_ ?_ ?_
    · (subst hA; (repeat' first | exact True.intro | exact rfl | apply And.intro))
    · (subst hA; (repeat' first | exact True.intro | exact rfl | apply And.intro | (intro _ _; first | rfl | trivial)))
    · (subst hA; (repeat' first | exact True.intro | exact rfl | apply And.intro | exact .inl rfl | exact .inr (le_of_nble rfl)))
  rintro ⟨i, hi⟩
  have hi : i ≤ s.rows.n := hi
  obtain ⟨r, hrw⟩ : ∃ r, r = (rFind (s.rows.g i).key (s.rows.g i).win x.2.1).getD zRow := ⟨_, rfl⟩
  obtain ⟨bb, hbb⟩ : ∃ bb, bb = (rFind (s.rows.g i).key (s.rows.g i).win x.2.1).isSome := ⟨_, rfl⟩
  have cF1 := c_OpFindR x.1 x.2.1 k G hG (by omega) (s.rows.g i).key (s.rows.g i).win r hrw bb hbb
  have hkeep : i < s.rows.n → (s.rows.g i).key ≠ m.key → bb = true ∧ r = s.rows.g i := fun h1 h2 => by
    have e := (take_stays (B := 130) hx hok hr (by decide) hB hG hkL).2.2.2.2
    have h3 := take_keeps (j := j) (m := s.mark) (x := m) (ws := winsL j m.t) (rise_ok hok) (r := s.rows.g i) (List.mem_map.2 ⟨i, List.mem_range.2 h1, rfl⟩) h2
    rw [← e] at h3
    exact ⟨by rw [hbb, h3]; rfl, by rw [hrw, h3]; rfl⟩
  have hne9 : ∀ {A : Ar}, real = A → A.cmp .neq (s.rows.g (A.nat (Int.ofNat i))).key m.key = true → (s.rows.g i).key ≠ m.key := fun hA h => by
    subst hA
    have h : ((s.rows.g i).key != m.key) = true := h
    simpa using h
  cbv
  repeat' first
    | apply And.intro
    | exact True.intro
    | with_reducible rfl
    | exact same_of hA rfl
    | refine br_of hA (fun _ => ?_) (fun _ => ?_)
    | exact imp_of hA id
    | (refine imp_of hA ?_; subst hA; simp only [real, Bool.true_and]; exact id)
    | (refine ind_of hA ?_; decide +kernel)
    | (refine call_of hA hM _ hIc ?_; cbv)
    | (refine call_of hA hM _ hFy ?_; cbv)
    | (refine call_of hA hM _ hPb2 ?_; cbv)
    | (refine call_of hA hM _ hPn ?_; cbv)
    | (refine nz_of hA ?_; decide)
    | (refine call_of2 hA hM _ cF1 (by (subst hA; first | rfl | (simp only [sub0r]; done) | (simp only [sub0r]; rfl))) ?_; cbv)
    | (refine inb_lt hA ?_; first | exact lt2_of hA (by assumption) | exact lt_of hA (by assumption))
    | (refine call_of2 hA hM _ hIy (by (subst hA; (rw [← e9]); rfl)) ?_; cbv)
    | (refine call_of2 hA hM _ hIb (by (subst hA; (rw [← e9]); rfl)) ?_; cbv)
    | (refine inb_of hA (fun _ => ?_); have hlt9 : i < s.rows.n := (by first | exact lt2_of hA (by assumption) | exact lt_of hA (by assumption)); exact ⟨Int.natCast_nonneg i, Int.ofNat_lt.2 hlt9⟩)
    | (focus (subst hA; exact rfl))
  · exfalso
    rename_i hlt hd h
    have hlt' : i < s.rows.n := by first | exact lt2_of hA hlt | exact lt_of hA hlt
    obtain ⟨g1, g2⟩ := hkeep hlt' (hne9 hA hd)
    clear cF1
    subst hA
    have h : (bif (!bb) then true else (!((r.key == (s.rows.g i).key) && ((r.win.s == (s.rows.g i).win.s) && ((r.win.e == (s.rows.g i).win.e) && ((r.all.n == (s.rows.g i).all.n) && ((r.all.sum == (s.rows.g i).all.sum) && ((r.all.least == (s.rows.g i).all.least) && ((r.all.most == (s.rows.g i).all.most) && ((r.fresh.n == (s.rows.g i).fresh.n) && ((r.fresh.sum == (s.rows.g i).fresh.sum) && ((r.fresh.least == (s.rows.g i).fresh.least) && ((r.fresh.most == (s.rows.g i).fresh.most) && ((r.told == (s.rows.g i).told) && ((r.timely == (s.rows.g i).timely) && true))))))))))))))) = true := h
    rw [g2, g1] at h
    simp at h
  · rename_i hlt hd h
    have hlt' : i < s.rows.n := by first | exact lt2_of hA hlt | exact lt_of hA hlt
    refine ⟨⟨i + 1, hlt'⟩, by simp only; omega, cov_of ?_ ?_ ?_⟩
    · (subst hA; (repeat' first | exact True.intro | exact rfl | exact congrArg (fun x => DV.v (.int .i64 x)) (up64 hlt' hsL) | apply And.intro))
    · (subst hA; (repeat' first | exact True.intro | exact rfl | apply And.intro | (intro _ _; first | rfl | trivial)))
    · (subst hA; (repeat' first | exact True.intro | exact rfl | apply And.intro | exact .inl rfl | exact .inr (le_of_nble rfl)))
  · rename_i hlt hd
    have hlt' : i < s.rows.n := by first | exact lt2_of hA hlt | exact lt_of hA hlt
    refine ⟨⟨i + 1, hlt'⟩, by simp only; omega, cov_of ?_ ?_ ?_⟩
    · (subst hA; (repeat' first | exact True.intro | exact rfl | exact congrArg (fun x => DV.v (.int .i64 x)) (up64 hlt' hsL) | apply And.intro))
    · (subst hA; (repeat' first | exact True.intro | exact rfl | apply And.intro | (intro _ _; first | rfl | trivial)))
    · (subst hA; (repeat' first | exact True.intro | exact rfl | apply And.intro | exact .inl rfl | exact .inr (le_of_nble rfl)))
end Go.Rk
