/- The walk over this seat's functions, part 9: what each of them answers, at all data. -/
import Derived.Test.YtaceckhmclddeaaM1
import Derived.Test.YtaceckhmclddeaaM2
import Derived.Test.YtaceckhmclddeaaM3
import Derived.Test.YtaceckhmclddeaaM4
import Derived.Test.YtaceckhmclddeaaM5
import Derived.Test.YtaceckhmclddeaaM6
import Derived.Test.YtaceckhmclddeaaM7
import Derived.Test.YtaceckhmclddeaaM8
import Derived.Test.YtaceckhmclddeaaRows
import Derived.WalkKit
import Derived.ProofKit
import Derived.OpenShut
import Derived.ShutString
import Derived.ChangeOld
import Derived.SizedLaws
import Derived.DataShut
/- What panes tell, whether they have all or but what is new. -/
namespace Go.Rk
set_option linter.unusedSimpArgs false
set_option linter.unusedVariables false
def RT (r : RowT) : TabT := ⟨r.key, r.win, r.all⟩
/-- What was told of a row, and what is new, are all that is known. -/
def GoodR (T : List TabT) (r : RowT) : Prop :=
  (r.told = 0 ∧ r.fresh = r.all ∧ tFind r.key r.win T = none) ∨ (0 < r.told ∧ ∃ a, tFind r.key r.win T = some a ∧ (1 ≤ a.n ∧ a.n ≤ 1000) ∧ aggB a r.fresh = r.all)
structure TInv (late m : Int) (l : List RowT) (T : List TabT) : Prop where
  rise : Rise T
  good : ∀ r, r ∈ l → GoodR T r
  cov : ∀ t, t ∈ T → (∃ r, r ∈ l ∧ IsR t.key t.win r) ∨ t.win.e + late ≤ m
def putR (T : List TabT) (r : RowT) : List TabT := tPut (RT r) T
theorem told_step {piece : Bool} {T : List TabT} {r : RowT} {kind : Int} (h : GoodR T r) (hk : ¬ kind = 3) : ofStep piece T (paneP piece r kind) = putR T r := by
  unfold ofStep
  rw [if_neg (show ¬ (paneP piece r kind).kind = 3 from hk)]
  have e : ofAgg piece T (paneP piece r kind) = r.all := by
    unfold ofAgg
    cases piece with
    | false => rw [if_neg (by simp)]; rfl
    | true =>
      rw [if_pos rfl]
      show aggB ((tFind r.key r.win T).getD zAgg) r.fresh = r.all
      rcases h with ⟨_, h2, h3⟩ | ⟨_, a, h2, _, h3⟩
      · rw [h3]; exact h2
      · rw [h2]; exact h3
  rw [e]; rfl
def tellT (m : Int) (T : List TabT) (r : RowT) : List TabT := if m < r.win.e then T else putR T r
theorem kindT_ne (r : RowT) : ¬ kindT r = 3 := by unfold kindT; split <;> decide
theorem tellS_T {j : JobT} {m : Int} {T : List TabT} {r : RowT} (h : GoodR T r) : (tellS j m r).2.foldl (ofStep j.piece) T = tellT m T r := by
  unfold tellS tellT
  split
  · rfl
  · exact told_step h (kindT_ne r)
def outR (T : List TabT) (r : RowT) : List TabT := tOut r.key r.win T
theorem gone_T (piece : Bool) : ∀ (l : List RowT) (T : List TabT), (goneL l).foldl (ofStep piece) T = (l.filter fun r => decide (0 < r.told)).foldl outR T
  | [], T => rfl
  | r :: l, T => by
    unfold goneL
    rw [List.filter_cons]
    cases h : decide (0 < r.told) with
    | false => exact gone_T piece l T
    | true => exact gone_T piece l (outR T r)
theorem aggB_assoc {a f : AggT} {v : Int} (ha : 1 ≤ a.n ∧ a.n ≤ 1000) (hf : 0 ≤ f.n ∧ f.n ≤ 1000) : aggB a (aggAdd f v) = aggAdd (aggB a f) v := by
  unfold aggAdd
  by_cases h : f.n = 0
  · have e1 : aggB f (agg1 v) = agg1 v := by unfold aggB; rw [if_pos h]
    have e2 : aggB a f = a := by unfold aggB; rw [if_neg (by omega), if_pos h]
    rw [e1, e2]
  · obtain ⟨an, az, al, am⟩ := a
    obtain ⟨fn, fs, fl, fm⟩ := f
    simp only at ha hf h
    have w1 : w64 (fn + 1) = fn + 1 := w64_id (by omega)
    have w2 : w64 (an + fn) = an + fn := w64_id (by omega)
    unfold aggB agg1
    simp only [if_neg h, show ¬ (1 : Int) = 0 by decide, if_false, w1, show ¬ an = 0 by omega, show ¬ fn + 1 = 0 by omega, w2, show ¬ an + fn = 0 by omega]
    refine AggT.mk.injEq .. ▸ ⟨?_, ?_, ?_, ?_⟩
    · rw [show an + (fn + 1) = an + fn + 1 by omega]
    · unfold w64; simp only [IntKind.wrap_i64]; omega
    · split <;> split <;> (try split) <;> (try split) <;> omega
    · split <;> split <;> (try split) <;> (try split) <;> omega
theorem aggB_zr {a : AggT} (h : 1 ≤ a.n) : aggB a zAgg = a := by
  unfold aggB; rw [if_neg (by omega), if_pos (show zAgg.n = 0 from rfl)]
theorem good_add {T : List TabT} {r : RowT} {v : Int} (h : GoodR T r) (hf : 0 ≤ r.fresh.n ∧ r.fresh.n ≤ 1000) : GoodR T (addR r v) := by
  rcases h with ⟨h1, h2, h3⟩ | ⟨h1, a, h2, h3, h4⟩
  · refine .inl ⟨h1, ?_, h3⟩
    show aggAdd r.fresh v = aggAdd r.all v
    rw [h2]
  · refine .inr ⟨h1, a, h2, h3, ?_⟩
    show aggB a (aggAdd r.fresh v) = aggAdd r.all v
    rw [aggB_assoc h3 hf, h4]
theorem good_told {T : List TabT} {r : RowT} (ht : 0 ≤ r.told ∧ r.told ≤ 1500) (hn : 1 ≤ r.all.n ∧ r.all.n ≤ 1000) : GoodR (putR T r) (toldR r) := by
  refine .inr ⟨?_, r.all, tFind_put_same (RT r) T, hn, aggB_zr hn.1⟩
  show 0 < w64 (r.told + 1)
  rw [w64_id (by omega)]; omega
theorem good_other {T : List TabT} {r q : RowT} (h : GoodR T r) (hn : ¬ IsR r.key r.win q) : GoodR (putR T q) r := by
  have e : tFind r.key r.win (putR T q) = tFind r.key r.win T := tFind_put_other (r := RT q) hn T
  unfold GoodR
  rw [e]; exact h
theorem tell_TI {late m : Int} {j : JobT} {l : List RowT} {T : List TabT} {r : RowT} (hT : Rise T) (ho : ∀ q, q ∈ l → ¬ IsR r.key r.win q → GoodR T q) (hc : ∀ t, t ∈ T → (∃ q, q ∈ l ∧ IsR t.key t.win q) ∨ IsRow r.key r.win t ∨ t.win.e + late ≤ m) (hg : GoodR T r) (ht : 0 ≤ r.told ∧ r.told ≤ 1500) (hn : 1 ≤ r.all.n ∧ r.all.n ≤ 1000) :
    TInv late m (rPut (tellS j m r).1 l) (tellT m T r) := by
  obtain ⟨_, e2, e3⟩ := tellS_all j m r
  have hR : ∀ q, IsR (tellS j m r).1.key (tellS j m r).1.win q ↔ IsR r.key r.win q := fun q => by rw [e2, e3]
  have hself : IsR r.key r.win (tellS j m r).1 := ⟨e2, by rw [e3], by rw [e3]⟩
  have hcov : ∀ t : TabT, ((∃ q, q ∈ l ∧ IsR t.key t.win q) ∨ IsRow r.key r.win t) → ∃ q, q ∈ rPut (tellS j m r).1 l ∧ IsR t.key t.win q := fun t h => by
    have hs : ∀ h : IsRow r.key r.win t, ∃ q, q ∈ rPut (tellS j m r).1 l ∧ IsR t.key t.win q := fun h => ⟨_, mem_rPut.2 (.inl rfl), by unfold IsR at *; unfold IsRow at h; omega⟩
    rcases h with ⟨q, hq, hi⟩ | h
    · by_cases hb : IsR r.key r.win q
      · exact hs (by unfold IsRow; unfold IsR at *; omega)
      · exact ⟨q, mem_rPut.2 (.inr ⟨hq, fun hx => hb ((hR q).1 hx)⟩), hi⟩
    · exact hs h
  by_cases hm : m < r.win.e
  · have e : tellT m T r = T := by unfold tellT; rw [if_pos hm]
    have e1 : (tellS j m r).1 = r := by unfold tellS; rw [if_pos hm]
    rw [e]
    refine ⟨hT, fun q hq => ?_, fun t ht => ?_⟩
    · rcases mem_rPut.1 hq with rfl | ⟨hq, hb⟩
      · rw [e1]; exact hg
      · exact ho q hq fun hx => hb ((hR q).2 hx)
    · rcases hc t ht with h | h | h
      · exact .inl (hcov t (.inl h))
      · exact .inl (hcov t (.inr h))
      · exact .inr h
  · have e : tellT m T r = putR T r := by unfold tellT; rw [if_neg hm]
    have e1 : (tellS j m r).1 = toldR r := by unfold tellS; rw [if_neg hm]
    rw [e]
    refine ⟨rise_tPut hT, fun q hq => ?_, fun t ht => ?_⟩
    · rcases mem_rPut.1 hq with rfl | ⟨hq, hb⟩
      · rw [e1]; exact good_told ht hn
      · have hb2 : ¬ IsR r.key r.win q := fun hx => hb ((hR q).2 hx)
        exact good_other (ho q hq hb2) fun hx => hb2 (by unfold IsR at *; omega)
    · rcases mem_tPut.1 ht with rfl | ⟨ht, _⟩
      · exact .inl (hcov _ (.inr ⟨rfl, rfl, rfl⟩))
      · rcases hc t ht with h | h | h
        · exact .inl (hcov t (.inl h))
        · exact .inl (hcov t (.inr h))
        · exact .inr h
def intoT (m k v : Int) (w : WinT) (l : List RowT) (T : List TabT) : List TabT := tellT m T (addR ((rFind k w l).getD (nrow k w)) v)
/-- A value put into a window. -/
theorem into_TI {j : JobT} {m k v : Int} {w : WinT} {l : List RowT} {T : List TabT} {q : List RowT × List PaneT} (hT : TInv j.late m l T) (h : ∀ r, r ∈ l → RowOkP j r m ∧ r.all.n ≤ 999) (hlw : w64 (w.e + j.late) = w.e + j.late) (he : intoL j m k v w l = some q) :
    q.2.foldl (ofStep j.piece) T = intoT m k v w l T ∧ TInv j.late m q.1 (intoT m k v w l T) := by
  unfold intoL at he
  split at he
  · cases he
  · rename_i hm
    rw [hlw] at hm
    cases he
    obtain ⟨r0, hr0⟩ : ∃ r0, r0 = (rFind k w l).getD (nrow k w) := ⟨_, rfl⟩
    unfold intoT
    rw [← hr0]
    have hkw : IsR k w r0 := by rw [hr0]; exact getD_is
    obtain ⟨ek, ew⟩ := isR_eq hkw
    have hb : GoodR T (addR r0 v) ∧ (0 ≤ r0.told ∧ r0.told ≤ 1500) ∧ (1 ≤ (addR r0 v).all.n ∧ (addR r0 v).all.n ≤ 1000) := by
      cases hf : rFind k w l with
      | some r =>
        rw [hf] at hr0
        have hr0 : r0 = r := hr0
        obtain ⟨h1, _⟩ := rfind_mem hf
        obtain ⟨h2, h3⟩ := h r h1
        have n1 := rowOk_n h2
        have n2 := aggOk_n h2.2.2.2.1
        rw [hr0]
        have e : (aggAdd r.all v).n = r.all.n + 1 := add_n (by omega)
        refine ⟨good_add (hT.good r h1) n2, h2.2.2.2.2.2.2.1, ?_⟩
        show 1 ≤ (aggAdd r.all v).n ∧ (aggAdd r.all v).n ≤ 1000
        rw [e]; omega
      | none =>
        rw [hf] at hr0
        have hr0 : r0 = nrow k w := hr0
        rw [hr0]
        refine ⟨.inl ⟨rfl, rfl, ?_⟩, ⟨Int.le_refl _, (by decide : (0 : Int) ≤ 1500)⟩, (by decide : (1 : Int) ≤ 1), (by decide : (1 : Int) ≤ 1000)⟩
        show tFind k w T = none
        cases hc : tFind k w T with
        | none => rfl
        | some a =>
          obtain ⟨t, ht, hi, _⟩ := tFind_some hc
          rcases hT.cov t ht with ⟨r, hr, hri⟩ | hcl
          · exact absurd (show IsR k w r by unfold IsR at *; unfold IsRow at hi; omega) (rfind_no hf hr)
          · unfold IsRow at hi; omega
    refine ⟨tellS_T hb.1, tell_TI hT.rise (fun q hq _ => hT.good q hq) (fun t ht => (hT.cov t ht).imp id .inr) hb.1 hb.2.1 hb.2.2⟩
end Go.Rk
/- What panes tell behind sessions and marks. -/
namespace Go.Rk
set_option linter.unusedSimpArgs false
set_option linter.unusedVariables false
theorem out_find {T : List TabT} {k : Int} {w : WinT} : ∀ (D : List RowT) (T : List TabT), (∀ o, o ∈ D → ¬ IsR k w o) → tFind k w (D.foldl outR T) = tFind k w T
  | [], _, _ => rfl
  | o :: D, T, h => by
    rw [List.foldl_cons, out_find (T := T) D (outR T o) fun x hx => h x (List.mem_cons_of_mem _ hx)]
    exact tFind_out_other (fun q hq hq2 => h o (by simp) (by unfold IsR; unfold IsRow at hq hq2; omega)) T
theorem out_mem : ∀ (D : List RowT) (T : List TabT) (t : TabT), t ∈ D.foldl outR T ↔ t ∈ T ∧ ∀ o, o ∈ D → ¬ IsR t.key t.win o
  | [], T, t => by simp
  | o :: D, T, t => by
    rw [List.foldl_cons, out_mem D (outR T o) t]
    unfold outR
    rw [tOut_in]
    have e : IsRow o.key o.win t ↔ IsR t.key t.win o := by unfold IsRow IsR; omega
    rw [e]
    constructor
    · rintro ⟨⟨h1, h2⟩, h3⟩
      refine ⟨h1, fun x hx => ?_⟩
      rcases List.mem_cons.1 hx with rfl | hx
      · exact h2
      · exact h3 x hx
    · rintro ⟨h1, h2⟩
      exact ⟨⟨h1, h2 o (by simp)⟩, fun x hx => h2 x (List.mem_cons_of_mem _ hx)⟩
theorem out_rise : ∀ (D : List RowT) (T : List TabT), Rise T → Rise (D.foldl outR T)
  | [], _, h => h
  | o :: D, T, h => out_rise D (outR T o) (rise_tOut h)
def sessRow (k v : Int) (w : WinT) (l : List RowT) : RowT := ⟨k, spanL w (oldL k w l), ((oldL k w l).map (·.all)).foldl aggB (agg1 v), ((oldL k w l).map (·.all)).foldl aggB (agg1 v), 0, false⟩
def sessT (m k v : Int) (w : WinT) (l : List RowT) (T : List TabT) : List TabT :=
  if oneB (spanL w (oldL k w l)) (oldL k w l) = true then intoT m k v (spanL w (oldL k w l)) l T
  else tellT m (((oldL k w l).filter fun r => decide (0 < r.told)).foldl outR T) (sessRow k v w l)
/-- A value put into a session. -/
theorem sess_TI {j : JobT} {m k v : Int} {w : WinT} {l : List RowT} {T : List TabT} {q : List RowT × List PaneT} (hj : JobOkP j) (h3 : j.kind = 3) (hol : OkL j m l) (hT : TInv j.late m l T) (hw : WinOkP w) (hv : -9 ≤ v ∧ v ≤ 9) (hS : sumN l ≤ 990) (he : sessL j m k v w l = some q) :
    q.2.foldl (ofStep j.piece) T = sessT m k v w l T ∧ TInv j.late m q.1 (sessT m k v w l T) := by
  have hnn : ∀ r, r ∈ l → 0 ≤ r.all.n := fun r hr => by have := rowOk_n (hol.1 r hr); omega
  have hsp := span_ok (k := k) hol.1 hw
  have hlw := late_w hj hsp
  unfold sessL at he
  unfold sessT
  split at he
  · cases he
  · rename_i hm
    rw [hlw] at hm
    split at he
    · rename_i h1
      rw [if_pos h1]
      exact into_TI hT (fun r hr => ⟨hol.1 r hr, Int.le_trans (sumN_mem hnn hr) (by omega)⟩) hlw he
    · rename_i h1
      rw [if_neg h1]
      cases he
      obtain ⟨r0, hr0⟩ : ∃ r0, r0 = sessRow k v w l := ⟨_, rfl⟩
      have hr0' : r0 = ⟨k, spanL w (oldL k w l), ((oldL k w l).map (·.all)).foldl aggB (agg1 v), ((oldL k w l).map (·.all)).foldl aggB (agg1 v), 0, false⟩ := hr0
      rw [← hr0, ← hr0']
      obtain ⟨T1, hT1⟩ : ∃ T1, T1 = ((oldL k w l).filter fun r => decide (0 < r.told)).foldl outR T := ⟨_, rfl⟩
      show (goneL (oldL k w l) ++ (tellS j m r0).2).foldl (ofStep j.piece) T = tellT m _ r0 ∧ TInv j.late m (rPut (tellS j m r0).1 (restL k w l)) (tellT m _ r0)
      rw [List.foldl_append, gone_T, ← hT1]
      have hkey : r0.key = k := by rw [hr0']
      have hwin : r0.win = spanL w (oldL k w l) := by rw [hr0']
      have hsplit := sumN_split k w l
      have hrn : 0 ≤ sumN (restL k w l) := sumN_nn fun r hr => hnn r (rest_mem hr).1
      have hsum : sumI (((oldL k w l).map (·.all)).map (·.n)) = sumN (oldL k w l) := by rw [List.map_map]; rfl
      have hon : 0 ≤ sumN (oldL k w l) := sumN_nn fun r hr => hnn r (old_mem hr).1
      have hf := aggOk_fold ((oldL k w l).map (·.all)) (agg1 v) (aggOk_one hv) (fun b hb => by
        obtain ⟨r, hr, rfl⟩ := List.mem_map.1 hb
        exact (hol.1 r (old_mem hr).1).2.2.1) (by rw [hsum]; show (1 : Int) + _ ≤ _; omega)
      have hn0 : r0.all.n = 1 + sumN (oldL k w l) := by rw [hr0']; rw [hsum] at hf; exact hf.2
      -- nothing of the new session is in the table
      have hnew : ∀ t, t ∈ T1 → ¬ IsRow k (spanL w (oldL k w l)) t := fun t ht hi => by
        rw [hT1, out_mem] at ht
        rcases hT.cov t ht.1 with ⟨r, hr, hri⟩ | hcl
        · have hri2 : IsR k (spanL w (oldL k w l)) r := by unfold IsR at *; unfold IsRow at hi; omega
          have hin := span_in w (oldL k w l) w ⟨Int.le_refl _, Int.le_refl _⟩
          have hwd := winOk_d hw
          have hro : r ∈ oldL k w l := old_in hr hri2.1 (by unfold TouchP; unfold IsR at hri2; omega)
          have hto : ¬ 0 < r.told := fun h => ht.2 r (List.mem_filter.2 ⟨hro, decide_eq_true h⟩) hri
          rcases hT.good r hr with ⟨_, _, h3⟩ | ⟨h2, _⟩
          · exact tFind_no h3 t ht.1 (by unfold IsRow; unfold IsR at hri; omega)
          · exact hto h2
        · unfold IsRow at hi; omega
      have hg : GoodR T1 r0 := by
        refine .inl ⟨by rw [hr0'], by rw [hr0'], ?_⟩
        rw [hkey, hwin]
        cases hc : tFind k (spanL w (oldL k w l)) T1 with
        | none => rfl
        | some a =>
          obtain ⟨t, ht, hi, _⟩ := tFind_some hc
          exact absurd hi (hnew t ht)
      refine ⟨tellS_T hg, tell_TI (by rw [hT1]; exact out_rise _ _ hT.rise) (fun q hq _ => ?_) (fun t ht => ?_) hg (by rw [hr0']; exact ⟨Int.le_refl _, (by decide : (0 : Int) ≤ 1500)⟩) (by rw [hn0]; omega)⟩
      · obtain ⟨h1, h2⟩ := rest_mem hq
        have hg := hT.good q h1
        have e : tFind q.key q.win T1 = tFind q.key q.win T := by
          rw [hT1]
          refine out_find (T := T) _ _ fun o ho hi => ?_
          obtain ⟨o1, o2, o3⟩ := old_mem (List.mem_filter.1 ho).1
          obtain ⟨i1, i2⟩ := isR_eq hi
          exact h2 ⟨i1.symm.trans o2, by rw [← i2]; exact o3⟩
        unfold GoodR
        rw [e]; exact hg
      · rw [hT1, out_mem] at ht
        rcases hT.cov t ht.1 with ⟨r, hr, hri⟩ | hcl
        · by_cases hto : tchR k w r = true
          · exfalso
            have hro : r ∈ oldL k w l := List.mem_filter.2 ⟨hr, hto⟩
            have hto : ¬ 0 < r.told := fun h => ht.2 r (List.mem_filter.2 ⟨hro, decide_eq_true h⟩) hri
            rcases hT.good r hr with ⟨_, _, h3⟩ | ⟨h2, _⟩
            · exact tFind_no h3 t ht.1 (by unfold IsRow; unfold IsR at hri; omega)
            · exact hto h2
          · exact .inl ⟨r, List.mem_filter.2 ⟨hr, by simpa using hto⟩, hri⟩
        · exact .inr (.inr hcl)
/-- All that is due is told. -/
theorem due_fold {piece : Bool} : ∀ (D : List RowT) (T : List TabT), RiseR D → (∀ r, r ∈ D → GoodR T r) → Rise T →
    (D.map fun r => paneP piece r 1).foldl (ofStep piece) T = D.foldl putR T ∧ Rise (D.foldl putR T) ∧
    (∀ k w, (∀ r, r ∈ D → ¬ IsR k w r) → tFind k w (D.foldl putR T) = tFind k w T) ∧ (∀ r, r ∈ D → tFind r.key r.win (D.foldl putR T) = some r.all) ∧
    ∀ t, t ∈ D.foldl putR T → (∃ r, r ∈ D ∧ t = RT r) ∨ t ∈ T
  | [], T, _, _, hT => ⟨rfl, hT, fun _ _ _ => rfl, fun r hr => absurd hr (by simp), fun t ht => .inr ht⟩
  | d :: D, T, hr, hg, hT => by
    rw [RiseR, List.pairwise_cons] at hr
    have hne : ∀ x, x ∈ D → ¬ IsR x.key x.win d := fun x hx hc => ra_ne (hr.1 x hx) hc ⟨rfl, rfl, rfl⟩
    have e : ofStep piece T (paneP piece d 1) = putR T d := told_step (hg d (by simp)) (by decide)
    obtain ⟨i1, i2, i3, i4, i5⟩ := due_fold (piece := piece) D (putR T d) hr.2 (fun x hx => good_other (hg x (List.mem_cons_of_mem _ hx)) (hne x hx)) (rise_tPut hT)
    refine ⟨?_, i2, fun k w h => ?_, fun x hx => ?_, fun t ht => ?_⟩
    · rw [List.map_cons, List.foldl_cons, List.foldl_cons, e]; exact i1
    · rw [List.foldl_cons, i3 k w fun x hx => h x (List.mem_cons_of_mem _ hx)]
      exact tFind_put_other (r := RT d) (h d (by simp)) T
    · rw [List.foldl_cons]
      rcases List.mem_cons.1 hx with rfl | hx
      · rw [i3 x.key x.win fun y hy hc => hne y hy (by unfold IsR at *; omega)]
        exact tFind_put_same (RT x) T
      · exact i4 x hx
    · rw [List.foldl_cons] at ht
      rcases i5 t ht with ⟨x, hx, rfl⟩ | h
      · exact .inl ⟨x, List.mem_cons_of_mem _ hx, rfl⟩
      · rcases mem_tPut.1 h with rfl | ⟨h, _⟩
        · exact .inl ⟨d, by simp, rfl⟩
        · exact .inr h
def markT (mk m : Int) (l : List RowT) (T : List TabT) : List TabT := if m ≤ mk then T else (l.filter (dueB m)).foldl putR T
theorem mark_TI {j : JobT} {mk m : Int} {l : List RowT} {T : List TabT} (hj : JobOkP j) (hol : OkL j mk l) (hT : TInv j.late mk l T) :
    (markL j mk l m).2.2.foldl (ofStep j.piece) T = markT mk m l T ∧ TInv j.late (markL j mk l m).1 (markL j mk l m).2.1 (markT mk m l T) := by
  unfold markL markT
  by_cases hle : m ≤ mk
  · rw [if_pos hle, if_pos hle]; exact ⟨rfl, hT⟩
  · rw [if_neg hle, if_neg hle]
    obtain ⟨i1, i2, i3, i4, i5⟩ := due_fold (piece := j.piece) (l.filter (dueB m)) T (List.Pairwise.filter _ hol.2.1) (fun r hr => hT.good r (List.mem_filter.1 hr).1) hT.rise
    have huniq : ∀ r, r ∈ l → ∀ q, q ∈ l → IsR r.key r.win q → r = q := fun r hr q hq h => by
      have e1 := rfind_in hol.2.1 hr ⟨rfl, rfl, rfl⟩
      have e2 := rfind_in hol.2.1 hq h
      rw [e1] at e2
      exact Option.some.inj e2
    refine ⟨i1, i2, fun r hr => ?_, fun t ht => ?_⟩
    · obtain ⟨q, hq, ho, rfl⟩ := keepL_mem.1 hr
      have hro := hol.1 q hq
      cases hd : dueB m q with
      | true =>
        have e : markR m q = toldR q := by unfold markR; rw [if_pos hd]
        rw [e]
        refine .inr ⟨?_, q.all, i4 q (List.mem_filter.2 ⟨hq, hd⟩), rowOk_n hro, aggB_zr (rowOk_n hro).1⟩
        show 0 < w64 (q.told + 1)
        have := hro.2.2.2.2.2.2.1
        rw [w64_id (by omega)]; omega
      | false =>
        have e : markR m q = q := by unfold markR; rw [if_neg (by rw [hd]; simp)]
        rw [e]
        have e2 := i3 q.key q.win fun r hr hc => by
          obtain ⟨h1, h2⟩ := List.mem_filter.1 hr
          have := huniq q hq r h1 hc
          rw [this, h2] at hd; cases hd
        unfold GoodR
        rw [e2]
        exact hT.good q hq
    · have hkeep : ∀ q, q ∈ l → IsR t.key t.win q → (∃ r, r ∈ keepL j.late m l ∧ IsR t.key t.win r) ∨ t.win.e + j.late ≤ m := fun q hq hi => by
        cases ho : overB j.late m q with
        | false =>
          refine .inl ⟨markR m q, keepL_mem.2 ⟨q, hq, ho, rfl⟩, ?_⟩
          unfold IsR at *
          rw [(markR_all m q).2.1, (markR_all m q).2.2]; exact hi
        | true =>
          refine .inr ?_
          unfold overB at ho
          have h9 := of_decide_eq_true ho
          rw [late_w hj (hol.1 q hq).2.1] at h9
          unfold IsR at hi; omega
      rcases i5 t ht with ⟨r, hr, rfl⟩ | h
      · exact hkeep r (List.mem_filter.1 hr).1 ⟨rfl, rfl, rfl⟩
      · rcases hT.cov t h with ⟨q, hq, hi⟩ | hcl
        · exact hkeep q hq hi
        · exact .inr (by show t.win.e + j.late ≤ m; omega)
end Go.Rk
/- Whether panes have all or but what is new, they tell the same. -/
namespace Go.Rk
set_option linter.unusedSimpArgs false
set_option linter.unusedVariables false
def stepTT (j : JobT) (m : Int) (x : ItmT) (w : WinT) (l : List RowT) (T : List TabT) : List TabT := if j.kind = 3 then sessT m x.key x.v w l T else intoT m x.key x.v w l T
def tkT (j : JobT) (m : Int) (x : ItmT) : List WinT → List RowT → List TabT → List TabT
  | [], _, T => T
  | w :: ws, l, T => match stepT j m x w l with
    | none => tkT j m x ws l T
    | some q => tkT j m x ws q.1 (stepTT j m x w l T)
theorem recP_kv {x : ItmT} (h : RecP x) : (0 ≤ x.key ∧ x.key ≤ 3) ∧ (-9 ≤ x.v ∧ x.v ≤ 9) := by
  have h2 := h.2
  have h1 := h.1
  unfold ItmOkP at h2
  omega
theorem take_TI {j : JobT} {m : Int} {x : ItmT} (hj : JobOkP j) (hx : RecP x) : ∀ (ws : List WinT) (l : List RowT) (a : List PaneT) (c : List LatT) (T : List TabT) (B S : Int), OkL j m l → (∀ w, w ∈ ws → WinOkP w) → (j.kind = 3 → ws.length ≤ 1) → 0 ≤ B → B + (ws.length : Int) ≤ 900 → 0 ≤ S → S + (ws.length : Int) ≤ 900 →
    (∀ r, r ∈ l → r.all.n ≤ B ∧ r.told ≤ S) → sumN l + (ws.length : Int) ≤ 900 → TInv j.late m l T →
    ∃ ps, (ws.foldl (takeS j m x) (l, a, c)).2.1 = a ++ ps ∧ ps.foldl (ofStep j.piece) T = tkT j m x ws l T ∧ TInv j.late m (ws.foldl (takeS j m x) (l, a, c)).1 (tkT j m x ws l T) := by
  intro ws
  have hxv := recP_kv hx
  induction ws with
  | nil => intro l a c T B S _ _ _ _ _ _ _ _ _ hT; exact ⟨[], by simp, rfl, hT⟩
  | cons w ws ih =>
    intro l a c T B S hol hw h3 hB hB2 hS hS2 hb hsum hT
    have hg : ((w :: ws).length : Int) = (ws.length : Int) + 1 := rfl
    rw [hg] at hB2 hS2 hsum
    have hws := fun u hu => hw u (List.mem_cons_of_mem _ hu)
    have hw0 := hw w (by simp)
    rw [List.foldl_cons]
    have e : tkT j m x (w :: ws) l T = match stepT j m x w l with | none => tkT j m x ws l T | some q => tkT j m x ws q.1 (stepTT j m x w l T) := rfl
    rw [e]
    cases hq : stepT j m x w l with
    | none =>
      rw [takeS_none (a := (l, a, c)) hq]
      exact ih l a (c ++ [(⟨x, w⟩ : LatT)]) T B S hol hws (fun h => by have := h3 h; simp at this; rw [this]; simp) hB (by omega) hS (by omega) hb (by omega) hT
    | some q =>
      rw [takeS_some (a := (l, a, c)) hq]
      have he := hq
      unfold stepT at he
      by_cases hk : j.kind = 3
      · rw [if_pos hk] at he
        have hnil : ws = [] := by have := h3 hk; simp at this; exact this
        subst hnil
        obtain ⟨t1, t2⟩ := sess_TI hj hk hol hT hw0 hxv.2 (by omega) he
        have e2 : stepTT j m x w l T = sessT m x.key x.v w l T := by unfold stepTT; rw [if_pos hk]
        rw [e2]
        exact ⟨q.2, rfl, t1, t2⟩
      · rw [if_neg hk] at he
        obtain ⟨t1, t2⟩ := into_TI hT (fun r hr => ⟨hol.1 r hr, Int.le_trans (hb r hr).1 (by omega)⟩) (late_w hj hw0) he
        obtain ⟨c1, c2, _⟩ := into_ok (B := B) (T := S) hol hxv.1 hxv.2 hw0 (by omega) (by omega) hb (fun h => absurd h hk) he
        have e2 : stepTT j m x w l T = intoT m x.key x.v w l T := by unfold stepTT; rw [if_neg hk]
        rw [e2]
        have hs := (into_sum (B := 900) hol.2.1 (by omega) (fun r hr => ⟨(rowOk_n (hol.1 r hr)).1, Int.le_trans (hb r hr).1 (by omega)⟩) he).1
        obtain ⟨ps, p1, p2, p3⟩ := ih q.1 (a ++ q.2) c _ (B + 1) (S + 1) c1 hws (fun h => absurd h hk) (by omega) (by omega) (by omega) (by omega) c2 (by omega) t2
        refine ⟨q.2 ++ ps, ?_, ?_, p3⟩
        · rw [p1, List.append_assoc]
        · rw [List.foldl_append, t1]; exact p2
theorem tinv_nil (late m : Int) : TInv late m [] [] := ⟨List.Pairwise.nil, fun r hr => absurd hr (by simp), fun t ht => absurd ht (by simp)⟩
/-- The table of all panes so far. -/
theorem ofL_app (piece : Bool) (l ps : List PaneT) : ofL piece (l ++ ps) = ps.foldl (ofStep piece) (ofL piece l) := by unfold ofL; rw [List.foldl_append]
def fedT (j : JobT) (a : Int × List RowT × List PaneT × List LatT) (x : ItmT) (T : List TabT) : List TabT :=
  if x.kind = 2 then markT a.1 x.t a.2.1 T else tkT j a.1 x (winsL j x.t) a.2.1 T
theorem fed_TI_step {j : JobT} {B : Int} {a : Int × List RowT × List PaneT × List LatT} {x : ItmT} (hj : JobOkP j) (h : FI j B a) (hB : 0 ≤ B ∧ B ≤ 260) (hx : LogX x) (hT : TInv j.late a.1 a.2.1 (ofL j.piece a.2.2.1)) :
    ofL j.piece (fedS j a x).2.2.1 = fedT j a x (ofL j.piece a.2.2.1) ∧ TInv j.late (fedS j a x).1 (fedS j a x).2.1 (ofL j.piece (fedS j a x).2.2.1) := by
  unfold fedS fedT
  rcases logX_kind hx with ⟨hk, ht⟩ | ⟨hk, hr⟩
  · rw [if_pos hk, if_pos hk]
    obtain ⟨m1, m2⟩ := mark_TI (m := x.t) hj h.ok hT
    show ofL j.piece (a.2.2.1 ++ _) = _ ∧ TInv _ _ _ (ofL j.piece (a.2.2.1 ++ _))
    rw [ofL_app, m1]
    exact ⟨rfl, m2⟩
  · rw [if_neg hk, if_neg hk]
    have hr' := recP_t hr
    have hw4 := winsL_len4 hj hr'
    have hbd := h.bd
    have hnn : ∀ r, r ∈ a.2.1 → 0 ≤ r.all.n := fun r hr => (hbd.2 r hr).1
    obtain ⟨ps, p1, p2, p3⟩ := take_TI hj hr (winsL j x.t) a.2.1 [] [] (ofL j.piece a.2.2.1) B B h.ok (fun w hw => winsL_ok hj hr' hw) (fun h3 => by rw [winsL_sess h3 (by unfold JobOkP at hj; omega) hr'.1 hr'.2]; exact Nat.le_refl _) hB.1 (by omega) hB.1 (by omega) (fun r hr => ⟨Int.le_trans (sumN_mem hnn hr) hbd.1, (hbd.2 r hr).2⟩) (by have := hbd.1; omega) hT
    have p1 : (takeL j a.1 x (winsL j x.t) a.2.1).2.1 = ps := by unfold takeL; rw [p1]; rfl
    show ofL j.piece (a.2.2.1 ++ (takeL j a.1 x (winsL j x.t) a.2.1).2.1) = _ ∧ TInv _ _ _ (ofL j.piece (a.2.2.1 ++ (takeL j a.1 x (winsL j x.t) a.2.1).2.1))
    rw [p1, ofL_app, p2]
    exact ⟨rfl, p3⟩
theorem fed_TI {j : JobT} (hj : JobOkP j) : ∀ (l : List ItmT), (∀ x, x ∈ l → LogX x) → l.length ≤ 60 → TInv j.late (fedL j l).1 (fedL j l).2.1 (ofL j.piece (fedL j l).2.2.1) := by
  refine snocInd (fun _ _ => tinv_nil _ _) fun l x ih h hl => ?_
  rw [List.length_append] at hl
  have hl : l.length + 1 ≤ 60 := hl
  have hxs := fun y hy => h y (List.mem_append_left [x] hy)
  rw [fedL_snoc]
  exact (fed_TI_step hj (fi_fed hj l hxs (by omega)) (by omega) (h x (by simp)) (ih hxs (by omega))).2
/-! ## Two jobs that differ in that alone -/
def strip (p : PaneT) : PaneT := { p with agg := zAgg }
def withP (j : JobT) (b : Bool) : JobT := { j with piece := b }
theorem jobOk_P {j : JobT} (b : Bool) (h : JobOkP j) : JobOkP (withP j b) := h
theorem tell_P (j : JobT) (b : Bool) (m : Int) (r : RowT) : (tellS (withP j b) m r).1 = (tellS j m r).1 ∧ (tellS (withP j b) m r).2.map strip = (tellS j m r).2.map strip := by
  unfold tellS
  split <;> exact ⟨rfl, rfl⟩
/-- Both are none, or the rows are the same, and the panes but for what is known. -/
def RelO (o o' : Option (List RowT × List PaneT)) : Prop := (o = none ∧ o' = none) ∨ ∃ r p p', o = some (r, p) ∧ o' = some (r, p') ∧ p.map strip = p'.map strip
theorem into_P (j : JobT) (b : Bool) (m k v : Int) (w : WinT) (l : List RowT) : RelO (intoL j m k v w l) (intoL (withP j b) m k v w l) := by
  unfold intoL
  have e : (withP j b).late = j.late := rfl
  rw [e]
  split
  · exact .inl ⟨rfl, rfl⟩
  · obtain ⟨t1, t2⟩ := tell_P j b m (addR ((rFind k w l).getD (nrow k w)) v)
    rw [t1]
    exact .inr ⟨_, _, _, rfl, rfl, t2.symm⟩
theorem sess_P (j : JobT) (b : Bool) (m k v : Int) (w : WinT) (l : List RowT) : RelO (sessL j m k v w l) (sessL (withP j b) m k v w l) := by
  unfold sessL
  have e : (withP j b).late = j.late := rfl
  rw [e]
  split
  · exact .inl ⟨rfl, rfl⟩
  · split
    · exact into_P j b m k v _ l
    · obtain ⟨t1, t2⟩ := tell_P j b m ⟨k, spanL w (oldL k w l), ((oldL k w l).map (·.all)).foldl aggB (agg1 v), ((oldL k w l).map (·.all)).foldl aggB (agg1 v), 0, false⟩
      rw [t1]
      refine .inr ⟨_, _, _, rfl, rfl, ?_⟩
      rw [List.map_append, List.map_append, t2]
theorem step_P (j : JobT) (b : Bool) (m : Int) (x : ItmT) (w : WinT) (l : List RowT) : RelO (stepT j m x w l) (stepT (withP j b) m x w l) := by
  unfold stepT
  have e : (withP j b).kind = j.kind := rfl
  rw [e]
  split
  · exact sess_P j b m _ _ w l
  · exact into_P j b m _ _ w l
theorem fold_P (j : JobT) (b : Bool) (m : Int) (x : ItmT) : ∀ (ws : List WinT) (l : List RowT) (a a' : List PaneT) (c : List LatT) (T : List TabT), a.map strip = a'.map strip →
    (ws.foldl (takeS j m x) (l, a, c)).1 = (ws.foldl (takeS (withP j b) m x) (l, a', c)).1 ∧ (ws.foldl (takeS j m x) (l, a, c)).2.1.map strip = (ws.foldl (takeS (withP j b) m x) (l, a', c)).2.1.map strip ∧
    (ws.foldl (takeS j m x) (l, a, c)).2.2 = (ws.foldl (takeS (withP j b) m x) (l, a', c)).2.2 ∧ tkT j m x ws l T = tkT (withP j b) m x ws l T
  | [], _, _, _, _, _, h => ⟨rfl, h, rfl, rfl⟩
  | w :: ws, l, a, a', c, T, h => by
    rw [List.foldl_cons, List.foldl_cons]
    have e1 : tkT j m x (w :: ws) l T = match stepT j m x w l with | none => tkT j m x ws l T | some q => tkT j m x ws q.1 (stepTT j m x w l T) := rfl
    have e2 : tkT (withP j b) m x (w :: ws) l T = match stepT (withP j b) m x w l with | none => tkT (withP j b) m x ws l T | some q => tkT (withP j b) m x ws q.1 (stepTT (withP j b) m x w l T) := rfl
    rw [e1, e2]
    rcases step_P j b m x w l with ⟨h1, h2⟩ | ⟨r, p, p', h1, h2, h3⟩
    · rw [takeS_none (a := (l, a, c)) h1, takeS_none (a := (l, a', c)) h2, h1, h2]
      exact fold_P j b m x ws l a a' (c ++ [(⟨x, w⟩ : LatT)]) T h
    · rw [takeS_some (a := (l, a, c)) h1, takeS_some (a := (l, a', c)) h2, h1, h2]
      have e3 : stepTT (withP j b) m x w l T = stepTT j m x w l T := rfl
      rw [e3]
      exact fold_P j b m x ws r (a ++ p) (a' ++ p') c _ (by rw [List.map_append, List.map_append, h, h3])
theorem mark_P (j : JobT) (b : Bool) (mk m : Int) (l : List RowT) : (markL j mk l m).1 = (markL (withP j b) mk l m).1 ∧ (markL j mk l m).2.1 = (markL (withP j b) mk l m).2.1 ∧ (markL j mk l m).2.2.map strip = (markL (withP j b) mk l m).2.2.map strip := by
  unfold markL
  split
  · exact ⟨rfl, rfl, rfl⟩
  · refine ⟨rfl, rfl, ?_⟩
    show (tellL j.piece m l).map strip = (tellL b m l).map strip
    unfold tellL
    rw [List.map_map, List.map_map]
    rfl
structure SameP (j k : JobT) (a b : Int × List RowT × List PaneT × List LatT) : Prop where
  mrk : a.1 = b.1
  rows : a.2.1 = b.2.1
  panes : a.2.2.1.map strip = b.2.2.1.map strip
  lates : a.2.2.2 = b.2.2.2
  tab : ofL j.piece a.2.2.1 = ofL k.piece b.2.2.1
/-- FnOpPiece in plain words. -/
theorem fed_piece {j : JobT} (b : Bool) (hj : JobOkP j) : ∀ (l : List ItmT), (∀ x, x ∈ l → LogX x) → l.length ≤ 60 → SameP j (withP j b) (fedL j l) (fedL (withP j b) l) := by
  refine snocInd (fun _ _ => ⟨rfl, rfl, rfl, rfl, rfl⟩) fun l x ih h hl => ?_
  rw [List.length_append] at hl
  have hl : l.length + 1 ≤ 60 := hl
  have hxs := fun y hy => h y (List.mem_append_left [x] hy)
  obtain ⟨s1, s2, s3, s4, s5⟩ := ih hxs (by omega)
  have hx := h x (by simp)
  have f1 := fed_TI_step hj (fi_fed hj l hxs (by omega)) (by omega) hx (fed_TI hj l hxs (by omega))
  have f2 := fed_TI_step (jobOk_P b hj) (fi_fed (jobOk_P b hj) l hxs (by omega)) (by omega) hx (fed_TI (jobOk_P b hj) l hxs (by omega))
  rw [fedL_snoc, fedL_snoc]
  have hT : fedT j (fedL j l) x (ofL j.piece (fedL j l).2.2.1) = fedT (withP j b) (fedL (withP j b) l) x (ofL (withP j b).piece (fedL (withP j b) l).2.2.1) := by
    rw [← s5]
    unfold fedT
    rw [← s1, ← s2]
    split
    · rfl
    · exact (fold_P j b (fedL j l).1 x (winsL j x.t) (fedL j l).2.1 [] [] [] _ rfl).2.2.2
  refine ⟨?_, ?_, ?_, ?_, by rw [f1.1, f2.1, hT]⟩
  all_goals unfold fedS
  · rw [← s1, ← s2]
    split
    · exact (mark_P j b _ _ _).1
    · rfl
  · rw [← s1, ← s2]
    split
    · exact (mark_P j b _ _ _).2.1
    · exact (fold_P j b (fedL j l).1 x (winsL j x.t) (fedL j l).2.1 [] [] [] [] rfl).1
  · rw [← s1, ← s2]
    split
    · show ((fedL j l).2.2.1 ++ _).map strip = ((fedL (withP j b) l).2.2.1 ++ _).map strip
      rw [List.map_append, List.map_append, s3, (mark_P j b _ _ _).2.2]
    · show ((fedL j l).2.2.1 ++ _).map strip = ((fedL (withP j b) l).2.2.1 ++ _).map strip
      rw [List.map_append, List.map_append, s3]
      congr 1
      exact (fold_P j b (fedL j l).1 x (winsL j x.t) (fedL j l).2.1 [] [] [] [] rfl).2.1
  · rw [← s1, ← s2]
    split
    · exact s4
    · show (fedL j l).2.2.2 ++ _ = (fedL (withP j b) l).2.2.2 ++ _
      rw [s4]
      congr 1
      exact (fold_P j b (fedL j l).1 x (winsL j x.t) (fedL j l).2.1 [] [] [] [] rfl).2.2.1
end Go.Rk
/- The law, walked. -/
namespace Go.Rk
set_option linter.unusedSimpArgs false
set_option linter.unusedVariables false
open Go.Proofs Go.ChangeShapes Go.WideShapes Go.ChangeAt Go.RowKit
set_option maxRecDepth 100000
set_option maxHeartbeats 2000000
theorem le_own {sz n : Nat} {f g : Nat → List DV} (h : ∀ i, i < n → f i = g i) : DLe (.sl sz n f) (.sl sz n g) := dle_sl fun i hi => by rw [h i hi]; exact LsLe.rfl
theorem lst_same {α : Type} {z : α} {l : List α} {n m : Nat} {g h : Nat → α} (h1 : Lst z l n g) (h2 : Lst z l m h) : n = m ∧ ∀ i, i < n → g i = h i := ⟨h1.1.trans h2.1.symm, fun i hi => (h1.2 i hi).trans (h2.2 i (by rw [h2.1, ← h1.1]; exact hi)).symm⟩
def st_pc (c : Nat) (P P2 : Nat → PaneT) (i : Nat) : St := ⟨[(13, .c (.d (eI i))), (11, .c (.d (.sl 9 c fun i => ePane (P2 i)))), (8, .c (.d (.sl 9 c fun i => ePane (P i))))], []⟩
theorem m_law (M0 : Nat) (b : Nat → Int) (hb : ∀ i, 0 ≤ b i ∧ b i ≤ 255) : Meets Try.prog 3 [.c (.d (.sl 1 M0 fun i => [eU (b i)]))] ⟨.one (.c (.d (eB true))), [none]⟩ := by
  refine meets_of (H := []) (EX := EXA) ttok mixed Try.func3 rfl (by kernel_rfl) (by decide) ?_
  generalize hA : real = A
  generalize hM : MeetsB Try.prog = M
  cbv
  obtain ⟨⟨j, N, g⟩, ⟨hj, ⟨hN1, hN2⟩, hLog, hEnd⟩, hDraw⟩ := x_drawMix M0 b hb
  dsimp only at hj hN1 hN2 hLog hEnd hDraw
  have hDraw := meets_frz hDraw rfl
  obtain ⟨zn, hzn⟩ : ∃ zn : Nat, (zn : Int) = (M0 : Int).tmod ((N : Int) + 1) := ⟨((M0 : Int).tmod ((N : Int) + 1)).toNat, Int.toNat_of_nonneg (Int.tmod_nonneg _ (Int.natCast_nonneg _))⟩
  have hznN : zn ≤ N := by
    have := tmod_in (a := (M0 : Int)) (n := (N : Int) + 1) (Int.natCast_nonneg _) (by omega)
    omega
  have e9 : real.ar .rem .i64 (real.int M0) (real.ar .add .i64 (real.int N) 1) = (zn : Int) := by
    rw [hzn]
    show (M0 : Int).tmod (IntKind.i64.wrap ((N : Int) + 1)) = _
    rw [IntWalk.i64_in _ (by omega)]
  have hsl : DV.sl 5 (real.dif (real.ar .rem .i64 (real.int M0) (real.ar .add .i64 (real.int N) 1)) 0) (real.sub (real.nat 0) fun i => eItm (g i)) = DV.sl 5 zn fun i => eItm (g i) := by
    rw [e9]; exact sl0 rfl 5 zn _
  have hnz9 : real.ar .add .i64 (real.int N) 1 ≠ 0 := by
    show IntKind.i64.wrap ((N : Int) + 1) ≠ 0
    rw [IntWalk.i64_in _ (by omega)]; omega
  have hcut : 0 ≤ (0 : Int) ∧ 0 ≤ real.ar .rem .i64 (real.int M0) (real.ar .add .i64 (real.int N) 1) ∧ real.ar .rem .i64 (real.int M0) (real.ar .add .i64 (real.int N) 1) ≤ N := by
    rw [e9]; omega
  obtain ⟨L, hL⟩ : ∃ L, L = (List.range zn).map g := ⟨_, rfl⟩
  have hLl : Lst endE L zn g := by rw [hL]; exact lst_of _ _ _
  have hgX : ∀ x, x ∈ L → LogX x := fun x hx => by
    rw [hL] at hx
    obtain ⟨i, hi, rfl⟩ := List.mem_map.1 hx
    have hi := List.mem_range.1 hi
    by_cases h : i + 1 < N
    · exact .inl (hLog i h)
    · have e : i = N - 1 := by omega
      rw [e]; exact .inr hEnd
  have hLn : L.length = zn := hLl.1.symm
  obtain ⟨h, hh⟩ : ∃ h : Bool, h = !j.piece := ⟨_, rfl⟩
  have hS := fed_piece h hj L hgX (by omega)
  obtain ⟨s1, s2, s3, s4, s5⟩ := hS
  obtain ⟨⟨⟨k1, G1⟩, ⟨c, P⟩, d, Q⟩, ⟨hG1, hP1, hQ1⟩, hF1⟩ := x_frFed j zn g (by omega) hj L hLl hgX
  obtain ⟨⟨⟨k2, G2⟩, ⟨c2, P2⟩, d2, Q2⟩, ⟨hG2, hP2, hQ2⟩, hF2⟩ := x_frFed (withP j h) zn g (by omega) (jobOk_P h hj) L hLl hgX
  dsimp only at hG1 hP1 hQ1 hF1 hG2 hP2 hQ2 hF2
  have hfl := fed_len hj L hgX (by omega)
  have hfl2 := fed_len (jobOk_P h hj) L hgX (by omega)
  have hc : c ≤ 40000 := by rw [hP1.1]; omega
  have hd : d ≤ 400 := by rw [hQ1.1]; omega
  have hcc : c2 = c := by rw [hP1.1, hP2.1]; have h := congrArg List.length s3; rw [List.length_map, List.length_map] at h; exact h.symm
  obtain ⟨hdd, hqq⟩ := lst_same hQ1 (by rw [s4]; exact hQ2)
  subst hcc hdd
  have hstrip : ∀ i, i < c2 → strip (P i) = strip (P2 i) := fun i hi => by
    have h1 := lst_at hP1 hi
    have h2 := lst_at hP2 hi
    have h3 := congrArg (fun l => l[i]?) s3
    simp only [List.getElem?_map, h1, h2, Option.map_some] at h3
    exact Option.some.inj h3
  have hF1 := meets_frz hF1 rfl
  have hF2 := meets_wk (meets_frz hF2 rfl) (r' := .tup [.agg [.d (eI (fedL (withP j h) L).1), .d (.sl 13 k2 fun i => eRow (G2 i))], .c (.d (.sl 9 c2 fun i => ePane (P2 i))), .c (.d (.sl 7 d fun i => eLat (Q i)))]) ⟨⟨DLe.rfl, DLe.rfl, trivial⟩, DLe.rfl, le_own (fun i hi => by rw [hqq i hi]), trivial⟩
  have hLt := c_frLates d (Nat.le_trans hd (by decide)) Q
  obtain ⟨nt, Gt, hGt⟩ := lst_ex zTab (ofL j.piece (fedL j L).2.2.1)
  have hO1 := meets_frz (c_Of (fedL j L).2.2.1 c2 P hP1 (by omega) j.piece nt Gt hGt) rfl
  have hO2 := meets_frz (c_Of (fedL (withP j h) L).2.2.1 c2 P2 hP2 (by omega) h nt Gt (by rw [s5] at hGt; exact hGt)) rfl
  have hntL : nt ≤ maxLen := Nat.le_trans (show nt ≤ 40000 by rw [hGt.1]; exact Nat.le_trans (ofL_len _ _) (by rw [← hP1.1]; exact hc)) (by decide)
  have hTb := c_frTab nt hntL Gt
  have hcL : c2 ≤ maxLen := Nat.le_trans hc (by decide)
  repeat' first
    | apply And.intro
    | exact True.intro
    | with_reducible rfl
    | exact same_of hA rfl
    | refine br_of hA (fun _ => ?_) (fun _ => ?_)
    | exact imp_of hA id
    | (refine imp_of hA ?_; subst hA; simp only [real, Bool.true_and]; exact id)
    | (refine ind_of hA ?_; decide +kernel)
    | (refine call_of hA hM _ hDraw ?_; cbv)
    | (refine call_of hA hM _ hLt ?_; cbv)
    | (refine call_of hA hM _ hO1 ?_; cbv)
    | (refine call_of hA hM _ hTb ?_; cbv)
    | (refine call_of hA hM _ c_frOk ?_; cbv)
    | (refine nz_of hA ?_; subst hA; exact hnz9)
    | (refine cut_of hA ?_; subst hA; exact hcut)
    | (refine call_of2 hA hM _ hF1 (by subst hA; first | exact congrArg (fun d => [xd (eJob j), XT.c (.d d)]) hsl | (rw [hh]; exact congrArg (fun d => [xd (eJob (withP j (!j.piece))), XT.c (.d d)]) hsl)) ?_; cbv)
    | (refine call_of2 hA hM _ hF2 (by subst hA; first | exact congrArg (fun d => [xd (eJob j), XT.c (.d d)]) hsl | (rw [hh]; exact congrArg (fun d => [xd (eJob (withP j (!j.piece))), XT.c (.d d)]) hsl)) ?_; cbv)
    | (refine call_of2 hA hM _ hO2 (by (subst hA; rw [hh]; first | rfl | (simp only [sub0r]; done) | (simp only [sub0r]; rfl))) ?_; cbv)
    | (focus (subst hA; exact rfl))
    | (exfalso; rename_i h; subst hA; simp [real] at h; done)
    | fail
  refine loop_of hA (α := { i : Nat // i ≤ c2 }) (fun y => st_pc c2 P P2 y.1) (fun y => c2 - y.1) ⟨0, Nat.zero_le _⟩ ?_ ?_
  · refine cov_of ?_ ?_ ?_
    · (subst hA; (repeat' first | exact True.intro | exact rfl | apply And.intro))
    · (subst hA; (repeat' first | exact True.intro | exact rfl | apply And.intro | (intro _ _; first | rfl | trivial)))
    · (subst hA; (repeat' first | exact True.intro | exact rfl | apply And.intro | exact .inl rfl | exact .inr (le_of_nble rfl)))
  rintro ⟨i, hi⟩
  have hi : i ≤ c2 := hi
  cbv
  repeat' first
    | apply And.intro
    | exact True.intro
    | with_reducible rfl
    | exact same_of hA rfl
    | refine br_of hA (fun _ => ?_) (fun _ => ?_)
    | exact imp_of hA id
    | (refine imp_of hA ?_; subst hA; simp only [real, Bool.true_and]; exact id)
    | (refine ind_of hA ?_; decide +kernel)
    | (refine call_of hA hM _ c_frOk ?_; cbv)
    | (refine inb_of hA (fun _ => ?_); have hlt9 : i < c2 := (by first | exact lt2_of hA (by assumption) | exact lt_of hA (by assumption)); exact ⟨Int.natCast_nonneg i, Int.ofNat_lt.2 hlt9⟩)
    | (focus (subst hA; exact rfl))
    | fail
  · exfalso
    rename_i hlt h
    have hlt' : i < c2 := by first | exact lt2_of hA hlt | exact lt_of hA hlt
    have e := hstrip i hlt'
    have e1 : (P i).key = (P2 i).key := by have h9 := congrArg PaneT.key e; exact h9
    have e2 : (P i).win = (P2 i).win := by have h9 := congrArg PaneT.win e; exact h9
    have e3 : (P i).no = (P2 i).no := by have h9 := congrArg PaneT.no e; exact h9
    have e4 : (P i).kind = (P2 i).kind := by have h9 := congrArg PaneT.kind e; exact h9
    subst hA
    have h : (bif (bif (bif ((P i).key != (P2 i).key) then true else (!((P i).win.s == (P2 i).win.s && ((P i).win.e == (P2 i).win.e && true)))) then true else ((P i).no != (P2 i).no)) then true else ((P i).kind != (P2 i).kind)) = true := h
    rw [e1, e2, e3, e4] at h
    simp at h
  · rename_i hlt h
    have hlt' : i < c2 := by first | exact lt2_of hA hlt | exact lt_of hA hlt
    refine ⟨⟨i + 1, hlt'⟩, by simp only; omega, cov_of ?_ ?_ ?_⟩
    · (subst hA; (repeat' first | exact True.intro | exact rfl | exact congrArg (fun x => DV.v (.int .i64 x)) (up64 hlt' hcL) | apply And.intro))
    · (subst hA; (repeat' first | exact True.intro | exact rfl | apply And.intro | (intro _ _; first | rfl | trivial)))
    · (subst hA; (repeat' first | exact True.intro | exact rfl | apply And.intro | exact .inl rfl | exact .inr (le_of_nble rfl)))
end Go.Rk
