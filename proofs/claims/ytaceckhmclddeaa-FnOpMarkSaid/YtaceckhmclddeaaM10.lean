/- The walk over this seat's functions, part 10: what each of them answers, at all data. -/
import Derived.Test.YtaceckhmclddeaaM1
import Derived.Test.YtaceckhmclddeaaM2
import Derived.Test.YtaceckhmclddeaaM3
import Derived.Test.YtaceckhmclddeaaM4
import Derived.Test.YtaceckhmclddeaaM5
import Derived.Test.YtaceckhmclddeaaM6
import Derived.Test.YtaceckhmclddeaaM7
import Derived.Test.YtaceckhmclddeaaM8
import Derived.Test.YtaceckhmclddeaaM9
import Derived.Test.YtaceckhmclddeaaRows
import Derived.WalkKit
import Derived.ProofKit
import Derived.OpenShut
import Derived.ShutString
import Derived.ChangeOld
import Derived.SizedLaws
import Derived.DataShut
/- Draws: the empty operator. -/
namespace Go.Rk
set_option linter.unusedSimpArgs false
set_option linter.unusedVariables false
open Go.Proofs
set_option maxRecDepth 100000
set_option maxHeartbeats 1000000
theorem c_frOp0 (g : Nat → RowT) : Meets Try.prog 24 [.agg [.d (eI 0), .d (.sl 13 0 fun i => eRow (g i))], .agg [.d (eI 0), .d (.v nilS)]] ⟨.one (.c (.d (eB true))), [none, none]⟩ := by
  refine meets_of (H := []) (EX := EXA) ttok mixed Try.func24 rfl (by kernel_rfl) (by decide) ?_
  generalize hA : real = A
  generalize hM : MeetsB Try.prog = M
  cbv
  repeat' first
    | (refine br_f hA ?_ ?_; focus (subst hA; simp [real]; done))
    | apply And.intro
    | exact True.intro
    | with_reducible rfl
    | exact same_of hA rfl
    | refine br_of hA (fun _ => ?_) (fun _ => ?_)
    | exact imp_of hA id
    | (refine imp_of hA ?_; subst hA; simp only [real, Bool.true_and]; exact id)
    | (refine ind_of hA ?_; decide +kernel)
  refine loop_of hA (α := Unit) (fun _ => ⟨[(5, .c (.d (eI 0))), (3, .c (.bp 192 1 0)), (2, .c (.bp 128 1 0))], [(192, 1, .box [.d (eI 0), .d (.v nilS)]), (128, 1, .box [.d (eI 0), .d (.sl 13 0 fun i => eRow (g i))])]⟩) (fun _ => 0) () ?_ ?_
  · refine cov_of ?_ ?_ ?_
    · cbv; try (subst hA; repeat' first | apply And.intro | exact True.intro | rfl)
    · cbv; try (subst hA; repeat' first | apply And.intro | exact True.intro | rfl)
    · cbv
  rintro ⟨⟩
  cbv
  repeat' first
    | (refine br_f hA ?_ ?_; focus (subst hA; simp [real]; done))
    | apply And.intro
    | exact True.intro
    | with_reducible rfl
    | exact same_of hA rfl
    | refine br_of hA (fun _ => ?_) (fun _ => ?_)
    | exact imp_of hA id
    | (refine imp_of hA ?_; subst hA; simp only [real, Bool.true_and]; exact id)
    | (refine ind_of hA ?_; decide +kernel)
    | (refine inb_of hA fun _ => ?_; subst hA; simp only [real, Bool.and_eq_true, Bool.not_eq_true', Bool.not_eq_false', decide_eq_true_eq, Int.ofNat_eq_natCast, IntKind.wrap_i64] at *; omega)
end Go.Rk
/- At the end everything is told and closed. -/
namespace Go.Rk
set_option linter.unusedSimpArgs false
set_option linter.unusedVariables false
theorem keep_none {g : Nat → RowT} {d : RowT → Bool} : ∀ {n : Nat}, (∀ i, i < n → d (g i) = true) → keepN g d n = []
  | 0, _ => rfl
  | n + 1, h => by rw [keepN_succ, keep_none (n := n) fun i hi => h i (by omega), if_pos (h n (by omega))]; rfl
theorem tell_cnt {piece : Bool} {m : Int} {g : Nat → RowT} : ∀ {n : Nat}, (∀ i, i < n → (g i).win.e ≤ m) → (tellN piece m g n).length = cntB (fun i => !(g i).timely) n
  | 0, _ => rfl
  | n + 1, h => by
    rw [tellN_succ, List.length_append, tell_cnt (n := n) fun i hi => h i (by omega)]
    have ec : cntB (fun i => !(g i).timely) (n + 1) = cntB (fun i => !(g i).timely) n + (if (!(g n).timely) = true then 1 else 0) := rfl
    rw [ec]
    have h1 := h n (by omega)
    have e : dueB m (g n) = !(g n).timely := by unfold dueB; rw [decide_eq_true h1, Bool.and_true]
    rw [e]
    cases (g n).timely <;> rfl
theorem row_late {j : JobT} {s : OpStT} (hok : OpOkP j s) {i : Nat} (hi : i < s.rows.n) : (s.rows.g i).win.e ≤ 120 ∧ -1 ≤ (s.rows.g i).win.e ∧ w64 ((s.rows.g i).win.e + j.late) ≤ 140 ∧ s.mark < w64 ((s.rows.g i).win.e + j.late) := by
  have h := (hok.2.2.2 i hi).1
  have hw := h.2.1
  have hm := h.2.2.2.2.2.2.2.1
  have hj := hok.1
  unfold JobOkP at hj
  unfold WinOkP at hw
  have e0 := w64_id (n := (s.rows.g i).win.s + 1) (by omega)
  unfold w64 at e0
  rw [e0] at hw
  have e := w64_id (n := (s.rows.g i).win.e + j.late) (by omega)
  rw [e]
  unfold w64 at e
  rw [e] at hm
  omega
/-- The operator at the end: no rows; as many told as were not. -/
theorem mark_end {j : JobT} {s : OpStT} (hok : OpOkP j s) : (opMarkL j s 1000).1 = 1000 ∧ (opMarkL j s 1000).2.1 = [] ∧ (opMarkL j s 1000).2.2.length = cntB (fun i => !(s.rows.g i).timely) s.rows.n := by
  unfold opMarkL
  rw [if_neg (fun h => h ⟨hok, by omega, by omega⟩)]
  have hm := hok.2.1
  split
  · rename_i hle
    have e : s.mark = 1000 := by omega
    have hn : s.rows.n = 0 := by
      cases hc : s.rows.n with
      | zero => rfl
      | succ k =>
        have := row_late hok (i := 0) (by omega)
        omega
    rw [hn]
    exact ⟨e, rfl, rfl⟩
  · refine ⟨rfl, keep_none fun i hi => ?_, tell_cnt fun i hi => ?_⟩
    · have := row_late hok hi
      unfold overB
      rw [markR_win]
      exact decide_eq_true (by omega)
    · have := row_late hok hi
      omega
theorem lates_all {j : JobT} {m : Int} {x : ItmT} : ∀ (ws : List WinT) (a : List PaneT) (c : List LatT), (∀ w, w ∈ ws → stepT j m x w [] = none) → ws.foldl (takeS j m x) ([], a, c) = ([], a, c ++ ws.map fun w => ⟨x, w⟩)
  | [], a, c, _ => by simp
  | w :: ws, a, c, h => by
    rw [List.foldl_cons, takeS_none (a := ([], a, c)) (h w (by simp)), lates_all ws _ _ fun u hu => h u (List.mem_cons_of_mem _ hu)]
    simp
/-- A record behind the end is late in all its windows. -/
theorem take_end {j : JobT} {s : OpStT} {x : ItmT} (hj : JobOkP j) (hm : s.mark = 1000) (hn : s.rows.n = 0) (hx : RecP x) : opTakeL j s x = (1000, [], [], (winsL j x.t).map fun w => ⟨x, w⟩) := by
  have hok : OpOkP j s := ⟨hj, by omega, by omega, fun i hi => by omega⟩
  unfold opTakeL
  rw [if_pos ⟨hok, hx, by omega⟩]
  have e : rowsL s = [] := by unfold rowsL; rw [hn]; rfl
  rw [e, hm]
  unfold takeL
  have ht := recP_t hx
  have hj' := hj
  unfold JobOkP at hj'
  rw [lates_all (winsL j x.t) [] [] fun w hw => ?_]
  · simp
  · have h := winsL_mem hw
    have e2 := w64_id (n := w.e + j.late) (by omega)
    unfold stepT
    split
    · unfold sessL
      have e3 : spanL w (oldL x.key w []) = w := rfl
      rw [e3, e2, if_pos (by omega)]
    · unfold intoL
      rw [e2, if_pos (by omega)]
end Go.Rk
/- The numbers of what was taken are kept. -/
namespace Go.Rk
set_option linter.unusedSimpArgs false
set_option linter.unusedVariables false
def sumN (l : List RowT) : Int := sumI (l.map (·.all.n))
def AllN (B : Int) (l : List RowT) : Prop := ∀ r, r ∈ l → 1 ≤ r.all.n ∧ r.all.n ≤ B
theorem sumN_cons (r : RowT) (l : List RowT) : sumN (r :: l) = r.all.n + sumN l := rfl
theorem sumN_rIns (r : RowT) : ∀ l, sumN (rIns r l) = r.all.n + sumN l
  | [] => rfl
  | q :: l => by
    show sumN (if RA r q then r :: q :: l else q :: rIns r l) = _
    split
    · rfl
    · rw [sumN_cons, sumN_rIns r l, sumN_cons]; omega
theorem sumN_none {k : Int} {w : WinT} {l : List RowT} (h : ∀ q, q ∈ l → ¬ IsR k w q) : rFind k w l = none := by
  unfold rFind
  rw [List.find?_eq_none]
  intro q hq
  simp [h q hq]
/-- Taking out the one row of a window takes its number. -/
theorem sumN_rOut {k : Int} {w : WinT} : ∀ {l : List RowT}, RiseR l → sumN (rOut k w l) + (match rFind k w l with | some r => r.all.n | none => 0) = sumN l
  | [], _ => rfl
  | q :: l, h => by
    rw [RiseR, List.pairwise_cons] at h
    by_cases hq : IsR k w q
    · have hno : ∀ x, x ∈ l → ¬ IsR k w x := fun x hx => ra_ne (h.1 x hx) hq
      have e : rOut k w (q :: l) = l := by
        unfold rOut
        rw [List.filter_cons, if_neg (by simp [hq])]
        exact rOut_none hno
      have e2 : rFind k w (q :: l) = some q := by unfold rFind; rw [List.find?_cons, decide_eq_true hq]
      rw [e, e2, sumN_cons]
      show sumN l + q.all.n = _
      omega
    · have e : rOut k w (q :: l) = q :: rOut k w l := by
        unfold rOut
        rw [List.filter_cons, if_pos (by simp [hq])]
      have e2 : rFind k w (q :: l) = rFind k w l := by unfold rFind; rw [List.find?_cons, decide_eq_false hq]
      rw [e, e2, sumN_cons, sumN_cons, ← sumN_rOut (k := k) (w := w) (l := l) h.2]
      omega
theorem tellS_all (j : JobT) (m : Int) (r : RowT) : (tellS j m r).1.all = r.all ∧ (tellS j m r).1.key = r.key ∧ (tellS j m r).1.win = r.win := by
  unfold tellS
  split <;> exact ⟨rfl, rfl, rfl⟩
theorem add_n {a : AggT} {v : Int} (h : 0 ≤ a.n ∧ a.n ≤ 1000000) : (aggAdd a v).n = a.n + 1 := by
  unfold aggAdd aggB
  by_cases h0 : a.n = 0
  · rw [if_pos h0, h0]; rfl
  · rw [if_neg h0, if_neg (by show ¬ (1 : Int) = 0; omega)]
    exact w64_id (n := a.n + 1) (by omega)
theorem rfind_mem {k : Int} {w : WinT} {l : List RowT} {r : RowT} (h : rFind k w l = some r) : r ∈ l ∧ IsR k w r := by
  unfold rFind at h
  exact ⟨List.mem_of_find?_eq_some h, by simpa using List.find?_some h⟩
theorem into_sum {j : JobT} {m k v : Int} {w : WinT} {l : List RowT} {q : List RowT × List PaneT} {B : Int} (hr : RiseR l) (hB : 0 ≤ B ∧ B ≤ 900000) (hA : AllN B l) (he : intoL j m k v w l = some q) : sumN q.1 = sumN l + 1 ∧ AllN (B + 1) q.1 := by
  unfold intoL at he
  split at he
  · cases he
  · cases he
    obtain ⟨r0, hr0⟩ : ∃ r0, r0 = (rFind k w l).getD (nrow k w) := ⟨_, rfl⟩
    rw [← hr0]
    have hk : IsR k w r0 := by rw [hr0]; exact getD_is
    obtain ⟨t1, t2, t3⟩ := tellS_all j m (addR r0 v)
    have ek : (tellS j m (addR r0 v)).1.key = k := t2.trans (isR_eq hk).1
    have ew : (tellS j m (addR r0 v)).1.win = w := t3.trans (isR_eq hk).2
    have hb0 : 0 ≤ r0.all.n ∧ r0.all.n ≤ B := by
      rw [hr0]
      cases hf : rFind k w l with
      | none => exact ⟨Int.le_refl _, hB.1⟩
      | some r => have := hA r (rfind_mem hf).1; exact ⟨by show 0 ≤ r.all.n; omega, this.2⟩
    have hn : (tellS j m (addR r0 v)).1.all.n = r0.all.n + 1 := by
      rw [t1]
      exact add_n (a := r0.all) (by omega)
    have hs := sumN_rOut (k := k) (w := w) hr
    constructor
    · show sumN (rPut (tellS j m (addR r0 v)).1 l) = _
      unfold rPut
      rw [sumN_rIns, hn, ek, ew]
      cases hf : rFind k w l with
      | none => rw [hf] at hs hr0; rw [hr0]; have h : sumN (rOut k w l) + 0 = sumN l := hs; show (0 : Int) + 1 + _ = _; omega
      | some r => rw [hf] at hs hr0; rw [hr0]; have h : sumN (rOut k w l) + r.all.n = sumN l := hs; show r.all.n + 1 + _ = _; omega
    · intro r h
      rcases mem_rPut.1 h with e | ⟨h, _⟩
      · rw [e, hn]; omega
      · have := hA r h; omega
theorem fold_n : ∀ (L : List AggT) (a : AggT) (B : Int), 1 ≤ a.n → B ≤ 1000000 → (∀ b, b ∈ L → 1 ≤ b.n ∧ b.n ≤ B) → a.n + B * (L.length : Int) ≤ 1000000000000 → (L.foldl aggB a).n = a.n + sumI (L.map (·.n))
  | [], a, _, _, _, _, _ => by show a.n = a.n + 0; omega
  | b :: L, a, B, h1, hB, hb, hl => by
    have hb0 := hb b (by simp)
    have hlen : B * (L.length : Int) + B ≤ 1000000000000 - a.n := by
      have e : B * (((b :: L).length : Nat) : Int) = B * (L.length : Int) + B := by
        rw [List.length_cons]
        have : ((L.length + 1 : Nat) : Int) = (L.length : Int) + 1 := rfl
        rw [this, Int.mul_add, Int.mul_one]
      omega
    have hp : 0 ≤ B * (L.length : Int) := Int.mul_nonneg (by omega) (Int.natCast_nonneg _)
    have hn : (aggB a b).n = a.n + b.n := by
      unfold aggB
      rw [if_neg (by omega), if_neg (by omega)]
      exact w64_id (n := a.n + b.n) (by omega)
    rw [List.foldl_cons, fold_n L (aggB a b) B (by omega) hB (fun c hc => hb c (List.mem_cons_of_mem _ hc)) (by rw [hn]; omega), hn]
    show _ = a.n + (b.n + sumI (L.map (·.n)))
    omega
theorem sumN_split (k : Int) (w : WinT) : ∀ l, sumN (oldL k w l) + sumN (restL k w l) = sumN l
  | [] => rfl
  | r :: l => by
    have ih := sumN_split k w l
    unfold oldL restL at *
    rw [List.filter_cons, List.filter_cons]
    cases h : tchR k w r
    · simp only [Bool.not_false, if_true, Bool.false_eq_true, if_false, sumN_cons]; omega
    · simp only [Bool.not_true, if_true, Bool.false_eq_true, if_false, sumN_cons]; omega
end Go.Rk
/- What was taken is counted in a row, or told too late. -/
namespace Go.Rk
set_option linter.unusedSimpArgs false
set_option linter.unusedVariables false
theorem sess_sum {j : JobT} {m k v : Int} {w : WinT} {l : List RowT} {q : List RowT × List PaneT} {B : Int} (hr : RiseR l) (hB : 0 ≤ B ∧ B ≤ 900000) (hl : l.length ≤ 1000) (hA : AllN B l) (hw : w.s < w.e) (he : sessL j m k v w l = some q) : sumN q.1 = sumN l + 1 := by
  unfold sessL at he
  split at he
  · cases he
  · split at he
    · exact (into_sum hr hB hA he).1
    · cases he
      obtain ⟨a0, ha0⟩ : ∃ a0 : AggT, a0 = ((oldL k w l).map (·.all)).foldl aggB (agg1 v) := ⟨_, rfl⟩
      rw [← ha0]
      obtain ⟨r0, hr0⟩ : ∃ r0 : RowT, r0 = ⟨k, spanL w (oldL k w l), a0, a0, 0, false⟩ := ⟨_, rfl⟩
      rw [← hr0]
      obtain ⟨t1, t2, t3⟩ := tellS_all j m r0
      have hlen : (oldL k w l).length ≤ 1000 := Nat.le_trans (oldL_len k w l) hl
      have hn : a0.n = 1 + sumN (oldL k w l) := by
        rw [ha0]
        have h := fold_n ((oldL k w l).map (·.all)) (agg1 v) B (by show (1 : Int) ≤ 1; decide) (by omega) (fun b hb => by
          obtain ⟨r, hr, rfl⟩ := List.mem_map.1 hb
          exact hA r (List.mem_filter.1 hr).1) (by
            rw [List.length_map]
            have h1 : B * ((oldL k w l).length : Int) ≤ B * 1000 := Int.mul_le_mul_of_nonneg_left (by omega) hB.1
            show (1 : Int) + _ ≤ _
            omega)
        rw [h, List.map_map]
        rfl
      have hk : (tellS j m r0).1.key = k := by rw [t2, hr0]
      have hw2 : (tellS j m r0).1.win = spanL w (oldL k w l) := by rw [t3, hr0]
      show sumN (rPut (tellS j m r0).1 (restL k w l)) = _
      unfold rPut
      rw [sumN_rIns, t1, hk, hw2, rOut_none fun q hq => rest_no hw hq, ← sumN_split k w l]
      have e : r0.all.n = a0.n := by rw [hr0]
      rw [e, hn]
      omega
theorem takeW_sum {j : JobT} {m : Int} {x : ItmT} (hk : ¬ j.kind = 3) : ∀ (ws : List WinT) (l : List RowT) (a : List PaneT) (c : List LatT) (B : Int), RiseR l → 0 ≤ B → B + (ws.length : Int) ≤ 900000 → AllN B l →
    sumN (ws.foldl (takeS j m x) (l, a, c)).1 + ((ws.foldl (takeS j m x) (l, a, c)).2.2.length : Int) = sumN l + (ws.length : Int) + (c.length : Int) := by
  intro ws
  induction ws with
  | nil => intro l a c B _ _ _ _; show sumN l + (c.length : Int) = sumN l + 0 + (c.length : Int); omega
  | cons w ws ih =>
    intro l a c B hr hB hl hA
    have hl1 : B + (ws.length : Int) + 1 ≤ 900000 := by
      have : ((w :: ws).length : Int) = (ws.length : Int) + 1 := rfl
      omega
    have hg : ((w :: ws).length : Int) = (ws.length : Int) + 1 := rfl
    rw [List.foldl_cons]
    cases hq : stepT j m x w l with
    | none =>
      rw [takeS_none (a := (l, a, c)) hq]
      dsimp only
      rw [ih l a (c ++ [(⟨x, w⟩ : LatT)]) B hr hB (by omega) hA, List.length_append, hg]
      show sumN l + (ws.length : Int) + ((c.length + 1 : Nat) : Int) = _
      omega
    | some q =>
      rw [takeS_some (a := (l, a, c)) hq]
      dsimp only
      have he := hq
      unfold stepT at he
      rw [if_neg hk] at he
      obtain ⟨h1, h2⟩ := into_sum hr ⟨hB, by omega⟩ hA he
      rw [ih q.1 (a ++ q.2) c (B + 1) (rise_into hr he) (by omega) (by omega) h2, h1, hg]
      omega
/-- The records of rows and of what came too late are as many as they were, and one for each window. -/
theorem take_sum {j : JobT} {s : OpStT} {x : ItmT} (hok : OpOkP j s) (hx : RecP x) (h280 : s.rows.n ≤ 280) : sumN (opTakeL j s x).2.1 + ((opTakeL j s x).2.2.2.length : Int) = sumN (rowsL s) + ((winsL j x.t).length : Int) := by
  unfold opTakeL
  rw [if_pos ⟨hok, hx, h280⟩]
  show sumN (takeL j s.mark x (winsL j x.t) (rowsL s)).1 + ((takeL j s.mark x (winsL j x.t) (rowsL s)).2.2.length : Int) = _
  have hr := rise_ok hok
  have hA : AllN 1000 (rowsL s) := all_ok hok
  unfold takeL
  by_cases hk : j.kind = 3
  · have ht := recP_t hx
    have hj := hok.1
    unfold JobOkP at hj
    rw [winsL_sess hk (by omega) ht.1 ht.2]
    rw [List.foldl_cons, List.foldl_nil]
    cases hq : stepT j s.mark x ⟨x.t, x.t + j.size⟩ (rowsL s) with
    | none => rw [takeS_none (a := (rowsL s, [], [])) hq]; rfl
    | some q =>
      rw [takeS_some (a := (rowsL s, [], [])) hq]
      have he := hq
      unfold stepT at he
      rw [if_pos hk] at he
      have hlen : (rowsL s).length ≤ 1000 := by unfold rowsL; simp; omega
      have h := sess_sum hr (B := 1000) (by omega) hlen hA (by show x.t < x.t + j.size; omega) he
      show sumN q.1 + 0 = sumN (rowsL s) + 1
      omega
  · have h := takeW_sum hk (m := s.mark) (x := x) (winsL j x.t) (rowsL s) [] [] 1000 hr (by omega) (by have := winsL_len j x.t; omega) hA
    rw [h]
    show _ + 0 = _
    omega
end Go.Rk
/- What came too late is the record; where all of it did, nothing changes. -/
namespace Go.Rk
set_option linter.unusedSimpArgs false
set_option linter.unusedVariables false
theorem takeS_late {j : JobT} {m : Int} {x : ItmT} (ws : List WinT) : ∀ (l : List RowT) (a : List PaneT) (c : List LatT) (t : LatT), t ∈ (ws.foldl (takeS j m x) (l, a, c)).2.2 → t ∈ c ∨ (t.itm = x ∧ t.win ∈ ws ∧ (j.kind ≠ 3 → w64 (t.win.e + j.late) ≤ m)) := by
  induction ws with
  | nil => intro l a c t h; exact .inl h
  | cons w ws ih =>
    intro l a c t h
    rw [List.foldl_cons] at h
    cases hq : stepT j m x w l with
    | none =>
      rw [takeS_none (a := (l, a, c)) hq] at h
      dsimp only at h
      rcases ih _ _ _ _ h with h | ⟨h1, h2, h3⟩
      · rcases List.mem_append.1 h with h | h
        · exact .inl h
        · have e := List.mem_singleton.1 h
          subst e
          refine .inr ⟨rfl, by simp, fun hk => ?_⟩
          unfold stepT intoL at hq
          rw [if_neg hk] at hq
          by_cases hh : w64 (w.e + j.late) ≤ m
          · exact hh
          · rw [if_neg hh] at hq; cases hq
      · exact .inr ⟨h1, List.mem_cons_of_mem _ h2, h3⟩
    | some q =>
      rw [takeS_some (a := (l, a, c)) hq] at h
      dsimp only at h
      rcases ih _ _ _ _ h with h | ⟨h1, h2, h3⟩
      · exact .inl h
      · exact .inr ⟨h1, List.mem_cons_of_mem _ h2, h3⟩
theorem takeS_all {j : JobT} {m : Int} {x : ItmT} (ws : List WinT) : ∀ (l : List RowT) (a : List PaneT) (c : List LatT), (ws.foldl (takeS j m x) (l, a, c)).2.2.length ≤ c.length + ws.length ∧
    (c.length + ws.length ≤ (ws.foldl (takeS j m x) (l, a, c)).2.2.length → (ws.foldl (takeS j m x) (l, a, c)).1 = l ∧ (ws.foldl (takeS j m x) (l, a, c)).2.1 = a) := by
  induction ws with
  | nil => intro l a c; exact ⟨Nat.le_refl _, fun _ => ⟨rfl, rfl⟩⟩
  | cons w ws ih =>
    intro l a c
    rw [List.foldl_cons]
    cases hq : stepT j m x w l with
    | none =>
      rw [takeS_none (a := (l, a, c)) hq]
      dsimp only
      have h := ih l a (c ++ [(⟨x, w⟩ : LatT)])
      rw [List.length_append] at h
      simp only [List.length_cons, List.length_nil] at h ⊢
      exact ⟨by omega, fun h2 => h.2 (by omega)⟩
    | some q =>
      rw [takeS_some (a := (l, a, c)) hq]
      dsimp only
      have h := ih q.1 (a ++ q.2) c
      simp only [List.length_cons]
      exact ⟨by omega, fun h2 => by omega⟩
/-- FnOpTake in plain words. -/
theorem take_lates {j : JobT} {s : OpStT} {x : ItmT} {t : LatT} (h : t ∈ (opTakeL j s x).2.2.2) : OpOkP j s ∧ RecP x ∧ t.itm = x ∧ t.win ∈ winsL j x.t ∧ (j.kind ≠ 3 → w64 (t.win.e + j.late) ≤ s.mark) := by
  unfold opTakeL at h
  split at h
  · rename_i hc
    rcases takeS_late _ _ _ _ _ h with h | h
    · cases h
    · exact ⟨hc.1, hc.2.1, h⟩
  · cases h
theorem take_same {j : JobT} {s : OpStT} {x : ItmT} (hok : OpOkP j s) (hx : RecP x) (h280 : s.rows.n ≤ 280) (h : (winsL j x.t).length ≤ (opTakeL j s x).2.2.2.length) : (opTakeL j s x).1 = s.mark ∧ (opTakeL j s x).2.1 = rowsL s ∧ (opTakeL j s x).2.2.1 = [] := by
  unfold opTakeL at *
  rw [if_pos ⟨hok, hx, h280⟩] at *
  exact ⟨rfl, (takeS_all (winsL j x.t) (rowsL s) [] []).2 (by rw [List.length_nil, Nat.zero_add]; exact h)⟩
end Go.Rk
/- Sums that wrap; an operator where all came too late. -/
namespace Go.Rk
set_option linter.unusedSimpArgs false
set_option linter.unusedVariables false
theorem w64_add (a b : Int) : IntKind.i64.wrap (IntKind.i64.wrap a + b) = IntKind.i64.wrap (a + b) := by
  rw [IntKind.wrap_i64, IntKind.wrap_i64, IntKind.wrap_i64]; omega
theorem w64_sub (a b : Int) : IntKind.i64.wrap (IntKind.i64.wrap a - b) = IntKind.i64.wrap (a - b) := by
  rw [IntKind.wrap_i64, IntKind.wrap_i64, IntKind.wrap_i64]; omega
def preN (g : Nat → RowT) (i : Nat) : Int := sumN ((List.range i).map g)
theorem preN_succ (g : Nat → RowT) (i : Nat) : preN g (i + 1) = preN g i + (g i).all.n := by
  unfold preN sumN
  rw [List.range_succ, List.map_append, List.map_append, sumI_app]
  show _ + ((g i).all.n + 0) = _
  omega
theorem preN_lst {l : List RowT} {k : Nat} {G : Nat → RowT} (h : Lst zRow l k G) : preN G k = sumN l := by
  unfold preN
  congr 1
  apply List.ext_getElem?
  intro i
  by_cases hi : i < k
  · rw [List.getElem?_map, List.getElem?_range hi]
    have h2 : i < l.length := by rw [← h.1]; exact hi
    have := h.2 i hi
    rw [Option.map_some, this, List.getD_eq_getElem?_getD, List.getElem?_eq_getElem h2]
    rfl
  · rw [List.getElem?_eq_none (by simp; omega), List.getElem?_eq_none (by rw [← h.1]; omega)]
theorem sum_zero {nw d : Nat} {a b : Int} (h : b + (d : Int) = a + (nw : Int)) : (nw : Int) - (d : Int) + a - b = 0 := by omega
theorem pre_add (a : Int) (g : Nat → RowT) : IntKind.i64.wrap a = IntKind.i64.wrap (a + preN g 0) := by
  show _ = IntKind.i64.wrap (a + 0)
  rw [Int.add_zero]
theorem pre_sub (a : Int) (g : Nat → RowT) : IntKind.i64.wrap a = IntKind.i64.wrap (a - preN g 0) := by
  show _ = IntKind.i64.wrap (a - 0)
  rw [Int.sub_zero]
/-- What is answered, told by numbers, for FnOpTake. -/
theorem take_told (j : JobT) (s : OpStT) (m : ItmT) (x : Int × List RowT × List PaneT × List LatT) (hx : x = opTakeL j s m) (hs : s.rows.n ≤ 280) : ∃ (k : Nat) (G : Nat → RowT) (c : Nat) (P : Nat → PaneT) (d : Nat) (W : Nat → WinT),
    Lst zRow x.2.1 k G ∧ Lst zPan x.2.2.1 c P ∧ Lst zLat x.2.2.2 d (fun i => ⟨m, W i⟩) ∧ k ≤ 400 ∧ c ≤ 40000 ∧ d ≤ 100 ∧
    (¬ (OpOkP j s ∧ RecP m) → x.1 = 0 ∧ k = 0) ∧
    (OpOkP j s → RecP m → preN G k + (d : Int) = preN s.rows.g s.rows.n + ((winsL j m.t).length : Int)) ∧
    (∀ i, i < d → j.kind ≠ 3 → w64 ((W i).e + j.late) ≤ s.mark) ∧
    (OpOkP j s → RecP m → (winsL j m.t).length ≤ d → x.1 = s.mark ∧ k = s.rows.n ∧ G = s.rows.g ∧ c = 0) := by
  have hlen := opTakeL_len j s m
  rw [← hx] at hlen
  obtain ⟨d, Q, hQ⟩ := lst_ex zLat x.2.2.2
  have hW : ∀ i, i < d → (Q i).itm = m ∧ (j.kind ≠ 3 → w64 ((Q i).win.e + j.late) ≤ s.mark) := fun i hi => by
    have hil : i < x.2.2.2.length := by rw [← hQ.1]; exact hi
    have hmem : Q i ∈ x.2.2.2 := by
      rw [hQ.2 i hi, List.getD_eq_getElem?_getD, List.getElem?_eq_getElem hil]
      exact List.getElem_mem hil
    rw [hx] at hmem
    have h := take_lates hmem
    exact ⟨h.2.2.1, h.2.2.2.2⟩
  have hQ' : Lst zLat x.2.2.2 d (fun i => ⟨m, (Q i).win⟩) := ⟨hQ.1, fun i hi => by
    rw [← hQ.2 i hi, ← (hW i hi).1]⟩
  obtain ⟨k, G, c, P, hG, hP, hall⟩ : ∃ (k : Nat) (G : Nat → RowT) (c : Nat) (P : Nat → PaneT), Lst zRow x.2.1 k G ∧ Lst zPan x.2.2.1 c P ∧ (OpOkP j s → RecP m → (winsL j m.t).length ≤ d → x.1 = s.mark ∧ k = s.rows.n ∧ G = s.rows.g ∧ c = 0) := by
    by_cases h : OpOkP j s ∧ RecP m ∧ (winsL j m.t).length ≤ d
    · have h1 := take_same h.1 h.2.1 hs (by rw [← hx, ← hQ.1]; exact h.2.2)
      rw [← hx] at h1
      refine ⟨s.rows.n, s.rows.g, 0, fun _ => zPan, ?_, ?_, fun _ _ _ => ⟨h1.1, rfl, rfl, rfl⟩⟩
      · rw [h1.2.1]; exact lst_of zRow s.rows.n s.rows.g
      · rw [h1.2.2]; exact ⟨rfl, fun i hi => absurd hi (Nat.not_lt_zero i)⟩
    · obtain ⟨k, G, hG⟩ := lst_ex zRow x.2.1
      obtain ⟨c, P, hP⟩ := lst_ex zPan x.2.2.1
      exact ⟨k, G, c, P, hG, hP, fun a b c => absurd ⟨a, b, c⟩ h⟩
  refine ⟨k, G, c, P, d, fun i => (Q i).win, hG, hP, hQ', by rw [hG.1]; exact hlen.1, by rw [hP.1]; exact hlen.2.1, by rw [hQ.1]; exact hlen.2.2, fun hn => ?_, fun hok hr => ?_, fun i hi => (hW i hi).2, hall⟩
  · have e : x = (0, [], [], []) := by rw [hx]; unfold opTakeL; rw [if_neg (fun h => hn ⟨h.1, h.2.1⟩)]
    exact ⟨by rw [e], by rw [hG.1, e]; rfl⟩
  · have h := take_sum hok hr hs
    rw [← hx] at h
    rw [preN_lst hG, hQ.1, h]
    rfl
end Go.Rk
/- Operators that are ok, by lists; a record leaves them so. -/
namespace Go.Rk
set_option linter.unusedSimpArgs false
set_option linter.unusedVariables false
def OkL (j : JobT) (m : Int) (l : List RowT) : Prop :=
  (∀ r, r ∈ l → RowOkP j r m) ∧ RiseR l ∧ (j.kind = 3 → l.Pairwise fun a b => ¬ (a.key = b.key ∧ TouchP a.win b.win))
theorem okL_of {j : JobT} {s : OpStT} (h : OpOkP j s) : OkL j s.mark (rowsL s) := by
  refine ⟨fun r hr => ?_, rise_ok h, fun h3 => ?_⟩
  · obtain ⟨i, hi, rfl⟩ := List.mem_map.1 hr
    exact (h.2.2.2 i (List.mem_range.1 hi)).1
  · unfold rowsL
    rw [List.pairwise_map]
    refine List.Pairwise.imp_of_mem ?_ List.pairwise_lt_range
    intro a b ha hb hab
    exact (h.2.2.2 b (List.mem_range.1 hb)).2.2 h3 a hab
theorem pw_at {α : Type} {z : α} {R : α → α → Prop} {l : List α} {n : Nat} {G : Nat → α} (hL : Lst z l n G) (hp : l.Pairwise R) {a b : Nat} (hab : a < b) (hb : b < n) : R (G a) (G b) := by
  obtain ⟨h1, e1⟩ := List.getElem?_eq_some_iff.1 (lst_at hL (show a < n by omega))
  obtain ⟨h2, e2⟩ := List.getElem?_eq_some_iff.1 (lst_at hL hb)
  have := List.pairwise_iff_getElem.1 hp a b h1 h2 hab
  rw [e1, e2] at this
  exact this
theorem lst_in {α : Type} {z : α} {l : List α} {n : Nat} {G : Nat → α} (hL : Lst z l n G) {a : Nat} (h : a < n) : G a ∈ l := List.mem_of_getElem? (lst_at hL h)
theorem ok_of {j : JobT} {mk : Int} {l : List RowT} {n : Nat} {G : Nat → RowT} (hL : Lst zRow l n G) (hn : n ≤ maxLen) (hj : JobOkP j) (hm : 0 ≤ mk ∧ mk ≤ 1000) (hl : n ≤ 300) (h : OkL j mk l) : OpOkP j ⟨mk, ⟨n, G, hn⟩⟩ := by
  refine ⟨hj, hm, hl, fun i hi => ⟨h.1 _ (lst_in hL hi), fun h0 => ?_, fun h3 k hk => ?_⟩⟩
  · exact rise_at hL h.2.1 (show i - 1 < i by omega) hi
  · exact pw_at hL (h.2.2 h3) hk hi
theorem rowsL_lst {mk : Int} {l : List RowT} {n : Nat} {G : Nat → RowT} (hL : Lst zRow l n G) (hn : n ≤ maxLen) : rowsL ⟨mk, ⟨n, G, hn⟩⟩ = l := (lst_eq hL).symm
theorem mul_bd {n l : Int} (hn : 1 ≤ n ∧ n ≤ 1000) (hl : -9 ≤ l ∧ l ≤ 9) : -9000 ≤ n * l ∧ n * l ≤ 9000 := by
  have h1 : n * l ≤ n * 9 := Int.mul_le_mul_of_nonneg_left hl.2 (by omega)
  have h2 : n * (-9) ≤ n * l := Int.mul_le_mul_of_nonneg_left hl.1 (by omega)
  omega
theorem wrap_mul {n l : Int} (hn : 1 ≤ n ∧ n ≤ 1000) (hl : -9 ≤ l ∧ l ≤ 9) : IntKind.i64.wrap (n * l) = n * l := by
  have := mul_bd hn hl
  exact IntWalk.i64_in _ (by omega)
theorem aggOk_z : AggOkP zAgg := .inl ⟨rfl, rfl, rfl, rfl⟩
theorem aggOk_n {a : AggT} (h : AggOkP a) : 0 ≤ a.n ∧ a.n ≤ 1000 := by unfold AggOkP at h; omega
theorem aggOk_zero {a : AggT} (h : AggOkP a) (h0 : a.n = 0) : a = zAgg := by
  rcases h with ⟨h1, h2, h3, h4⟩ | ⟨h1, _⟩
  · cases a; simp_all [zAgg]
  · exact absurd h0 h1
theorem aggB_nn {a b : AggT} (ha : 0 ≤ a.n ∧ a.n ≤ 1000000000) (hb : 0 ≤ b.n ∧ b.n ≤ 1000000000) : (aggB a b).n = a.n + b.n := by
  unfold aggB
  by_cases h : a.n = 0
  · rw [if_pos h]; omega
  · rw [if_neg h]
    by_cases h2 : b.n = 0
    · rw [if_pos h2]; omega
    · rw [if_neg h2]
      exact w64_id (n := a.n + b.n) (by omega)
theorem aggOk_both {a b : AggT} (ha : AggOkP a) (hb : AggOkP b) (hn : a.n + b.n ≤ 1000) : AggOkP (aggB a b) := by
  unfold aggB
  by_cases h : a.n = 0
  · rw [if_pos h]; exact hb
  · rw [if_neg h]
    by_cases h2 : b.n = 0
    · rw [if_pos h2]; exact ha
    · rw [if_neg h2]
      rcases ha with ⟨h1, _⟩ | ⟨_, a1, a2, a3, a4⟩
      · exact absurd h1 h
      rcases hb with ⟨h1, _⟩ | ⟨_, b1, b2, b3, b4⟩
      · exact absurd h1 h2
      rw [wrap_mul a1 a2, wrap_mul a1 (show -9 ≤ a.most ∧ a.most ≤ 9 by omega)] at a4
      rw [wrap_mul b1 b2, wrap_mul b1 (show -9 ≤ b.most ∧ b.most ≤ 9 by omega)] at b4
      have am := mul_bd a1 a2
      have am2 := mul_bd a1 (show -9 ≤ a.most ∧ a.most ≤ 9 by omega)
      have bm := mul_bd b1 b2
      have bm2 := mul_bd b1 (show -9 ≤ b.most ∧ b.most ≤ 9 by omega)
      have en : w64 (a.n + b.n) = a.n + b.n := w64_id (by omega)
      have es : w64 (a.sum + b.sum) = a.sum + b.sum := w64_id (by omega)
      obtain ⟨lo, hlo⟩ : ∃ x, x = (if b.least < a.least then b.least else a.least) := ⟨_, rfl⟩
      obtain ⟨hi, hhi⟩ : ∃ x, x = (if a.most < b.most then b.most else a.most) := ⟨_, rfl⟩
      have l1 : lo ≤ a.least ∧ lo ≤ b.least ∧ -9 ≤ lo ∧ lo ≤ 9 := by rw [hlo]; split <;> omega
      have l2 : a.most ≤ hi ∧ b.most ≤ hi ∧ -9 ≤ hi ∧ hi ≤ 9 := by rw [hhi]; split <;> omega
      have c1 : a.n * lo ≤ a.n * a.least := Int.mul_le_mul_of_nonneg_left l1.1 (by omega)
      have c2 : b.n * lo ≤ b.n * b.least := Int.mul_le_mul_of_nonneg_left l1.2.1 (by omega)
      have c3 : a.n * a.most ≤ a.n * hi := Int.mul_le_mul_of_nonneg_left l2.1 (by omega)
      have c4 : b.n * b.most ≤ b.n * hi := Int.mul_le_mul_of_nonneg_left l2.2.1 (by omega)
      have e1 : (a.n + b.n) * lo = a.n * lo + b.n * lo := Int.add_mul _ _ _
      have e2 : (a.n + b.n) * hi = a.n * hi + b.n * hi := Int.add_mul _ _ _
      rw [← hlo, ← hhi]
      refine .inr ⟨?_, ?_, ?_, ?_, ?_⟩
      · show w64 (a.n + b.n) ≠ 0
        rw [en]; omega
      · show 1 ≤ w64 (a.n + b.n) ∧ w64 (a.n + b.n) ≤ 1000
        rw [en]; omega
      · exact ⟨l1.2.2.1, l1.2.2.2⟩
      · show lo ≤ hi ∧ hi ≤ 9
        omega
      · show IntKind.i64.wrap (w64 (a.n + b.n) * lo) ≤ w64 (a.sum + b.sum) ∧ w64 (a.sum + b.sum) ≤ IntKind.i64.wrap (w64 (a.n + b.n) * hi)
        rw [en, es, wrap_mul (show 1 ≤ a.n + b.n ∧ a.n + b.n ≤ 1000 by omega) ⟨l1.2.2.1, l1.2.2.2⟩, wrap_mul (show 1 ≤ a.n + b.n ∧ a.n + b.n ≤ 1000 by omega) ⟨l2.2.2.1, l2.2.2.2⟩, e1, e2]
        omega
theorem aggOk_one {v : Int} (h : -9 ≤ v ∧ v ≤ 9) : AggOkP (agg1 v) := by
  refine .inr ⟨by show (1 : Int) ≠ 0; decide, by show (1 : Int) ≤ 1 ∧ (1 : Int) ≤ 1000; decide, h, by show v ≤ v ∧ v ≤ 9; omega, ?_⟩
  show IntKind.i64.wrap (1 * v) ≤ v ∧ v ≤ IntKind.i64.wrap (1 * v)
  rw [Int.one_mul, IntWalk.i64_in _ (by omega)]
  exact ⟨Int.le_refl _, Int.le_refl _⟩
theorem aggOk_add {a : AggT} {v : Int} (ha : AggOkP a) (hv : -9 ≤ v ∧ v ≤ 9) (hn : a.n ≤ 999) : AggOkP (aggAdd a v) := aggOk_both ha (aggOk_one hv) (by show a.n + 1 ≤ 1000; omega)
theorem aggOk_fold : ∀ (L : List AggT) (a : AggT), AggOkP a → (∀ b, b ∈ L → AggOkP b) → a.n + sumI (L.map (·.n)) ≤ 1000 → AggOkP (L.foldl aggB a) ∧ (L.foldl aggB a).n = a.n + sumI (L.map (·.n))
  | [], a, ha, _, _ => ⟨ha, by show a.n = a.n + 0; omega⟩
  | b :: L, a, ha, hb, hn => by
    have hb0 := hb b (by simp)
    have e : sumI ((b :: L).map (·.n)) = b.n + sumI (L.map (·.n)) := rfl
    have hp : 0 ≤ sumI (L.map (·.n)) := by
      have : ∀ M : List AggT, (∀ b, b ∈ M → AggOkP b) → 0 ≤ sumI (M.map (·.n)) := by
        intro M
        induction M with
        | nil => intro _; exact Int.le_refl _
        | cons x M ih =>
          intro h
          have h1 := aggOk_n (h x (by simp))
          have h2 := ih fun y hy => h y (List.mem_cons_of_mem _ hy)
          show 0 ≤ x.n + sumI (M.map (·.n))
          omega
      exact this L fun y hy => hb y (List.mem_cons_of_mem _ hy)
    have h1 := aggOk_n ha
    have h2 := aggOk_n hb0
    rw [e] at hn ⊢
    have en := aggB_nn (a := a) (b := b) (by omega) (by omega)
    have := aggOk_fold L (aggB a b) (aggOk_both ha hb0 (by omega)) (fun c hc => hb c (List.mem_cons_of_mem _ hc)) (by rw [en]; omega)
    rw [List.foldl_cons]
    refine ⟨this.1, ?_⟩
    rw [this.2, en]; omega
end Go.Rk
/- A record leaves an operator ok, and tells panes that are. -/
namespace Go.Rk
set_option linter.unusedSimpArgs false
set_option linter.unusedVariables false
theorem winFrom_nn {j : JobT} (hj : JobOkP j) {t : Int} (h0 : 0 ≤ t) : 0 ≤ winFrom j t ∧ 1 ≤ winStep j := by
  unfold JobOkP at hj
  unfold winFrom winStep
  have c : t.tmod j.size ≤ t := by
    rw [Int.tmod_eq_emod_of_nonneg h0]
    have := Int.emod_add_mul_ediv t j.size
    have := Int.mul_nonneg (show 0 ≤ j.size by omega) (Int.ediv_nonneg h0 (show 0 ≤ j.size by omega))
    omega
  refine ⟨?_, ?_⟩ <;> split <;> (try split) <;> omega
theorem winOk_of {w : WinT} (h : 0 ≤ w.s ∧ w.s ≤ 60 ∧ w.s < w.e ∧ w.e ≤ 120) : WinOkP w := by
  unfold WinOkP
  rw [IntWalk.i64_in _ (by omega)]
  omega
theorem winOk_d {w : WinT} (h : WinOkP w) : 0 ≤ w.s ∧ w.s ≤ 60 ∧ w.s < w.e ∧ w.e ≤ 120 := by
  unfold WinOkP at h
  rw [IntWalk.i64_in _ (by omega)] at h
  omega
theorem winsL_ok {j : JobT} (hj : JobOkP j) {t : Int} (ht : 0 ≤ t ∧ t ≤ 60) {w : WinT} (hw : w ∈ winsL j t) : WinOkP w := by
  obtain ⟨h1, h2, h3, i, h4⟩ := winsL_mem hw
  have hp := winFrom_nn hj ht.1
  have := Int.mul_nonneg (show 0 ≤ winStep j by omega) (Int.natCast_nonneg i)
  unfold JobOkP at hj
  exact winOk_of ⟨by omega, by omega, by omega, by omega⟩
theorem late_w {j : JobT} (hj : JobOkP j) {w : WinT} (hw : WinOkP w) : w64 (w.e + j.late) = w.e + j.late := by
  have := winOk_d hw
  unfold JobOkP at hj
  exact w64_id (by omega)
theorem tell_ok {j : JobT} {m : Int} {r : RowT} (hk : 0 ≤ r.key ∧ r.key ≤ 3) (hw : WinOkP r.win) (ha : AggOkP r.all) (hf : AggOkP r.fresh) (h0 : 1 ≤ r.fresh.n) (h1 : r.fresh.n ≤ r.all.n) (hto : 0 ≤ r.told ∧ r.told ≤ 1499) (hm : m < IntKind.i64.wrap (r.win.e + j.late))
    (ht : r.timely = true → 0 < r.told ∧ r.win.e ≤ m) (hn : r.timely = false → r.told = 0) : RowOkP j (tellS j m r).1 m ∧ ∀ p, p ∈ (tellS j m r).2 → PaneOkP p ∧ p.key = r.key := by
  unfold tellS
  by_cases hme : m < r.win.e
  · rw [if_pos hme]
    have htf : r.timely = false := by
      cases h : r.timely with
      | false => rfl
      | true => have := ht h; omega
    refine ⟨⟨hk, hw, ha, hf, (show r.all.n ≠ 0 by omega), h1, (show 0 ≤ r.told ∧ r.told ≤ 1500 by omega), hm, ?_, ?_, ?_⟩, fun p hp => by simp at hp⟩
    · show r.timely = true ↔ r.win.e ≤ m
      rw [htf]; constructor
      · intro h; cases h
      · intro h; omega
    · show 0 < r.told ↔ r.win.e ≤ m
      have := hn htf; omega
    · show r.fresh.n = 0 ↔ r.win.e ≤ m
      omega
  · rw [if_neg hme]
    have et : w64 (r.told + 1) = r.told + 1 := w64_id (by omega)
    refine ⟨⟨hk, hw, ha, aggOk_z, by show r.all.n ≠ 0; omega, by show (0 : Int) ≤ r.all.n; omega, ?_, hm, ?_, ?_, ?_⟩, fun p hp => ?_⟩
    · show 0 ≤ w64 (r.told + 1) ∧ w64 (r.told + 1) ≤ 1500
      rw [et]; omega
    · show true = true ↔ r.win.e ≤ m
      exact ⟨fun _ => by omega, fun _ => rfl⟩
    · show 0 < w64 (r.told + 1) ↔ r.win.e ≤ m
      rw [et]; omega
    · show (0 : Int) = 0 ↔ r.win.e ≤ m
      exact ⟨fun _ => by omega, fun _ => rfl⟩
    · simp only [List.mem_singleton] at hp
      subst hp
      refine ⟨⟨hk, hw, by show 0 ≤ r.told ∧ r.told ≤ 1500; omega, ?_, ?_⟩, rfl⟩
      · show AggOkP (if j.piece = true then r.fresh else r.all)
        split
        · exact hf
        · exact ha
      · have hag : 0 < (if j.piece = true then r.fresh else r.all).n := by split <;> omega
        show (kindT r = 1 ∧ r.told = 0 ∧ 0 < _) ∨ (kindT r = 2 ∧ 0 < r.told ∧ 0 < _) ∨ (kindT r = 3 ∧ 0 < r.told ∧ _)
        unfold kindT
        cases h : r.timely with
        | false => exact .inl ⟨by simp, hn h, hag⟩
        | true => exact .inr (.inl ⟨by simp, (ht h).1, hag⟩)
theorem pw_rIns {S : RowT → RowT → Prop} {r : RowT} : ∀ {l : List RowT}, l.Pairwise S → (∀ q, q ∈ l → S r q ∧ S q r) → (rIns r l).Pairwise S
  | [], _, _ => by simp [rIns]
  | q :: l, h, hn => by
    have h' := h
    rw [List.pairwise_cons] at h
    show (if RA r q then r :: q :: l else q :: rIns r l).Pairwise S
    split
    · rw [List.pairwise_cons]
      exact ⟨fun x hx => (hn x hx).1, h'⟩
    · rw [List.pairwise_cons]
      refine ⟨fun x hx => ?_, pw_rIns h.2 fun y hy => hn y (List.mem_cons_of_mem _ hy)⟩
      rcases mem_rIns.1 hx with rfl | hx
      · exact (hn q (by simp)).2
      · exact h.1 x hx
theorem pw_rPut {S : RowT → RowT → Prop} {r : RowT} {l : List RowT} (h : l.Pairwise S) (hn : ∀ q, q ∈ l → ¬ IsR r.key r.win q → S r q ∧ S q r) : (rPut r l).Pairwise S :=
  pw_rIns (List.Pairwise.filter _ h) fun q hq => hn q (mem_rOut.1 hq).1 (mem_rOut.1 hq).2
theorem touch_sym {a b : WinT} (h : TouchP a b) : TouchP b a := ⟨h.2, h.1⟩
/-- What a window has in it, or nothing yet. -/
theorem getD_ok {j : JobT} {m k : Int} {w : WinT} {l : List RowT} (h : ∀ r, r ∈ l → RowOkP j r m) {r0 : RowT} (hr0 : r0 = (rFind k w l).getD (nrow k w)) : (r0 ∈ l ∧ RowOkP j r0 m) ∨ r0 = nrow k w := by
  rw [hr0]
  cases hf : rFind k w l with
  | none => exact .inr rfl
  | some r => exact .inl ⟨(rfind_mem hf).1, h r (rfind_mem hf).1⟩
theorem add_row_ok {j : JobT} {m k v : Int} {w : WinT} {r0 : RowT} (hr : RowOkP j r0 m ∨ r0 = nrow k w) (hkw : IsR k w r0) (hk : 0 ≤ k ∧ k ≤ 3) (hv : -9 ≤ v ∧ v ≤ 9) (hw : WinOkP w) (hm : m < w64 (w.e + j.late)) (hn : r0.all.n ≤ 999) (ht : r0.told ≤ 1499) :
    RowOkP j (tellS j m (addR r0 v)).1 m ∧ (∀ p, p ∈ (tellS j m (addR r0 v)).2 → PaneOkP p ∧ p.key = k) ∧ (tellS j m (addR r0 v)).1.all.n = r0.all.n + 1 ∧ (tellS j m (addR r0 v)).1.told ≤ r0.told + 1 := by
  obtain ⟨ek, ew⟩ := isR_eq hkw
  have hb : AggOkP r0.all ∧ AggOkP r0.fresh ∧ r0.fresh.n ≤ r0.all.n ∧ 0 ≤ r0.told ∧ (r0.timely = true → 0 < r0.told ∧ r0.win.e ≤ m) ∧ (r0.timely = false → r0.told = 0) := by
    rcases hr with h | h
    · obtain ⟨_, _, a1, a2, _, a3, a4, _, a5, a6, _⟩ := h
      refine ⟨a1, a2, a3, a4.1, fun h => ⟨a6.2 (a5.1 h), a5.1 h⟩, fun h => ?_⟩
      have h9 : ¬ r0.win.e ≤ m := fun h2 => by have := a5.2 h2; rw [h] at this; cases this
      have : ¬ 0 < r0.told := fun h2 => h9 (a6.1 h2)
      omega
    · rw [h]
      exact ⟨aggOk_z, aggOk_z, Int.le_refl _, Int.le_refl _, (fun h => by cases h), (fun _ => rfl)⟩
  obtain ⟨a1, a2, a3, a4, a5, a6⟩ := hb
  have n1 := aggOk_n a1
  have n2 := aggOk_n a2
  have e1 : (aggAdd r0.all v).n = r0.all.n + 1 := add_n ⟨n1.1, by omega⟩
  have e2 : (aggAdd r0.fresh v).n = r0.fresh.n + 1 := add_n ⟨n2.1, by omega⟩
  have h := tell_ok (j := j) (m := m) (r := addR r0 v) (by show 0 ≤ r0.key ∧ r0.key ≤ 3; rw [ek]; exact hk) (by show WinOkP r0.win; rw [ew]; exact hw) (aggOk_add a1 hv hn) (aggOk_add a2 hv (by omega))
    (by show 1 ≤ (aggAdd r0.fresh v).n; omega) (by show (aggAdd r0.fresh v).n ≤ (aggAdd r0.all v).n; omega) ⟨a4, ht⟩ (by show m < IntKind.i64.wrap (r0.win.e + j.late); rw [ew]; exact hm) a5 a6
  refine ⟨h.1, fun p hp => ⟨(h.2 p hp).1, (h.2 p hp).2.trans ek⟩, ?_, ?_⟩
  · rw [(tellS_all j m (addR r0 v)).1]; exact e1
  · unfold tellS
    split
    · show r0.told ≤ r0.told + 1
      omega
    · show w64 (r0.told + 1) ≤ r0.told + 1
      rw [w64_id (by omega)]
      exact Int.le_refl _
/-- One row more, or one that was turned. -/
theorem put_ok {j : JobT} {m : Int} {r : RowT} {l : List RowT} (h : OkL j m l) (hr : RowOkP j r m) (ht : j.kind = 3 → ∀ q, q ∈ l → ¬ IsR r.key r.win q → q.key = r.key → ¬ TouchP q.win r.win) : OkL j m (rPut r l) := by
  refine ⟨fun q hq => ?_, rise_rPut h.2.1, fun h3 => pw_rPut (h.2.2 h3) fun q hq hn => ⟨fun hc => ?_, fun hc => ?_⟩⟩
  · rcases mem_rPut.1 hq with rfl | ⟨hq, _⟩
    · exact hr
    · exact h.1 q hq
  · exact ht h3 q hq hn hc.1.symm (touch_sym hc.2)
  · exact ht h3 q hq hn hc.1 hc.2
theorem into_ok {j : JobT} {m k v : Int} {w : WinT} {l : List RowT} {q : List RowT × List PaneT} {B T : Int} (h : OkL j m l) (hk : 0 ≤ k ∧ k ≤ 3) (hv : -9 ≤ v ∧ v ≤ 9) (hw : WinOkP w) (hB : 0 ≤ B ∧ B ≤ 999) (hT : 0 ≤ T ∧ T ≤ 1499) (hb : ∀ r, r ∈ l → r.all.n ≤ B ∧ r.told ≤ T)
    (ht : j.kind = 3 → ∀ q, q ∈ l → ¬ IsR k w q → q.key = k → ¬ TouchP q.win w) (he : intoL j m k v w l = some q) : OkL j m q.1 ∧ (∀ r, r ∈ q.1 → r.all.n ≤ B + 1 ∧ r.told ≤ T + 1) ∧ ∀ p, p ∈ q.2 → PaneOkP p ∧ p.key = k := by
  unfold intoL at he
  split at he
  · cases he
  · rename_i hm
    cases he
    obtain ⟨r0, hr0⟩ : ∃ r0, r0 = (rFind k w l).getD (nrow k w) := ⟨_, rfl⟩
    rw [← hr0]
    have hkw : IsR k w r0 := by rw [hr0]; exact getD_is
    have hok := getD_ok h.1 hr0
    have hb0 : r0.all.n ≤ B ∧ r0.told ≤ T := by
      rcases hok with ⟨h1, _⟩ | h1
      · exact hb r0 h1
      · rw [h1]; exact ⟨hB.1, hT.1⟩
    obtain ⟨c1, c2, c3, c4⟩ := add_row_ok (v := v) (hok.imp And.right id) hkw hk hv hw (by omega) (by omega) (by omega)
    obtain ⟨t1, t2, t3⟩ := tellS_all j m (addR r0 v)
    have ek : (tellS j m (addR r0 v)).1.key = k := t2.trans (isR_eq hkw).1
    have ew : (tellS j m (addR r0 v)).1.win = w := t3.trans (isR_eq hkw).2
    refine ⟨put_ok h c1 (by rw [ek, ew]; exact ht), fun r hr => ?_, c2⟩
    rcases mem_rPut.1 hr with rfl | ⟨hr, _⟩
    · omega
    · have := hb r hr; omega
end Go.Rk
/- Sessions, records and marks leave an operator ok. -/
namespace Go.Rk
set_option linter.unusedSimpArgs false
set_option linter.unusedVariables false
theorem span_s : ∀ (l : List RowT) (w : WinT), (spanL w l).s = w.s ∨ ∃ r, r ∈ l ∧ (spanL w l).s = r.win.s
  | [], w => .inl rfl
  | r :: l, w => by
    have e : spanL w (r :: l) = spanL (winSpan w r.win) l := rfl
    rw [e]
    rcases span_s l (winSpan w r.win) with h | ⟨q, hq, h⟩
    · rw [h]
      by_cases c : (winSpan w r.win).s = w.s
      · exact .inl c
      · refine .inr ⟨r, by simp, ?_⟩
        unfold winSpan at c ⊢
        simp only at c ⊢
        split at c <;> (try split) <;> first | omega | (exfalso; omega)
    · exact .inr ⟨q, List.mem_cons_of_mem _ hq, h⟩
theorem span_e : ∀ (l : List RowT) (w : WinT), (spanL w l).e = w.e ∨ ∃ r, r ∈ l ∧ (spanL w l).e = r.win.e
  | [], w => .inl rfl
  | r :: l, w => by
    have e : spanL w (r :: l) = spanL (winSpan w r.win) l := rfl
    rw [e]
    rcases span_e l (winSpan w r.win) with h | ⟨q, hq, h⟩
    · rw [h]
      by_cases c : (winSpan w r.win).e = w.e
      · exact .inl c
      · refine .inr ⟨r, by simp, ?_⟩
        unfold winSpan at c ⊢
        simp only at c ⊢
        split at c <;> (try split) <;> first | omega | (exfalso; omega)
    · exact .inr ⟨q, List.mem_cons_of_mem _ hq, h⟩
theorem pw_all {α : Type} {R : α → α → Prop} (hs : ∀ x y, R x y → R y x) (hr : ∀ x, R x x) : ∀ {l : List α}, l.Pairwise R → ∀ x, x ∈ l → ∀ y, y ∈ l → R x y
  | [], _, x, hx, _, _ => absurd hx (by simp)
  | a :: l, h, x, hx, y, hy => by
    rw [List.pairwise_cons] at h
    rcases List.mem_cons.1 hx with e | hx <;> rcases List.mem_cons.1 hy with f | hy
    · rw [e, f]; exact hr a
    · rw [e]; exact h.1 y hy
    · rw [f]; exact hs _ _ (h.1 x hx)
    · exact pw_all hs hr h.2 x hx y hy
theorem old_mem {k : Int} {w : WinT} {l : List RowT} {r : RowT} (h : r ∈ oldL k w l) : r ∈ l ∧ r.key = k ∧ TouchP r.win w := by
  unfold oldL at h
  rw [List.mem_filter] at h
  have h2 : decide (r.key = k ∧ (r.win.s < w.e ∧ w.s < r.win.e)) = true := h.2
  have h3 := of_decide_eq_true h2
  exact ⟨h.1, h3⟩
theorem rest_mem {k : Int} {w : WinT} {l : List RowT} {r : RowT} (h : r ∈ restL k w l) : r ∈ l ∧ ¬ (r.key = k ∧ TouchP r.win w) := by
  unfold restL at h
  rw [List.mem_filter] at h
  have h2 : (!decide (r.key = k ∧ (r.win.s < w.e ∧ w.s < r.win.e))) = true := h.2
  simp only [Bool.not_eq_true', decide_eq_false_iff_not] at h2
  exact ⟨h.1, h2⟩
theorem old_in {k : Int} {w : WinT} {l : List RowT} {r : RowT} (h : r ∈ l) (hk : r.key = k) (ht : TouchP r.win w) : r ∈ oldL k w l := by
  unfold oldL
  rw [List.mem_filter]
  exact ⟨h, by show decide (r.key = k ∧ (r.win.s < w.e ∧ w.s < r.win.e)) = true; exact decide_eq_true (show r.key = k ∧ (r.win.s < w.e ∧ w.s < r.win.e) from ⟨hk, ht⟩)⟩
theorem span_ok {j : JobT} {m k : Int} {w : WinT} {l : List RowT} (h : ∀ r, r ∈ l → RowOkP j r m) (hw : WinOkP w) : WinOkP (spanL w (oldL k w l)) := by
  have hi := span_in w (oldL k w l) w ⟨Int.le_refl _, Int.le_refl _⟩
  have hd := winOk_d hw
  have h1 : 0 ≤ (spanL w (oldL k w l)).s := by
    rcases span_s (oldL k w l) w with e | ⟨r, hr, e⟩
    · omega
    · have := winOk_d (h r (old_mem hr).1).2.1; omega
  have h2 : (spanL w (oldL k w l)).e ≤ 120 := by
    rcases span_e (oldL k w l) w with e | ⟨r, hr, e⟩
    · omega
    · have := winOk_d (h r (old_mem hr).1).2.1; omega
  exact winOk_of ⟨h1, by omega, by omega, h2⟩
/-- What did not touch a record touches not what became of it. -/
theorem rest_touch {j : JobT} {m k : Int} {w : WinT} {l : List RowT} (h : OkL j m l) (h3 : j.kind = 3) (hw : WinOkP w) {q : RowT} (hq : q ∈ l) (hqk : q.key = k) (hn : ¬ TouchP q.win w) : ¬ TouchP q.win (spanL w (oldL k w l)) := by
  intro ht
  have hall : ∀ x, x ∈ l → ∀ y, y ∈ l → (tchR k w x ≠ tchR k w y → ¬ (x.key = y.key ∧ TouchP x.win y.win)) := by
    refine pw_all (R := fun x y => tchR k w x ≠ tchR k w y → ¬ (x.key = y.key ∧ TouchP x.win y.win)) ?_ ?_ ?_
    · intro x y hxy hne hc
      exact hxy (fun e => hne e.symm) ⟨hc.1.symm, touch_sym hc.2⟩
    · intro x hne
      exact absurd rfl hne
    · exact List.Pairwise.imp (fun {a b} hxy (_ : tchR k w a ≠ tchR k w b) => hxy) (h.2.2 h3)
  have hno : ∀ o, o ∈ oldL k w l → ¬ TouchP q.win o.win := fun o ho hc => by
    obtain ⟨o1, o2, o3⟩ := old_mem ho
    refine hall q hq o o1 ?_ ⟨hqk.trans o2.symm, hc⟩
    have e1 : tchR k w q = false := by show decide (q.key = k ∧ (q.win.s < w.e ∧ w.s < q.win.e)) = false; exact decide_eq_false (fun hc : q.key = k ∧ (q.win.s < w.e ∧ w.s < q.win.e) => hn hc.2)
    have e2 : tchR k w o = true := by show decide (o.key = k ∧ (o.win.s < w.e ∧ w.s < o.win.e)) = true; exact decide_eq_true (show o.key = k ∧ (o.win.s < w.e ∧ w.s < o.win.e) from ⟨o2, o3⟩)
    rw [e1, e2]; simp
  have hd := winOk_d hw
  have hqd := winOk_d (h.1 q hq).2.1
  unfold TouchP at ht hn
  have hc : q.win.e ≤ w.s ∨ w.e ≤ q.win.s := by omega
  rcases hc with hc | hc
  · rcases span_s (oldL k w l) w with e | ⟨o, ho, e⟩
    · omega
    · have := (old_mem ho).2.2
      refine hno o ho ?_
      unfold TouchP at *
      omega
  · rcases span_e (oldL k w l) w with e | ⟨o, ho, e⟩
    · omega
    · have := (old_mem ho).2.2
      refine hno o ho ?_
      unfold TouchP at *
      omega
theorem sumN_nn {l : List RowT} (h : ∀ r, r ∈ l → 0 ≤ r.all.n) : 0 ≤ sumN l := by
  induction l with
  | nil => exact Int.le_refl _
  | cons r l ih =>
    have h1 := h r (by simp)
    have h2 := ih fun q hq => h q (List.mem_cons_of_mem _ hq)
    rw [sumN_cons]; omega
theorem sumN_mem {l : List RowT} (h : ∀ r, r ∈ l → 0 ≤ r.all.n) {r : RowT} (hr : r ∈ l) : r.all.n ≤ sumN l := by
  induction l with
  | nil => simp at hr
  | cons q l ih =>
    have h1 := h q (by simp)
    have h2 : ∀ x, x ∈ l → 0 ≤ x.all.n := fun x hx => h x (List.mem_cons_of_mem _ hx)
    have h3 := sumN_nn h2
    rw [sumN_cons]
    rcases List.mem_cons.1 hr with e | hr
    · rw [e]; omega
    · have := ih h2 hr; omega
theorem rowOk_n {j : JobT} {m : Int} {r : RowT} (h : RowOkP j r m) : 1 ≤ r.all.n ∧ r.all.n ≤ 1000 := by
  have h1 := aggOk_n h.2.2.1
  have h2 := h.2.2.2.2.1
  omega
theorem sess_ok {j : JobT} {m k v : Int} {w : WinT} {l : List RowT} {q : List RowT × List PaneT} {T : Int} (h : OkL j m l) (h3 : j.kind = 3) (hk : 0 ≤ k ∧ k ≤ 3) (hv : -9 ≤ v ∧ v ≤ 9) (hw : WinOkP w) (hS : sumN l ≤ 990) (hT : 0 ≤ T ∧ T ≤ 1499) (hb : ∀ r, r ∈ l → r.told ≤ T)
    (he : sessL j m k v w l = some q) : OkL j m q.1 ∧ (∀ r, r ∈ q.1 → r.told ≤ T + 1) ∧ ∀ p, p ∈ q.2 → PaneOkP p ∧ p.key = k := by
  have hnn : ∀ r, r ∈ l → 0 ≤ r.all.n := fun r hr => by have := rowOk_n (h.1 r hr); omega
  have hsp := span_ok (k := k) h.1 hw
  unfold sessL at he
  split at he
  · cases he
  · rename_i hm
    split at he
    · rename_i h1
      obtain ⟨o, ho⟩ : ∃ o, oldL k w l = [o] := by
        cases h : oldL k w l with
        | nil => rw [h] at h1; cases h1
        | cons a r => cases r with
          | nil => exact ⟨a, rfl⟩
          | cons _ _ => rw [h] at h1; cases h1
      have hno : j.kind = 3 → ∀ q, q ∈ l → ¬ IsR k (spanL w (oldL k w l)) q → q.key = k → ¬ TouchP q.win (spanL w (oldL k w l)) := fun _ q hq hn hqk => by
        by_cases ht : TouchP q.win w
        · have hq2 := old_in hq hqk ht
          rw [ho, List.mem_singleton] at hq2
          exfalso
          refine hn ⟨hqk, ?_⟩
          have h2 := h1
          rw [show oneB (spanL w (oldL k w l)) (oldL k w l) = oneB (spanL w (oldL k w l)) [o] by rw [ho]] at h2
          rw [hq2]
          exact of_decide_eq_true h2
        · exact rest_touch h h3 hw hq hqk ht
      obtain ⟨c1, c2, c3⟩ := into_ok (B := 990) h hk hv hsp (by omega) hT (fun r hr => ⟨Int.le_trans (sumN_mem hnn hr) hS, hb r hr⟩) hno he
      exact ⟨c1, fun r hr => (c2 r hr).2, c3⟩
    · cases he
      obtain ⟨a0, ha0⟩ : ∃ a0 : AggT, a0 = ((oldL k w l).map (·.all)).foldl aggB (agg1 v) := ⟨_, rfl⟩
      rw [← ha0]
      obtain ⟨r0, hr0⟩ : ∃ r0 : RowT, r0 = ⟨k, spanL w (oldL k w l), a0, a0, 0, false⟩ := ⟨_, rfl⟩
      rw [← hr0]
      have hsplit := sumN_split k w l
      have hrn : 0 ≤ sumN (restL k w l) := sumN_nn fun r hr => hnn r (rest_mem hr).1
      have hon : 0 ≤ sumN (oldL k w l) := sumN_nn fun r hr => hnn r (old_mem hr).1
      have hsum : sumI (((oldL k w l).map (·.all)).map (·.n)) = sumN (oldL k w l) := by rw [List.map_map]; rfl
      have hf := aggOk_fold ((oldL k w l).map (·.all)) (agg1 v) (aggOk_one hv) (fun b hb => by
        obtain ⟨r, hr, rfl⟩ := List.mem_map.1 hb
        exact (h.1 r (old_mem hr).1).2.2.1) (by rw [hsum]; show (1 : Int) + _ ≤ _; omega)
      rw [hsum, ← ha0] at hf
      have hn0 : a0.n = 1 + sumN (oldL k w l) := hf.2
      have hmm : m < w64 ((spanL w (oldL k w l)).e + j.late) := Int.not_le.1 hm
      have hr := tell_ok (j := j) (m := m) (r := r0) (by rw [hr0]; exact hk) (by rw [hr0]; exact hsp) (by rw [hr0]; exact hf.1) (by rw [hr0]; exact hf.1) (by rw [hr0]; show 1 ≤ a0.n; omega) (by rw [hr0]; exact Int.le_refl _) (by rw [hr0]; show (0 : Int) ≤ 0 ∧ (0 : Int) ≤ 1499; decide) (by rw [hr0]; exact hmm)
        (fun h => by rw [hr0] at h; cases h) (fun _ => by rw [hr0])
      obtain ⟨t1, t2, t3⟩ := tellS_all j m r0
      have ek : (tellS j m r0).1.key = k := by rw [t2, hr0]
      have ew : (tellS j m r0).1.win = spanL w (oldL k w l) := by rw [t3, hr0]
      have hrest : OkL j m (restL k w l) := ⟨fun r hr => h.1 r (rest_mem hr).1, rest_rise h.2.1, fun h3 => List.Pairwise.filter _ (h.2.2 h3)⟩
      refine ⟨put_ok hrest hr.1 fun _ q hq _ hqk => ?_, fun r hr => ?_, fun p hp => ?_⟩
      · rw [ew]
        rw [ek] at hqk
        exact rest_touch h h3 hw (rest_mem hq).1 hqk fun hc => (rest_mem hq).2 ⟨hqk, hc⟩
      · rcases mem_rPut.1 hr with rfl | ⟨hr, _⟩
        · unfold tellS
          split
          · rw [hr0]; show (0 : Int) ≤ T + 1; omega
          · rw [hr0]; show w64 (0 + 1) ≤ T + 1
            rw [w64_id (by omega)]; omega
        · have := hb r (rest_mem hr).1; omega
      · rcases List.mem_append.1 hp with hp | hp
        · unfold goneL at hp
          obtain ⟨r, hr, rfl⟩ := List.mem_map.1 hp
          rw [List.mem_filter] at hr
          have hto : 0 < r.told := of_decide_eq_true hr.2
          obtain ⟨o1, o2, _⟩ := old_mem hr.1
          have hro := h.1 r o1
          exact ⟨⟨hro.1, hro.2.1, hro.2.2.2.2.2.2.1, aggOk_z, .inr (.inr ⟨rfl, hto, rfl⟩)⟩, o2⟩
        · have := hr.2 p hp
          exact ⟨this.1, by rw [this.2, hr0]⟩
theorem takeW_ok {j : JobT} {m : Int} {x : ItmT} (hk : ¬ j.kind = 3) (hj : JobOkP j) (hx : RecP x) : ∀ (ws : List WinT) (l : List RowT) (a : List PaneT) (c : List LatT) (B T : Int), OkL j m l → (∀ w, w ∈ ws → WinOkP w) → 0 ≤ B → B + (ws.length : Int) ≤ 1000 → 0 ≤ T → T + (ws.length : Int) ≤ 1500 →
    (∀ r, r ∈ l → r.all.n ≤ B ∧ r.told ≤ T) → (∀ p, p ∈ a → PaneOkP p ∧ p.key = x.key) →
    OkL j m (ws.foldl (takeS j m x) (l, a, c)).1 ∧ (∀ r, r ∈ (ws.foldl (takeS j m x) (l, a, c)).1 → r.told ≤ T + (ws.length : Int)) ∧ ∀ p, p ∈ (ws.foldl (takeS j m x) (l, a, c)).2.1 → PaneOkP p ∧ p.key = x.key := by
  intro ws
  induction ws with
  | nil => intro l a c B T h _ _ _ _ _ hb hp; exact ⟨h, fun r hr => by have := (hb r hr).2; show r.told ≤ T + 0; omega, hp⟩
  | cons w ws ih =>
    intro l a c B T h hw hB hB2 hT hT2 hb hp
    have hg : ((w :: ws).length : Int) = (ws.length : Int) + 1 := rfl
    rw [hg] at hB2 hT2 ⊢
    rw [List.foldl_cons]
    have hws := fun u hu => hw u (List.mem_cons_of_mem _ hu)
    cases hq : stepT j m x w l with
    | none =>
      rw [takeS_none (a := (l, a, c)) hq]
      obtain ⟨c1, c2, c3⟩ := ih l a (c ++ [(⟨x, w⟩ : LatT)]) B T h hws hB (by omega) hT (by omega) hb hp
      exact ⟨c1, fun r hr => by have := c2 r hr; omega, c3⟩
    | some q =>
      rw [takeS_some (a := (l, a, c)) hq]
      have he := hq
      unfold stepT at he
      rw [if_neg hk] at he
      have hx2 := hx.2
      have hx1 := hx.1
      unfold ItmOkP at hx2
      obtain ⟨c1, c2, c3⟩ := into_ok (B := B) (T := T) h (by omega) (by omega) (hw w (by simp)) (by omega) (by omega) hb (fun h3 => absurd h3 hk) he
      obtain ⟨d1, d2, d3⟩ := ih q.1 (a ++ q.2) c (B + 1) (T + 1) c1 hws (by omega) (by omega) (by omega) (by omega) c2 (fun p hp' => by
        rcases List.mem_append.1 hp' with hp' | hp'
        · exact hp p hp'
        · exact c3 p hp')
      exact ⟨d1, fun r hr => by have := d2 r hr; omega, d3⟩
/-- Behind a record. -/
theorem take_ok {j : JobT} {s : OpStT} {x : ItmT} {T : Int} (hok : OpOkP j s) (hx : RecP x) (h280 : s.rows.n ≤ 280) (hS : sumN (rowsL s) ≤ 900) (hT : 0 ≤ T ∧ T ≤ 1400) (hb : ∀ r, r ∈ rowsL s → r.told ≤ T) :
    OkL j s.mark (opTakeL j s x).2.1 ∧ (∀ r, r ∈ (opTakeL j s x).2.1 → r.told ≤ T + 20) ∧ sumN (opTakeL j s x).2.1 ≤ sumN (rowsL s) + 20 ∧ ∀ p, p ∈ (opTakeL j s x).2.2.1 → PaneOkP p ∧ p.key = x.key := by
  have hsum := take_sum hok hx h280
  have hlen := winsL_len20 hok.1 x.t
  have hol := okL_of hok
  have ht := recP_t hx
  have hxk : (0 ≤ x.key ∧ x.key ≤ 3) ∧ (-9 ≤ x.v ∧ x.v ≤ 9) := by
    have hx2 := hx.2
    have hx1 := hx.1
    unfold ItmOkP at hx2
    omega
  have hnn : ∀ r, r ∈ rowsL s → 0 ≤ r.all.n := fun r hr => by have := rowOk_n (hol.1 r hr); omega
  have key : OkL j s.mark (opTakeL j s x).2.1 ∧ (∀ r, r ∈ (opTakeL j s x).2.1 → r.told ≤ T + 20) ∧ ∀ p, p ∈ (opTakeL j s x).2.2.1 → PaneOkP p ∧ p.key = x.key := by
    unfold opTakeL
    rw [if_pos ⟨hok, hx, h280⟩]
    show OkL j s.mark (takeL j s.mark x (winsL j x.t) (rowsL s)).1 ∧ (∀ r, r ∈ (takeL j s.mark x (winsL j x.t) (rowsL s)).1 → r.told ≤ T + 20) ∧ ∀ p, p ∈ (takeL j s.mark x (winsL j x.t) (rowsL s)).2.1 → PaneOkP p ∧ p.key = x.key
    unfold takeL
    by_cases hk : j.kind = 3
    · have hj := hok.1
      have hwo := fun w hw => winsL_ok hj ht (w := w) hw
      have hj' := hj
      unfold JobOkP at hj
      rw [winsL_sess hk (by omega) ht.1 ht.2] at hwo ⊢
      rw [List.foldl_cons, List.foldl_nil]
      cases hq : stepT j s.mark x ⟨x.t, x.t + j.size⟩ (rowsL s) with
      | none =>
        rw [takeS_none (a := (rowsL s, [], [])) hq]
        exact ⟨hol, fun r hr => by have := hb r hr; omega, fun p hp => absurd hp (by simp)⟩
      | some q =>
        rw [takeS_some (a := (rowsL s, [], [])) hq]
        have he := hq
        unfold stepT at he
        rw [if_pos hk] at he
        obtain ⟨c1, c2, c3⟩ := sess_ok (T := T) hol hk hxk.1 hxk.2 (hwo _ (by simp)) (by omega) (by omega) hb he
        exact ⟨c1, fun r hr => by have := c2 r hr; omega, fun p hp => c3 p (by simpa using hp)⟩
    · have h := takeW_ok hk hok.1 hx (m := s.mark) (winsL j x.t) (rowsL s) [] [] 900 T hol (fun w hw => winsL_ok hok.1 ht hw) (by omega) (by omega) hT.1 (by omega) (fun r hr => ⟨Int.le_trans (sumN_mem hnn hr) hS, hb r hr⟩) (fun p hp => absurd hp (by simp))
      exact ⟨h.1, fun r hr => by have := h.2.1 r hr; omega, h.2.2⟩
  exact ⟨key.1, key.2.1, by omega, key.2.2⟩
end Go.Rk
/- A mark leaves an operator ok; what a mark tells; two marks. -/
namespace Go.Rk
set_option linter.unusedSimpArgs false
set_option linter.unusedVariables false
theorem markR_all (m : Int) (r : RowT) : (markR m r).all = r.all ∧ (markR m r).key = r.key ∧ (markR m r).win = r.win := by
  unfold markR; split <;> exact ⟨rfl, rfl, rfl⟩
def markL (j : JobT) (mk : Int) (l : List RowT) (m : Int) : Int × List RowT × List PaneT :=
  if m ≤ mk then (mk, l, []) else (m, keepL j.late m l, tellL j.piece m l)
theorem opMarkL_L {j : JobT} {s : OpStT} {m : Int} (hok : OpOkP j s) (hm : 0 ≤ m ∧ m ≤ 1000) : opMarkL j s m = markL j s.mark (rowsL s) m := by
  unfold opMarkL markL
  rw [if_neg (fun h => h ⟨hok, hm⟩)]
  split
  · rfl
  · have e : keepN (fun i => markR m (s.rows.g i)) (overB j.late m) s.rows.n = keepL j.late m (rowsL s) := by
      unfold keepN keepL rowsL
      rw [List.map_map]; rfl
    rw [e]; rfl
theorem opMarkL_bad {j : JobT} {s : OpStT} {m : Int} (h : ¬ (OpOkP j s ∧ (0 ≤ m ∧ m ≤ 1000))) : opMarkL j s m = (0, [], []) := by
  unfold opMarkL; rw [if_pos h]
theorem untold_zero {j : JobT} {r : RowT} {m : Int} (h : RowOkP j r m) (ht : r.timely = false) : r.told = 0 := by
  obtain ⟨_, _, _, _, _, _, a4, _, a5, a6, _⟩ := h
  have h9 : ¬ r.win.e ≤ m := fun h2 => by have := a5.2 h2; rw [ht] at this; cases this
  have : ¬ 0 < r.told := fun h2 => h9 (a6.1 h2)
  omega
theorem due_iff {m : Int} {r : RowT} : dueB m r = true ↔ r.timely = false ∧ r.win.e ≤ m := by
  unfold dueB
  simp
theorem mark_row_ok {j : JobT} {r : RowT} {m0 m : Int} (h : RowOkP j r m0) (hm : m0 < m) (ho : overB j.late m r = false) : RowOkP j (markR m r) m ∧ (markR m r).told ≤ r.told + 1 := by
  have ho' : m < w64 (r.win.e + j.late) := by
    unfold overB at ho
    have := of_decide_eq_false ho
    omega
  have h' := h
  obtain ⟨b1, b2, b3, b4, b5, b6, a4, a7, a5, a6, a8⟩ := h
  unfold markR
  cases hd : dueB m r with
  | true =>
    rw [if_pos rfl]
    obtain ⟨d1, d2⟩ := due_iff.1 hd
    have h0 := untold_zero h' d1
    have et : w64 (r.told + 1) = 1 := by rw [h0]; exact w64_id (by omega)
    refine ⟨⟨b1, b2, b3, aggOk_z, b5, ?_, ?_, ho', ?_, ?_, ?_⟩, ?_⟩
    · show (0 : Int) ≤ r.all.n
      exact (aggOk_n b3).1
    · show 0 ≤ w64 (r.told + 1) ∧ w64 (r.told + 1) ≤ 1500
      rw [et]; omega
    · show true = true ↔ r.win.e ≤ m
      exact ⟨fun _ => d2, fun _ => rfl⟩
    · show 0 < w64 (r.told + 1) ↔ r.win.e ≤ m
      rw [et]; exact ⟨fun _ => d2, fun _ => by decide⟩
    · show (0 : Int) = 0 ↔ r.win.e ≤ m
      exact ⟨fun _ => d2, fun _ => rfl⟩
    · show w64 (r.told + 1) ≤ r.told + 1
      rw [et]; omega
  | false =>
    rw [if_neg (by simp)]
    have hn : r.win.e ≤ m0 ↔ r.win.e ≤ m := by
      constructor
      · intro h; omega
      · intro h
        refine a5.1 ?_
        cases ht : r.timely with
        | true => rfl
        | false => rw [due_iff.2 ⟨ht, h⟩] at hd; cases hd
    refine ⟨⟨b1, b2, b3, b4, b5, b6, a4, ho', a5.trans hn, a6.trans hn, a8.trans hn⟩, by omega⟩
theorem keepL_mem {late m : Int} {l : List RowT} {r : RowT} : r ∈ keepL late m l ↔ ∃ q, q ∈ l ∧ overB late m q = false ∧ r = markR m q := by
  unfold keepL
  rw [List.mem_filter, List.mem_map]
  constructor
  · rintro ⟨⟨q, hq, rfl⟩, h2⟩
    rw [overB_mark] at h2
    exact ⟨q, hq, by simpa using h2, rfl⟩
  · rintro ⟨q, hq, h, rfl⟩
    exact ⟨⟨q, hq, rfl⟩, by rw [overB_mark, h]; rfl⟩
theorem mark_okL {j : JobT} {mk m T : Int} {l : List RowT} (h : OkL j mk l) (hm : mk < m) (hb : ∀ r, r ∈ l → r.told ≤ T) : OkL j m (keepL j.late m l) ∧ (∀ r, r ∈ keepL j.late m l → r.told ≤ T + 1) := by
  have hpw : ∀ {S : RowT → RowT → Prop}, (∀ a b, S a b → S (markR m a) (markR m b)) → l.Pairwise S → (keepL j.late m l).Pairwise S := fun {S} hs hp => by
    unfold keepL
    refine List.Pairwise.filter _ ?_
    rw [List.pairwise_map]
    exact List.Pairwise.imp (fun {a b} hab => hs a b hab) hp
  refine ⟨⟨fun r hr => ?_, ?_, fun h3 => ?_⟩, fun r hr => ?_⟩
  · obtain ⟨q, hq, ho, rfl⟩ := keepL_mem.1 hr
    exact (mark_row_ok (h.1 q hq) hm ho).1
  · refine hpw (fun a b hab => ?_) h.2.1
    unfold RA at *
    rw [(markR_all m a).2.1, (markR_all m a).2.2, (markR_all m b).2.1, (markR_all m b).2.2]
    exact hab
  · refine hpw (fun a b hab => ?_) (h.2.2 h3)
    rw [(markR_all m a).2.1, (markR_all m a).2.2, (markR_all m b).2.1, (markR_all m b).2.2]
    exact hab
  · obtain ⟨q, hq, ho, rfl⟩ := keepL_mem.1 hr
    have := (mark_row_ok (h.1 q hq) hm ho).2
    have := hb q hq
    omega
theorem tell_pane_ok {j : JobT} {mk m : Int} {l : List RowT} (h : ∀ r, r ∈ l → RowOkP j r mk) {p : PaneT} (hp : p ∈ tellL j.piece m l) : PaneOkP p := by
  unfold tellL at hp
  obtain ⟨r, hr, rfl⟩ := List.mem_map.1 hp
  rw [List.mem_filter] at hr
  have hro := h r hr.1
  obtain ⟨d1, d2⟩ := due_iff.1 hr.2
  have h0 := untold_zero hro d1
  obtain ⟨b1, b2, b3, b4, b5, b6, a4, a7, a5, a6, a8⟩ := hro
  have n3 := aggOk_n b3
  have n4 := aggOk_n b4
  have hne : ¬ r.win.e ≤ mk := fun h2 => by have := a5.2 h2; rw [d1] at this; cases this
  have hf : r.fresh.n ≠ 0 := fun h2 => hne (a8.1 h2)
  refine ⟨b1, b2, a4, ?_, .inl ⟨rfl, h0, ?_⟩⟩
  · show AggOkP (if j.piece = true then r.fresh else r.all)
    split
    · exact b4
    · exact b3
  · show 0 < (if j.piece = true then r.fresh else r.all).n
    split <;> omega
theorem sumN_keep (late m : Int) : ∀ (l : List RowT), (∀ r, r ∈ l → 0 ≤ r.all.n) → sumN (keepL late m l) ≤ sumN l
  | [], _ => Int.le_refl _
  | r :: l, h => by
    have h1 := h r (by simp)
    have ih := sumN_keep late m l fun q hq => h q (List.mem_cons_of_mem _ hq)
    have e : keepL late m (r :: l) = if overB late m r = true then keepL late m l else markR m r :: keepL late m l := by
      unfold keepL
      rw [List.map_cons, List.filter_cons, overB_mark]
      cases overB late m r <;> simp
    rw [e, sumN_cons]
    split
    · omega
    · rw [sumN_cons, (markR_all m r).1]; omega
/-- Behind a mark. -/
theorem mark_ok {j : JobT} {s : OpStT} {m T : Int} (hok : OpOkP j s) (hm : 0 ≤ m ∧ m ≤ 1000) (hT : 0 ≤ T) (hb : ∀ r, r ∈ rowsL s → r.told ≤ T) :
    s.mark ≤ (opMarkL j s m).1 ∧ (opMarkL j s m).1 ≤ 1000 ∧ OkL j (opMarkL j s m).1 (opMarkL j s m).2.1 ∧ (∀ r, r ∈ (opMarkL j s m).2.1 → r.told ≤ T + 1) ∧ sumN (opMarkL j s m).2.1 ≤ sumN (rowsL s) ∧ ∀ p, p ∈ (opMarkL j s m).2.2 → PaneOkP p := by
  rw [opMarkL_L hok hm]
  have hol := okL_of hok
  have hmk := hok.2.1
  unfold markL
  split
  · exact ⟨Int.le_refl _, hmk.2, hol, fun r hr => by have := hb r hr; omega, Int.le_refl _, fun p hp => absurd hp (by simp)⟩
  · have h := mark_okL hol (m := m) (by omega) hb
    refine ⟨by show s.mark ≤ m; omega, hm.2, h.1, h.2, sumN_keep _ _ _ fun r hr => ?_, fun p hp => tell_pane_ok hol.1 hp⟩
    have := rowOk_n (hol.1 r hr); omega
theorem rfind_in {k : Int} {w : WinT} {l : List RowT} {r : RowT} (h : RiseR l) (hr : r ∈ l) (hk : IsR k w r) : rFind k w l = some r := by
  induction l with
  | nil => simp at hr
  | cons q l ih =>
    rw [RiseR, List.pairwise_cons] at h
    have e : rFind k w (q :: l) = if IsR k w q then some q else rFind k w l := by
      unfold rFind
      rw [List.find?_cons]
      by_cases hq : IsR k w q
      · rw [decide_eq_true hq, if_pos hq]
      · rw [decide_eq_false hq, if_neg hq]
    rw [e]
    rcases List.mem_cons.1 hr with e1 | hr
    · rw [← e1, if_pos hk]
    · rw [if_neg (fun hq => ra_ne (h.1 r hr) hq hk), ih h.2 hr]
theorem tellN_at {piece : Bool} {m : Int} {g : Nat → RowT} {i : Nat} (hd : dueB m (g i) = true) : ∀ n, i < n → (tellN piece m g n)[(tellN piece m g i).length]? = some (paneP piece (g i) 1)
  | 0, h => absurd h (Nat.not_lt_zero i)
  | n + 1, h => by
    rw [tellN_succ]
    by_cases e : i = n
    · subst e
      rw [List.getElem?_append_right (Nat.le_refl _), Nat.sub_self, if_pos hd]; rfl
    · have ih := tellN_at (piece := piece) hd n (by omega)
      have hl := (List.getElem?_eq_some_iff.1 ih).1
      rw [List.getElem?_append_left hl]
      exact ih
/-- What a mark tells and leaves, place by place. -/
theorem mark_told (j : JobT) (s : OpStT) (m : Int) (x : Int × List RowT × List PaneT) (hx : x = opMarkL j s m) (hs : s.rows.n ≤ 280) : ∃ (k : Nat) (G : Nat → RowT) (c : Nat) (P : Nat → PaneT), Lst zRow x.2.1 k G ∧ Lst zPan x.2.2 c P ∧ k ≤ 280 ∧ c ≤ 280 ∧
    (¬ (OpOkP j s ∧ (0 ≤ m ∧ m ≤ 1000)) → x.1 = 0 ∧ k = 0 ∧ c = 0) ∧
    (OpOkP j s → (0 ≤ m ∧ m ≤ 1000) → m ≤ s.mark → x.1 = s.mark ∧ k = s.rows.n ∧ G = s.rows.g ∧ c = 0) ∧
    (OpOkP j s → (0 ≤ m ∧ m ≤ 1000) → s.mark < m → ∃ (nt nk : Nat → Nat), nt 0 = 0 ∧ nk 0 = 0 ∧ nt s.rows.n = c ∧ nk s.rows.n = k ∧ (∀ i, nt i ≤ i ∧ nk i ≤ i) ∧ ∀ i, i < s.rows.n →
      (dueB m (s.rows.g i) = true → nt i < c ∧ nt (i + 1) = nt i + 1 ∧ (P (nt i)).kind = 1 ∧ (P (nt i)).key = (s.rows.g i).key ∧ (P (nt i)).win = (s.rows.g i).win ∧ (P (nt i)).no = 0) ∧
      (dueB m (s.rows.g i) = false → nt (i + 1) = nt i) ∧
      (overB j.late m (s.rows.g i) = false → nk (i + 1) = nk i + 1 ∧ ∃ r, rFind (s.rows.g i).key (s.rows.g i).win x.2.1 = some r ∧ r.all = (s.rows.g i).all) ∧
      (overB j.late m (s.rows.g i) = true → nk (i + 1) = nk i)) := by
  have hlen := opMarkL_len j s m
  rw [← hx] at hlen
  obtain ⟨c, P, hP⟩ := lst_ex zPan x.2.2
  by_cases hc : OpOkP j s ∧ (0 ≤ m ∧ m ≤ 1000)
  · by_cases hle : m ≤ s.mark
    · have e : x = (s.mark, rowsL s, []) := by
        rw [hx, opMarkL_L hc.1 hc.2]; unfold markL; rw [if_pos hle]
      refine ⟨s.rows.n, s.rows.g, c, P, ?_, hP, hs, by rw [hP.1]; omega, fun h => absurd hc h, fun _ _ _ => ⟨by rw [e], rfl, rfl, by rw [hP.1, e]; rfl⟩, fun _ _ h => absurd hle (by omega)⟩
      rw [e]
      exact lst_of zRow s.rows.n s.rows.g
    · obtain ⟨k, G, hG⟩ := lst_ex zRow x.2.1
      have e0 : x = markL j s.mark (rowsL s) m := by rw [hx, opMarkL_L hc.1 hc.2]
      have e : x = (m, keepN (fun i => markR m (s.rows.g i)) (overB j.late m) s.rows.n, tellN j.piece m s.rows.g s.rows.n) := by
        rw [hx]; unfold opMarkL
        rw [if_neg (fun h => h hc), if_neg hle]
      have hol := okL_of hc.1
      have hrise : RiseR x.2.1 := by
        rw [e0]; unfold markL; rw [if_neg hle]
        exact (mark_okL (T := 1500) hol (by omega) fun r hr => (hol.1 r hr).2.2.2.2.2.2.1.2).1.2.1
      refine ⟨k, G, c, P, hG, hP, by rw [hG.1]; omega, by rw [hP.1]; omega, fun h => absurd hc h, fun _ _ h => absurd h hle, fun _ _ _ => ⟨fun i => (tellN j.piece m s.rows.g i).length, fun i => (keepN (fun i => markR m (s.rows.g i)) (overB j.late m) i).length, rfl, rfl, by rw [hP.1, e], by rw [hG.1, e], fun i => ⟨tellN_len _ _ _ _, keepN_len _ _ _⟩, fun i hi => ⟨fun hd => ?_, fun hd => ?_, fun ho => ⟨?_, ?_⟩, fun ho => ?_⟩⟩⟩
      · have h1 := tellN_at (piece := j.piece) hd s.rows.n hi
        have h2 : x.2.2[(tellN j.piece m s.rows.g i).length]? = some (paneP j.piece (s.rows.g i) 1) := by rw [e]; exact h1
        obtain ⟨h3, h4⟩ := lst_get hP h2
        refine ⟨h3, ?_, ?_⟩
        · show (tellN j.piece m s.rows.g (i + 1)).length = _
          rw [tellN_succ, if_pos hd, List.length_append]; rfl
        · show (P (tellN j.piece m s.rows.g i).length).kind = 1 ∧ (P (tellN j.piece m s.rows.g i).length).key = _ ∧ (P (tellN j.piece m s.rows.g i).length).win = _ ∧ (P (tellN j.piece m s.rows.g i).length).no = 0
          rw [h4]
          refine ⟨rfl, rfl, rfl, ?_⟩
          exact untold_zero (hc.1.2.2.2 i hi).1 (due_iff.1 hd).1
      · show (tellN j.piece m s.rows.g (i + 1)).length = _
        rw [tellN_succ, hd, List.length_append]; rfl
      · show (keepN (fun i => markR m (s.rows.g i)) (overB j.late m) (i + 1)).length = _
        rw [keepN_succ, overB_mark, ho, List.length_append]; rfl
      · have hm : markR m (s.rows.g i) ∈ x.2.1 := by
          rw [e0]; unfold markL; rw [if_neg hle]
          exact keepL_mem.2 ⟨_, List.mem_map.2 ⟨i, List.mem_range.2 hi, rfl⟩, ho, rfl⟩
        obtain ⟨a1, a2, a3⟩ := markR_all m (s.rows.g i)
        exact ⟨_, rfind_in hrise hm ⟨a2, by rw [a3], by rw [a3]⟩, a1⟩
      · show (keepN (fun i => markR m (s.rows.g i)) (overB j.late m) (i + 1)).length = _
        rw [keepN_succ, overB_mark, ho, List.length_append]; rfl
  · obtain ⟨k, G, hG⟩ := lst_ex zRow x.2.1
    have e : x = (0, [], []) := by rw [hx]; exact opMarkL_bad hc
    exact ⟨k, G, c, P, hG, hP, by rw [hG.1]; omega, by rw [hP.1]; omega, fun _ => ⟨by rw [e], by rw [hG.1, e]; rfl, by rw [hP.1, e]; rfl⟩, fun h1 h2 => absurd ⟨h1, h2⟩ hc, fun h1 h2 => absurd ⟨h1, h2⟩ hc⟩
end Go.Rk
/- The law, walked. -/
namespace Go.Rk
set_option linter.unusedSimpArgs false
set_option linter.unusedVariables false
open Go.Proofs Go.ChangeShapes Go.WideShapes Go.ChangeAt Go.RowKit
set_option maxRecDepth 100000
set_option maxHeartbeats 2000000
def st_m (j : JobT) (s : OpStT) (m mk : Int) (k : Nat) (G : Nat → RowT) (c : Nat) (P : Nat → PaneT) (i a q : Nat) : St := ⟨[(12, .c (.d (eI i))), (11, .c (.d (eI q))), (10, .c (.d (eI a))), (7, .c (.d (.sl 9 c fun i => ePane (P i)))), (6, .c (.bp 384 1 0)), (5, .c (.d (eI m))), (4, .c (.bp 256 1 0)), (3, .c (.bp 192 1 0))], [(384, 1, .box [.d (eI mk), .d (.sl 13 k fun i => eRow (G i))]), (256, 1, .box [.d (eI s.mark), .d (.sl 13 s.rows.n fun i => eRow (s.rows.g i))]), (192, 1, .box ((eJob j).map .d))]⟩
theorem m_law (M0 : Nat) (b : Nat → Int) (hb : ∀ i, 0 ≤ b i ∧ b i ≤ 255) : Meets Try.prog 4 [.c (.d (.sl 1 M0 fun i => [eU (b i)]))] ⟨.one (.c (.d (eB true))), [none]⟩ := by
  refine meets_of (H := []) (EX := EXA) ttok mixed Try.func4 rfl (by kernel_rfl) (by decide) ?_
  generalize hA : real = A
  generalize hM : MeetsB Try.prog = M
  cbv
  repeat' first
    | apply And.intro
    | exact True.intro
    | with_reducible rfl
    | exact same_of hA rfl
    | refine br_of hA (fun _ => ?_) (fun _ => ?_)
    | exact imp_of hA id
    | (refine imp_of hA ?_; subst hA; simp only [real, Bool.true_and]; exact id)
    | (refine ind_of hA ?_; decide +kernel)
    | (refine call_ex hA hM (x_drawMark M0 b hb) ?_; rintro ⟨j, s, m⟩ hs; dsimp only at hs; cbv)
  have hs : s.rows.n ≤ 261 := hs
  obtain ⟨x, hx⟩ : ∃ x, x = opMarkL j s m := ⟨_, rfl⟩
  obtain ⟨k, G, c, P, hG, hP, hks, hcs, hbad, hold, hnew⟩ := mark_told j s m x hx (by omega)
  have hsL : s.rows.n ≤ maxLen := s.rows.hn
  have hkL : k ≤ maxLen := Nat.le_trans hks (by decide)
  have hcL : c ≤ maxLen := Nat.le_trans hcs (by decide)
  have hI : Meets Try.prog 22 [xd (eJob j), .agg [.d (eI s.mark), .d (.sl 13 s.rows.n fun i => eRow (s.rows.g i))], .c (.d (eI m))] ⟨.tup [.agg [.d (eI x.1), .d (.sl 13 k fun i => eRow (G i))], .c (.d (.sl 9 c fun i => ePane (P i)))], [none, none, none]⟩ := meets_frz (c_OpMark j s (by omega) m x hx k G hG c P hP) rfl
  have hS : Meets Try.prog 23 [xd (eJob j), .agg [.d (eI s.mark), .d (.sl 13 s.rows.n fun i => eRow (s.rows.g i))], .c (.d (eI m))] ⟨.tup [.agg [.d (eI x.1), .d (.sl 13 k fun i => eRow (G i))], .c (.d (.sl 9 c fun i => ePane (P i)))], [none, none, none]⟩ := meets_frz (c_sOpMark j s (by omega) m x hx k G hG c P hP) rfl
  have hF := c_frOp x.1 k hkL G
  have hL := c_frPanes c hcL P
  obtain ⟨bo, hbo, hO⟩ := c_sOpOk j s
  have hbd : ∀ {A : Ar}, real = A → A.bite (A.bite (A.bnot bo) true (A.cmp .lss m 0)) true (A.cmp .gtr m 1000) = true → x.1 = 0 ∧ k = 0 ∧ c = 0 := fun hA h => hbad fun hn => by
    subst hA
    have h : (bif (bif (!bo) then true else decide (m < 0)) then true else decide (m > 1000)) = true := h
    rw [hbo.2 hn.1, decide_eq_false (show ¬ m < 0 by omega), decide_eq_false (show ¬ m > 1000 by omega)] at h
    cases h
  have hgd : ∀ {A : Ar}, real = A → A.bite (A.bite (A.bnot bo) true (A.cmp .lss m 0)) true (A.cmp .gtr m 1000) = false → OpOkP j s ∧ (0 ≤ m ∧ m ≤ 1000) := fun hA h => by
    subst hA
    have h : (bif (bif (!bo) then true else decide (m < 0)) then true else decide (m > 1000)) = false := h
    cases h1 : bo with
    | false => rw [h1] at h; cases h
    | true =>
      rw [h1] at h
      by_cases h2 : m < 0
      · rw [decide_eq_true h2] at h; cases h
      · rw [decide_eq_false h2] at h
        by_cases h3 : m > 1000
        · rw [decide_eq_true h3] at h; cases h
        · exact ⟨hbo.1 h1, by omega, by omega⟩
  have hle : ∀ {A : Ar}, real = A → A.cmp .leq m s.mark = true → m ≤ s.mark := fun hA h => by subst hA; exact of_decide_eq_true h
  have hgt : ∀ {A : Ar}, real = A → A.cmp .leq m s.mark = false → s.mark < m := fun hA h => by subst hA; exact Int.not_le.1 (of_decide_eq_false h)
  repeat' first
    | apply And.intro
    | exact True.intro
    | with_reducible rfl
    | exact same_of hA rfl
    | refine br_of hA (fun _ => ?_) (fun _ => ?_)
    | exact imp_of hA id
    | (refine imp_of hA ?_; subst hA; simp only [real, Bool.true_and]; exact id)
    | (refine ind_of hA ?_; decide +kernel)
    | (refine call_of hA hM _ hI ?_; cbv)
    | (refine call_of hA hM _ hS ?_; cbv)
    | (refine call_of hA hM _ hF ?_; cbv)
    | (refine call_of hA hM _ hL ?_; cbv)
    | (refine call_of hA hM _ hO ?_; cbv)
    | (refine call_of hA hM _ c_frOk ?_; cbv)
    | (exfalso; rename_i h; subst hA; simp [real] at h; done)
    | (obtain ⟨e0, e1, e2⟩ := hbd hA (by assumption); refine call_of2 hA hM _ (c_frOp0 G) ?_ ?_; (focus (show [XT.agg [XV.d (eI x.1), XV.d (DV.sl 13 k fun i => eRow (G i))], XT.agg [XV.d (eI 0), XV.d (DV.v nilS)]] = _; rw [e0, e1])); cbv)
    | (obtain ⟨e0, e1, e2, e3⟩ := hold (hgd hA (by assumption)).1 (hgd hA (by assumption)).2 (hle hA (by assumption)); refine call_of2 hA hM _ (c_frOp s.mark s.rows.n hsL s.rows.g) ?_ ?_; (focus (show [XT.agg [XV.d (eI x.1), XV.d (DV.sl 13 k fun i => eRow (G i))], XT.agg [XV.d (eI s.mark), XV.d (DV.sl 13 s.rows.n fun i => eRow (s.rows.g i))]] = _; rw [e0, e1, e2])); cbv)
    | (focus (have e2 := (hbd hA (by assumption)).2.2; clear hI hS hL; subst hA; subst e2; exact rfl))
    | (focus (have e2 := (hold (hgd hA (by assumption)).1 (hgd hA (by assumption)).2 (hle hA (by assumption))).2.2.2; clear hI hS hL; subst hA; subst e2; exact rfl))
  obtain ⟨hok, hm01⟩ := hgd hA (by assumption)
  obtain ⟨nt, nk, nt0, nk0, nte, nke, nle, hst⟩ := hnew hok hm01 (hgt hA (by assumption))
  refine loop_of hA (α := { y : Nat × Nat × Nat // y.1 ≤ s.rows.n ∧ y.2.1 = nt y.1 ∧ y.2.2 = nk y.1 }) (fun y => st_m j s m x.1 k G c P y.1.1 y.1.2.1 y.1.2.2) (fun y => s.rows.n - y.1.1) ⟨(0, 0, 0), Nat.zero_le _, nt0.symm, nk0.symm⟩ ?_ ?_
  · refine cov_of ?_ ?_ ?_
    · (subst hA; (repeat' first | exact True.intro | exact rfl | apply And.intro))
    · (subst hA; (repeat' first | exact True.intro | exact rfl | apply And.intro | (intro _ _; first | rfl | trivial)))
    · (subst hA; (repeat' first | exact True.intro | exact rfl | apply And.intro | exact .inl rfl | exact .inr (le_of_nble rfl)))
  rintro ⟨⟨i, a, q⟩, hi, ha, hq⟩
  have hi : i ≤ s.rows.n := hi
  have ha : a = nt i := ha
  have hq : q = nk i := hq
  have hai : a ≤ i := by rw [ha]; exact (nle i).1
  have hqi : q ≤ i := by rw [hq]; exact (nle i).2
  obtain ⟨r, hr⟩ : ∃ r, r = (rFind (s.rows.g i).key (s.rows.g i).win x.2.1).getD zRow := ⟨_, rfl⟩
  obtain ⟨bb, hbb⟩ : ∃ bb, bb = (rFind (s.rows.g i).key (s.rows.g i).win x.2.1).isSome := ⟨_, rfl⟩
  have cF1 := c_OpFindR x.1 x.2.1 k G hG (by omega) (s.rows.g i).key (s.rows.g i).win r hr bb hbb
  have cF2 := c_sFindR x.1 x.2.1 k G hG (by omega) (s.rows.g i).key (s.rows.g i).win r hr bb hbb
  have hdu : ∀ {A : Ar} {t : Bool}, real = A → A.bite (A.bnot (s.rows.g (A.nat (Int.ofNat i))).timely) (A.cmp .geq m (s.rows.g (A.nat (Int.ofNat i))).win.e) false = t → dueB m (s.rows.g i) = t := fun {A t} hA h => by
    subst hA
    have h : (bif (!(s.rows.g i).timely) then decide (m ≥ (s.rows.g i).win.e) else false) = t := h
    rw [← h]; unfold dueB
    cases (s.rows.g i).timely <;> rfl
  have hov : ∀ {A : Ar} {t : Bool}, real = A → A.cmp .lss m (A.ar .add .i64 (s.rows.g (A.nat (Int.ofNat i))).win.e j.late) = t → overB j.late m (s.rows.g i) = !t := fun {A t} hA h => by
    subst hA
    have h : decide (m < w64 ((s.rows.g i).win.e + j.late)) = t := h
    rw [← h]; unfold overB
    by_cases g : m < w64 ((s.rows.g i).win.e + j.late)
    · rw [decide_eq_true g, decide_eq_false (by omega)]; rfl
    · rw [decide_eq_false g, decide_eq_true (by omega)]; rfl
  cbv
  repeat' first
    | apply And.intro
    | exact True.intro
    | with_reducible rfl
    | exact same_of hA rfl
    | refine br_of hA (fun _ => ?_) (fun _ => ?_)
    | exact imp_of hA id
    | (refine imp_of hA ?_; subst hA; simp only [real, Bool.true_and]; exact id)
    | (refine ind_of hA ?_; decide +kernel)
    | (refine call_of2 hA hM _ cF1 (by (subst hA; first | rfl | (simp only [sub0r]; done) | (simp only [sub0r]; rfl))) ?_; cbv)
    | (refine call_of2 hA hM _ cF2 (by (subst hA; first | rfl | (simp only [sub0r]; done) | (simp only [sub0r]; rfl))) ?_; cbv)
    | (refine inb_lt hA ?_; first | exact lt2_of hA (by assumption) | exact lt_of hA (by assumption))
    | (refine inb_of hA (fun _ => ?_); exact ⟨Int.natCast_nonneg a, Int.ofNat_lt.2 (by rw [ha]; exact ((hst i (by first | exact lt2_of hA (by assumption) | exact lt_of hA (by assumption))).1 (hdu hA (by assumption))).1)⟩)
  · exfalso
    rename_i hlt hd h
    have hlt' : i < s.rows.n := by first | exact lt2_of hA hlt | exact lt_of hA hlt
    obtain ⟨f1, f2, f3, f4, f5, f6⟩ := (hst i hlt').1 (hdu hA hd)
    rw [← ha] at f1 f2 f3 f4 f5 f6
    clear cF1 cF2
    subst hA
    have h : (bif (bif (bif (bif decide ((a : Int) ≥ (c : Int)) then true else ((P a).kind != 1)) then true else ((P a).key != (s.rows.g i).key)) then true else (!(((P a).win.s == (s.rows.g i).win.s) && (((P a).win.e == (s.rows.g i).win.e) && true)))) then true else ((P a).no != 0)) = true := h
    rw [f3, f4, f5, f6, decide_eq_false (show ¬ (a : Int) ≥ (c : Int) by omega)] at h
    simp at h
  · exfalso
    rename_i hlt hd h9 ho h
    have hlt' : i < s.rows.n := by first | exact lt2_of hA hlt | exact lt_of hA hlt
    obtain ⟨g1, r9, hr9, hra⟩ := (hst i hlt').2.2.1 (hov hA ho)
    have hb1 : bb = true := by rw [hbb, hr9]; rfl
    have hr1 : r = r9 := by rw [hr, hr9]; rfl
    rw [← hr1] at hra
    clear cF1 cF2
    subst hA
    have h : (bif (bif (bif (!bb) then true else (!((r.key == r.key) && ((r.win.s == r.win.s) && ((r.win.e == r.win.e) && ((r.all.n == r.all.n) && ((r.all.sum == r.all.sum) && ((r.all.least == r.all.least) && ((r.all.most == r.all.most) && ((r.fresh.n == r.fresh.n) && ((r.fresh.sum == r.fresh.sum) && ((r.fresh.least == r.fresh.least) && ((r.fresh.most == r.fresh.most) && ((r.told == r.told) && ((r.timely == r.timely) && true))))))))))))))) then true else (!bb)) then true else (!((r.all.n == (s.rows.g i).all.n) && ((r.all.sum == (s.rows.g i).all.sum) && ((r.all.least == (s.rows.g i).all.least) && ((r.all.most == (s.rows.g i).all.most) && true)))))) = true := h
    rw [hra, hb1] at h
    simp at h
  · rename_i hlt hd h9 ho h
    have hlt' : i < s.rows.n := by first | exact lt2_of hA hlt | exact lt_of hA hlt
    have f2 := ((hst i hlt').1 (hdu hA hd)).2.1
    have g2 := ((hst i hlt').2.2.1 (hov hA ho)).1
    refine ⟨⟨(i + 1, a + 1, q + 1), hlt', by rw [ha]; exact f2.symm, by rw [hq]; exact g2.symm⟩, by simp only; omega, cov_of ?_ ?_ ?_⟩
    · (subst hA; (repeat' first | exact True.intro | exact rfl | exact congrArg (fun x => DV.v (.int .i64 x)) (up64 hlt' hsL) | exact congrArg (fun x => DV.v (.int .i64 x)) (up64 (show a < s.rows.n by omega) hsL) | exact congrArg (fun x => DV.v (.int .i64 x)) (up64 (show q < s.rows.n by omega) hsL) | apply And.intro))
    · (subst hA; (repeat' first | exact True.intro | exact rfl | apply And.intro | (intro _ _; first | rfl | trivial)))
    · (subst hA; (repeat' first | exact True.intro | exact rfl | apply And.intro | exact .inl rfl | exact .inr (le_of_nble rfl)))
  · rename_i hlt hd h9 ho
    have hlt' : i < s.rows.n := by first | exact lt2_of hA hlt | exact lt_of hA hlt
    have f2 := ((hst i hlt').1 (hdu hA hd)).2.1
    have g2 := ((hst i hlt').2.2.2 (hov hA ho))
    refine ⟨⟨(i + 1, a + 1, q), hlt', by rw [ha]; exact f2.symm, by rw [hq]; exact g2.symm⟩, by simp only; omega, cov_of ?_ ?_ ?_⟩
    · (subst hA; (repeat' first | exact True.intro | exact rfl | exact congrArg (fun x => DV.v (.int .i64 x)) (up64 hlt' hsL) | exact congrArg (fun x => DV.v (.int .i64 x)) (up64 (show a < s.rows.n by omega) hsL) | exact congrArg (fun x => DV.v (.int .i64 x)) (up64 (show q < s.rows.n by omega) hsL) | apply And.intro))
    · (subst hA; (repeat' first | exact True.intro | exact rfl | apply And.intro | (intro _ _; first | rfl | trivial)))
    · (subst hA; (repeat' first | exact True.intro | exact rfl | apply And.intro | exact .inl rfl | exact .inr (le_of_nble rfl)))
  · exfalso
    rename_i hlt hd ho h
    have hlt' : i < s.rows.n := by first | exact lt2_of hA hlt | exact lt_of hA hlt
    obtain ⟨g1, r9, hr9, hra⟩ := (hst i hlt').2.2.1 (hov hA ho)
    have hb1 : bb = true := by rw [hbb, hr9]; rfl
    have hr1 : r = r9 := by rw [hr, hr9]; rfl
    rw [← hr1] at hra
    clear cF1 cF2
    subst hA
    have h : (bif (bif (bif (!bb) then true else (!((r.key == r.key) && ((r.win.s == r.win.s) && ((r.win.e == r.win.e) && ((r.all.n == r.all.n) && ((r.all.sum == r.all.sum) && ((r.all.least == r.all.least) && ((r.all.most == r.all.most) && ((r.fresh.n == r.fresh.n) && ((r.fresh.sum == r.fresh.sum) && ((r.fresh.least == r.fresh.least) && ((r.fresh.most == r.fresh.most) && ((r.told == r.told) && ((r.timely == r.timely) && true))))))))))))))) then true else (!bb)) then true else (!((r.all.n == (s.rows.g i).all.n) && ((r.all.sum == (s.rows.g i).all.sum) && ((r.all.least == (s.rows.g i).all.least) && ((r.all.most == (s.rows.g i).all.most) && true)))))) = true := h
    rw [hra, hb1] at h
    simp at h
  · rename_i hlt hd ho h
    have hlt' : i < s.rows.n := by first | exact lt2_of hA hlt | exact lt_of hA hlt
    have f2 := ((hst i hlt').2.1 (hdu hA hd))
    have g2 := ((hst i hlt').2.2.1 (hov hA ho)).1
    refine ⟨⟨(i + 1, a, q + 1), hlt', by rw [ha]; exact f2.symm, by rw [hq]; exact g2.symm⟩, by simp only; omega, cov_of ?_ ?_ ?_⟩
    · (subst hA; (repeat' first | exact True.intro | exact rfl | exact congrArg (fun x => DV.v (.int .i64 x)) (up64 hlt' hsL) | exact congrArg (fun x => DV.v (.int .i64 x)) (up64 (show a < s.rows.n by omega) hsL) | exact congrArg (fun x => DV.v (.int .i64 x)) (up64 (show q < s.rows.n by omega) hsL) | apply And.intro))
    · (subst hA; (repeat' first | exact True.intro | exact rfl | apply And.intro | (intro _ _; first | rfl | trivial)))
    · (subst hA; (repeat' first | exact True.intro | exact rfl | apply And.intro | exact .inl rfl | exact .inr (le_of_nble rfl)))
  · rename_i hlt hd ho
    have hlt' : i < s.rows.n := by first | exact lt2_of hA hlt | exact lt_of hA hlt
    have f2 := ((hst i hlt').2.1 (hdu hA hd))
    have g2 := ((hst i hlt').2.2.2 (hov hA ho))
    refine ⟨⟨(i + 1, a, q), hlt', by rw [ha]; exact f2.symm, by rw [hq]; exact g2.symm⟩, by simp only; omega, cov_of ?_ ?_ ?_⟩
    · (subst hA; (repeat' first | exact True.intro | exact rfl | exact congrArg (fun x => DV.v (.int .i64 x)) (up64 hlt' hsL) | exact congrArg (fun x => DV.v (.int .i64 x)) (up64 (show a < s.rows.n by omega) hsL) | exact congrArg (fun x => DV.v (.int .i64 x)) (up64 (show q < s.rows.n by omega) hsL) | apply And.intro))
    · (subst hA; (repeat' first | exact True.intro | exact rfl | apply And.intro | (intro _ _; first | rfl | trivial)))
    · (subst hA; (repeat' first | exact True.intro | exact rfl | apply And.intro | exact .inl rfl | exact .inr (le_of_nble rfl)))
  · rename_i hge
    have hni : s.rows.n ≤ i := by first | exact ge2_of hA hge | exact ge_of hA hge
    have hin : i = s.rows.n := Nat.le_antisymm hi hni
    have ea : a = c := by rw [ha, hin, nte]
    have eq : q = k := by rw [hq, hin, nke]
    clear cF1 cF2
    subst hA
    refine congrArg (fun b => XA.one (.c (.d (eB b)))) ?_
    show (bif ((a : Int) == (c : Int)) then ((q : Int) == (k : Int)) else false) = true
    rw [ea, eq]
    simp
end Go.Rk
