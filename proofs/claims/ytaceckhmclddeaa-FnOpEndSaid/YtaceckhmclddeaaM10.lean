/- The walk over this seat's functions, part 10: what each of them answers, at all data. -/
import Derived.Test.YtaceckhmclddeaaM1
import Derived.Test.YtaceckhmclddeaaM2
import Derived.Test.YtaceckhmclddeaaM3
import Derived.Test.YtaceckhmclddeaaM4
import Derived.Test.YtaceckhmclddeaaM5
import Derived.Test.YtaceckhmclddeaaM6
import Derived.Test.YtaceckhmclddeaaM7
import Derived.Test.YtaceckhmclddeaaM8
import Derived.Test.YtaceckhmclddeaaM9
/- At the end everything is told and closed. -/
namespace Go.Rk
set_option linter.unusedSimpArgs false
set_option linter.unusedVariables false
theorem keep_none {g : Nat → RowT} {d : RowT → Bool} : ∀ {n : Nat}, (∀ i, i < n → d (g i) = true) → keepN g d n = []
  | 0, _ => rfl
  | n + 1, h => by rw [keepN_succ, keep_none (n := n) fun i hi => h i (by omega), if_pos (h n (by omega))]; rfl
theorem tell_cnt {piece : Bool} {m : Int} {g : Nat → RowT} : ∀ {n : Nat}, (∀ i, i < n → (g i).win.e ≤ m) → (tellN piece m g n).length = cntB (fun i => !(g i).timely) n
  | 0, _ => rfl
  | n + 1, h => by
    rw [tellN_succ, List.length_append, tell_cnt (n := n) fun i hi => h i (by omega)]
    have ec : cntB (fun i => !(g i).timely) (n + 1) = cntB (fun i => !(g i).timely) n + (if (!(g n).timely) = true then 1 else 0) := rfl
    rw [ec]
    have h1 := h n (by omega)
    have e : dueB m (g n) = !(g n).timely := by unfold dueB; rw [decide_eq_true h1, Bool.and_true]
    rw [e]
    cases (g n).timely <;> rfl
theorem row_late {j : JobT} {s : OpStT} (hok : OpOkP j s) {i : Nat} (hi : i < s.rows.n) : (s.rows.g i).win.e ≤ 120 ∧ -1 ≤ (s.rows.g i).win.e ∧ w64 ((s.rows.g i).win.e + j.late) ≤ 140 ∧ s.mark < w64 ((s.rows.g i).win.e + j.late) := by
  have h := (hok.2.2.2 i hi).1
  have hw := h.2.1
  have hm := h.2.2.2.2.2.2.2.1
  have hj := hok.1
  unfold JobOkP at hj
  unfold WinOkP at hw
  have e0 := w64_id (n := (s.rows.g i).win.s + 1) (by omega)
  unfold w64 at e0
  rw [e0] at hw
  have e := w64_id (n := (s.rows.g i).win.e + j.late) (by omega)
  rw [e]
  unfold w64 at e
  rw [e] at hm
  omega
/-- The operator at the end: no rows; as many told as were not. -/
theorem mark_end {j : JobT} {s : OpStT} (hok : OpOkP j s) : (opMarkL j s 1000).1 = 1000 ∧ (opMarkL j s 1000).2.1 = [] ∧ (opMarkL j s 1000).2.2.length = cntB (fun i => !(s.rows.g i).timely) s.rows.n := by
  unfold opMarkL
  rw [if_neg (fun h => h ⟨hok, by omega, by omega⟩)]
  have hm := hok.2.1
  split
  · rename_i hle
    have e : s.mark = 1000 := by omega
    have hn : s.rows.n = 0 := by
      cases hc : s.rows.n with
      | zero => rfl
      | succ k =>
        have := row_late hok (i := 0) (by omega)
        omega
    rw [hn]
    exact ⟨e, rfl, rfl⟩
  · refine ⟨rfl, keep_none fun i hi => ?_, tell_cnt fun i hi => ?_⟩
    · have := row_late hok hi
      unfold overB
      rw [markR_win]
      exact decide_eq_true (by omega)
    · have := row_late hok hi
      omega
theorem lates_all {j : JobT} {m : Int} {x : ItmT} : ∀ (ws : List WinT) (a : List PaneT) (c : List LatT), (∀ w, w ∈ ws → stepT j m x w [] = none) → ws.foldl (takeS j m x) ([], a, c) = ([], a, c ++ ws.map fun w => ⟨x, w⟩)
  | [], a, c, _ => by simp
  | w :: ws, a, c, h => by
    rw [List.foldl_cons, takeS_none (a := ([], a, c)) (h w (by simp)), lates_all ws _ _ fun u hu => h u (List.mem_cons_of_mem _ hu)]
    simp
/-- A record behind the end is late in all its windows. -/
theorem take_end {j : JobT} {s : OpStT} {x : ItmT} (hj : JobOkP j) (hm : s.mark = 1000) (hn : s.rows.n = 0) (hx : RecP x) : opTakeL j s x = (1000, [], [], (winsL j x.t).map fun w => ⟨x, w⟩) := by
  have hok : OpOkP j s := ⟨hj, by omega, by omega, fun i hi => by omega⟩
  unfold opTakeL
  rw [if_pos ⟨hok, hx, by omega⟩]
  have e : rowsL s = [] := by unfold rowsL; rw [hn]; rfl
  rw [e, hm]
  unfold takeL
  have ht := recP_t hx
  have hj' := hj
  unfold JobOkP at hj'
  rw [lates_all (winsL j x.t) [] [] fun w hw => ?_]
  · simp
  · have h := winsL_mem hw
    have e2 := w64_id (n := w.e + j.late) (by omega)
    unfold stepT
    split
    · unfold sessL
      have e3 : spanL w (oldL x.key w []) = w := rfl
      rw [e3, e2, if_pos (by omega)]
    · unfold intoL
      rw [e2, if_pos (by omega)]
end Go.Rk
