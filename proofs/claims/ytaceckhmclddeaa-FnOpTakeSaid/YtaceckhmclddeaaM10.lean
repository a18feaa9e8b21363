/- The walk over this seat's functions, part 10: what each of them answers, at all data. -/
import Derived.Test.YtaceckhmclddeaaM1
import Derived.Test.YtaceckhmclddeaaM2
import Derived.Test.YtaceckhmclddeaaM3
import Derived.Test.YtaceckhmclddeaaM4
import Derived.Test.YtaceckhmclddeaaM5
import Derived.Test.YtaceckhmclddeaaM6
import Derived.Test.YtaceckhmclddeaaM7
import Derived.Test.YtaceckhmclddeaaM8
import Derived.Test.YtaceckhmclddeaaM9
/- At the end everything is told and closed. -/
namespace Go.Rk
set_option linter.unusedSimpArgs false
set_option linter.unusedVariables false
theorem keep_none {g : Nat → RowT} {d : RowT → Bool} : ∀ {n : Nat}, (∀ i, i < n → d (g i) = true) → keepN g d n = []
  | 0, _ => rfl
  | n + 1, h => by rw [keepN_succ, keep_none (n := n) fun i hi => h i (by omega), if_pos (h n (by omega))]; rfl
theorem tell_cnt {piece : Bool} {m : Int} {g : Nat → RowT} : ∀ {n : Nat}, (∀ i, i < n → (g i).win.e ≤ m) → (tellN piece m g n).length = cntB (fun i => !(g i).timely) n
  | 0, _ => rfl
  | n + 1, h => by
    rw [tellN_succ, List.length_append, tell_cnt (n := n) fun i hi => h i (by omega)]
    have ec : cntB (fun i => !(g i).timely) (n + 1) = cntB (fun i => !(g i).timely) n + (if (!(g n).timely) = true then 1 else 0) := rfl
    rw [ec]
    have h1 := h n (by omega)
    have e : dueB m (g n) = !(g n).timely := by unfold dueB; rw [decide_eq_true h1, Bool.and_true]
    rw [e]
    cases (g n).timely <;> rfl
theorem row_late {j : JobT} {s : OpStT} (hok : OpOkP j s) {i : Nat} (hi : i < s.rows.n) : (s.rows.g i).win.e ≤ 120 ∧ -1 ≤ (s.rows.g i).win.e ∧ w64 ((s.rows.g i).win.e + j.late) ≤ 140 ∧ s.mark < w64 ((s.rows.g i).win.e + j.late) := by
  have h := (hok.2.2.2 i hi).1
  have hw := h.2.1
  have hm := h.2.2.2.2.2.2.2.1
  have hj := hok.1
  unfold JobOkP at hj
  unfold WinOkP at hw
  have e0 := w64_id (n := (s.rows.g i).win.s + 1) (by omega)
  unfold w64 at e0
  rw [e0] at hw
  have e := w64_id (n := (s.rows.g i).win.e + j.late) (by omega)
  rw [e]
  unfold w64 at e
  rw [e] at hm
  omega
/-- The operator at the end: no rows; as many told as were not. -/
theorem mark_end {j : JobT} {s : OpStT} (hok : OpOkP j s) : (opMarkL j s 1000).1 = 1000 ∧ (opMarkL j s 1000).2.1 = [] ∧ (opMarkL j s 1000).2.2.length = cntB (fun i => !(s.rows.g i).timely) s.rows.n := by
  unfold opMarkL
  rw [if_neg (fun h => h ⟨hok, by omega, by omega⟩)]
  have hm := hok.2.1
  split
  · rename_i hle
    have e : s.mark = 1000 := by omega
    have hn : s.rows.n = 0 := by
      cases hc : s.rows.n with
      | zero => rfl
      | succ k =>
        have := row_late hok (i := 0) (by omega)
        omega
    rw [hn]
    exact ⟨e, rfl, rfl⟩
  · refine ⟨rfl, keep_none fun i hi => ?_, tell_cnt fun i hi => ?_⟩
    · have := row_late hok hi
      unfold overB
      rw [markR_win]
      exact decide_eq_true (by omega)
    · have := row_late hok hi
      omega
theorem lates_all {j : JobT} {m : Int} {x : ItmT} : ∀ (ws : List WinT) (a : List PaneT) (c : List LatT), (∀ w, w ∈ ws → stepT j m x w [] = none) → ws.foldl (takeS j m x) ([], a, c) = ([], a, c ++ ws.map fun w => ⟨x, w⟩)
  | [], a, c, _ => by simp
  | w :: ws, a, c, h => by
    rw [List.foldl_cons, takeS_none (a := ([], a, c)) (h w (by simp)), lates_all ws _ _ fun u hu => h u (List.mem_cons_of_mem _ hu)]
    simp
/-- A record behind the end is late in all its windows. -/
theorem take_end {j : JobT} {s : OpStT} {x : ItmT} (hj : JobOkP j) (hm : s.mark = 1000) (hn : s.rows.n = 0) (hx : RecP x) : opTakeL j s x = (1000, [], [], (winsL j x.t).map fun w => ⟨x, w⟩) := by
  have hok : OpOkP j s := ⟨hj, by omega, by omega, fun i hi => by omega⟩
  unfold opTakeL
  rw [if_pos ⟨hok, hx, by omega⟩]
  have e : rowsL s = [] := by unfold rowsL; rw [hn]; rfl
  rw [e, hm]
  unfold takeL
  have ht := recP_t hx
  have hj' := hj
  unfold JobOkP at hj'
  rw [lates_all (winsL j x.t) [] [] fun w hw => ?_]
  · simp
  · have h := winsL_mem hw
    have e2 := w64_id (n := w.e + j.late) (by omega)
    unfold stepT
    split
    · unfold sessL
      have e3 : spanL w (oldL x.key w []) = w := rfl
      rw [e3, e2, if_pos (by omega)]
    · unfold intoL
      rw [e2, if_pos (by omega)]
end Go.Rk
/- The numbers of what was taken are kept. -/
namespace Go.Rk
set_option linter.unusedSimpArgs false
set_option linter.unusedVariables false
def sumN (l : List RowT) : Int := sumI (l.map (·.all.n))
def AllN (B : Int) (l : List RowT) : Prop := ∀ r, r ∈ l → 1 ≤ r.all.n ∧ r.all.n ≤ B
theorem sumN_cons (r : RowT) (l : List RowT) : sumN (r :: l) = r.all.n + sumN l := rfl
theorem sumN_rIns (r : RowT) : ∀ l, sumN (rIns r l) = r.all.n + sumN l
  | [] => rfl
  | q :: l => by
    show sumN (if RA r q then r :: q :: l else q :: rIns r l) = _
    split
    · rfl
    · rw [sumN_cons, sumN_rIns r l, sumN_cons]; omega
theorem sumN_none {k : Int} {w : WinT} {l : List RowT} (h : ∀ q, q ∈ l → ¬ IsR k w q) : rFind k w l = none := by
  unfold rFind
  rw [List.find?_eq_none]
  intro q hq
  simp [h q hq]
/-- Taking out the one row of a window takes its number. -/
theorem sumN_rOut {k : Int} {w : WinT} : ∀ {l : List RowT}, RiseR l → sumN (rOut k w l) + (match rFind k w l with | some r => r.all.n | none => 0) = sumN l
  | [], _ => rfl
  | q :: l, h => by
    rw [RiseR, List.pairwise_cons] at h
    by_cases hq : IsR k w q
    · have hno : ∀ x, x ∈ l → ¬ IsR k w x := fun x hx => ra_ne (h.1 x hx) hq
      have e : rOut k w (q :: l) = l := by
        unfold rOut
        rw [List.filter_cons, if_neg (by simp [hq])]
        exact rOut_none hno
      have e2 : rFind k w (q :: l) = some q := by unfold rFind; rw [List.find?_cons, decide_eq_true hq]
      rw [e, e2, sumN_cons]
      show sumN l + q.all.n = _
      omega
    · have e : rOut k w (q :: l) = q :: rOut k w l := by
        unfold rOut
        rw [List.filter_cons, if_pos (by simp [hq])]
      have e2 : rFind k w (q :: l) = rFind k w l := by unfold rFind; rw [List.find?_cons, decide_eq_false hq]
      rw [e, e2, sumN_cons, sumN_cons, ← sumN_rOut (k := k) (w := w) (l := l) h.2]
      omega
theorem tellS_all (j : JobT) (m : Int) (r : RowT) : (tellS j m r).1.all = r.all ∧ (tellS j m r).1.key = r.key ∧ (tellS j m r).1.win = r.win := by
  unfold tellS
  split <;> exact ⟨rfl, rfl, rfl⟩
theorem add_n {a : AggT} {v : Int} (h : 0 ≤ a.n ∧ a.n ≤ 1000000) : (aggAdd a v).n = a.n + 1 := by
  unfold aggAdd aggB
  by_cases h0 : a.n = 0
  · rw [if_pos h0, h0]; rfl
  · rw [if_neg h0, if_neg (by show ¬ (1 : Int) = 0; omega)]
    exact w64_id (n := a.n + 1) (by omega)
theorem rfind_mem {k : Int} {w : WinT} {l : List RowT} {r : RowT} (h : rFind k w l = some r) : r ∈ l ∧ IsR k w r := by
  unfold rFind at h
  exact ⟨List.mem_of_find?_eq_some h, by simpa using List.find?_some h⟩
theorem into_sum {j : JobT} {m k v : Int} {w : WinT} {l : List RowT} {q : List RowT × List PaneT} {B : Int} (hr : RiseR l) (hB : 0 ≤ B ∧ B ≤ 900000) (hA : AllN B l) (he : intoL j m k v w l = some q) : sumN q.1 = sumN l + 1 ∧ AllN (B + 1) q.1 := by
  unfold intoL at he
  split at he
  · cases he
  · cases he
    obtain ⟨r0, hr0⟩ : ∃ r0, r0 = (rFind k w l).getD (nrow k w) := ⟨_, rfl⟩
    rw [← hr0]
    have hk : IsR k w r0 := by rw [hr0]; exact getD_is
    obtain ⟨t1, t2, t3⟩ := tellS_all j m (addR r0 v)
    have ek : (tellS j m (addR r0 v)).1.key = k := t2.trans (isR_eq hk).1
    have ew : (tellS j m (addR r0 v)).1.win = w := t3.trans (isR_eq hk).2
    have hb0 : 0 ≤ r0.all.n ∧ r0.all.n ≤ B := by
      rw [hr0]
      cases hf : rFind k w l with
      | none => exact ⟨Int.le_refl _, hB.1⟩
      | some r => have := hA r (rfind_mem hf).1; exact ⟨by show 0 ≤ r.all.n; omega, this.2⟩
    have hn : (tellS j m (addR r0 v)).1.all.n = r0.all.n + 1 := by
      rw [t1]
      exact add_n (a := r0.all) (by omega)
    have hs := sumN_rOut (k := k) (w := w) hr
    constructor
    · show sumN (rPut (tellS j m (addR r0 v)).1 l) = _
      unfold rPut
      rw [sumN_rIns, hn, ek, ew]
      cases hf : rFind k w l with
      | none => rw [hf] at hs hr0; rw [hr0]; have h : sumN (rOut k w l) + 0 = sumN l := hs; show (0 : Int) + 1 + _ = _; omega
      | some r => rw [hf] at hs hr0; rw [hr0]; have h : sumN (rOut k w l) + r.all.n = sumN l := hs; show r.all.n + 1 + _ = _; omega
    · intro r h
      rcases mem_rPut.1 h with e | ⟨h, _⟩
      · rw [e, hn]; omega
      · have := hA r h; omega
theorem fold_n : ∀ (L : List AggT) (a : AggT) (B : Int), 1 ≤ a.n → B ≤ 1000000 → (∀ b, b ∈ L → 1 ≤ b.n ∧ b.n ≤ B) → a.n + B * (L.length : Int) ≤ 1000000000000 → (L.foldl aggB a).n = a.n + sumI (L.map (·.n))
  | [], a, _, _, _, _, _ => by show a.n = a.n + 0; omega
  | b :: L, a, B, h1, hB, hb, hl => by
    have hb0 := hb b (by simp)
    have hlen : B * (L.length : Int) + B ≤ 1000000000000 - a.n := by
      have e : B * (((b :: L).length : Nat) : Int) = B * (L.length : Int) + B := by
        rw [List.length_cons]
        have : ((L.length + 1 : Nat) : Int) = (L.length : Int) + 1 := rfl
        rw [this, Int.mul_add, Int.mul_one]
      omega
    have hp : 0 ≤ B * (L.length : Int) := Int.mul_nonneg (by omega) (Int.natCast_nonneg _)
    have hn : (aggB a b).n = a.n + b.n := by
      unfold aggB
      rw [if_neg (by omega), if_neg (by omega)]
      exact w64_id (n := a.n + b.n) (by omega)
    rw [List.foldl_cons, fold_n L (aggB a b) B (by omega) hB (fun c hc => hb c (List.mem_cons_of_mem _ hc)) (by rw [hn]; omega), hn]
    show _ = a.n + (b.n + sumI (L.map (·.n)))
    omega
theorem sumN_split (k : Int) (w : WinT) : ∀ l, sumN (oldL k w l) + sumN (restL k w l) = sumN l
  | [] => rfl
  | r :: l => by
    have ih := sumN_split k w l
    unfold oldL restL at *
    rw [List.filter_cons, List.filter_cons]
    cases h : tchR k w r
    · simp only [Bool.not_false, if_true, Bool.false_eq_true, if_false, sumN_cons]; omega
    · simp only [Bool.not_true, if_true, Bool.false_eq_true, if_false, sumN_cons]; omega
end Go.Rk
/- What was taken is counted in a row, or told too late. -/
namespace Go.Rk
set_option linter.unusedSimpArgs false
set_option linter.unusedVariables false
theorem sess_sum {j : JobT} {m k v : Int} {w : WinT} {l : List RowT} {q : List RowT × List PaneT} {B : Int} (hr : RiseR l) (hB : 0 ≤ B ∧ B ≤ 900000) (hl : l.length ≤ 1000) (hA : AllN B l) (hw : w.s < w.e) (he : sessL j m k v w l = some q) : sumN q.1 = sumN l + 1 := by
  unfold sessL at he
  split at he
  · cases he
  · split at he
    · exact (into_sum hr hB hA he).1
    · cases he
      obtain ⟨a0, ha0⟩ : ∃ a0 : AggT, a0 = ((oldL k w l).map (·.all)).foldl aggB (agg1 v) := ⟨_, rfl⟩
      rw [← ha0]
      obtain ⟨r0, hr0⟩ : ∃ r0 : RowT, r0 = ⟨k, spanL w (oldL k w l), a0, a0, 0, false⟩ := ⟨_, rfl⟩
      rw [← hr0]
      obtain ⟨t1, t2, t3⟩ := tellS_all j m r0
      have hlen : (oldL k w l).length ≤ 1000 := Nat.le_trans (oldL_len k w l) hl
      have hn : a0.n = 1 + sumN (oldL k w l) := by
        rw [ha0]
        have h := fold_n ((oldL k w l).map (·.all)) (agg1 v) B (by show (1 : Int) ≤ 1; decide) (by omega) (fun b hb => by
          obtain ⟨r, hr, rfl⟩ := List.mem_map.1 hb
          exact hA r (List.mem_filter.1 hr).1) (by
            rw [List.length_map]
            have h1 : B * ((oldL k w l).length : Int) ≤ B * 1000 := Int.mul_le_mul_of_nonneg_left (by omega) hB.1
            show (1 : Int) + _ ≤ _
            omega)
        rw [h, List.map_map]
        rfl
      have hk : (tellS j m r0).1.key = k := by rw [t2, hr0]
      have hw2 : (tellS j m r0).1.win = spanL w (oldL k w l) := by rw [t3, hr0]
      show sumN (rPut (tellS j m r0).1 (restL k w l)) = _
      unfold rPut
      rw [sumN_rIns, t1, hk, hw2, rOut_none fun q hq => rest_no hw hq, ← sumN_split k w l]
      have e : r0.all.n = a0.n := by rw [hr0]
      rw [e, hn]
      omega
theorem takeW_sum {j : JobT} {m : Int} {x : ItmT} (hk : ¬ j.kind = 3) : ∀ (ws : List WinT) (l : List RowT) (a : List PaneT) (c : List LatT) (B : Int), RiseR l → 0 ≤ B → B + (ws.length : Int) ≤ 900000 → AllN B l →
    sumN (ws.foldl (takeS j m x) (l, a, c)).1 + ((ws.foldl (takeS j m x) (l, a, c)).2.2.length : Int) = sumN l + (ws.length : Int) + (c.length : Int) := by
  intro ws
  induction ws with
  | nil => intro l a c B _ _ _ _; show sumN l + (c.length : Int) = sumN l + 0 + (c.length : Int); omega
  | cons w ws ih =>
    intro l a c B hr hB hl hA
    have hl1 : B + (ws.length : Int) + 1 ≤ 900000 := by
      have : ((w :: ws).length : Int) = (ws.length : Int) + 1 := rfl
      omega
    have hg : ((w :: ws).length : Int) = (ws.length : Int) + 1 := rfl
    rw [List.foldl_cons]
    cases hq : stepT j m x w l with
    | none =>
      rw [takeS_none (a := (l, a, c)) hq]
      dsimp only
      rw [ih l a (c ++ [(⟨x, w⟩ : LatT)]) B hr hB (by omega) hA, List.length_append, hg]
      show sumN l + (ws.length : Int) + ((c.length + 1 : Nat) : Int) = _
      omega
    | some q =>
      rw [takeS_some (a := (l, a, c)) hq]
      dsimp only
      have he := hq
      unfold stepT at he
      rw [if_neg hk] at he
      obtain ⟨h1, h2⟩ := into_sum hr ⟨hB, by omega⟩ hA he
      rw [ih q.1 (a ++ q.2) c (B + 1) (rise_into hr he) (by omega) (by omega) h2, h1, hg]
      omega
/-- The records of rows and of what came too late are as many as they were, and one for each window. -/
theorem take_sum {j : JobT} {s : OpStT} {x : ItmT} (hok : OpOkP j s) (hx : RecP x) (h280 : s.rows.n ≤ 280) : sumN (opTakeL j s x).2.1 + ((opTakeL j s x).2.2.2.length : Int) = sumN (rowsL s) + ((winsL j x.t).length : Int) := by
  unfold opTakeL
  rw [if_pos ⟨hok, hx, h280⟩]
  show sumN (takeL j s.mark x (winsL j x.t) (rowsL s)).1 + ((takeL j s.mark x (winsL j x.t) (rowsL s)).2.2.length : Int) = _
  have hr := rise_ok hok
  have hA : AllN 1000 (rowsL s) := all_ok hok
  unfold takeL
  by_cases hk : j.kind = 3
  · have ht := recP_t hx
    have hj := hok.1
    unfold JobOkP at hj
    rw [winsL_sess hk (by omega) ht.1 ht.2]
    rw [List.foldl_cons, List.foldl_nil]
    cases hq : stepT j s.mark x ⟨x.t, x.t + j.size⟩ (rowsL s) with
    | none => rw [takeS_none (a := (rowsL s, [], [])) hq]; rfl
    | some q =>
      rw [takeS_some (a := (rowsL s, [], [])) hq]
      have he := hq
      unfold stepT at he
      rw [if_pos hk] at he
      have hlen : (rowsL s).length ≤ 1000 := by unfold rowsL; simp; omega
      have h := sess_sum hr (B := 1000) (by omega) hlen hA (by show x.t < x.t + j.size; omega) he
      show sumN q.1 + 0 = sumN (rowsL s) + 1
      omega
  · have h := takeW_sum hk (m := s.mark) (x := x) (winsL j x.t) (rowsL s) [] [] 1000 hr (by omega) (by have := winsL_len j x.t; omega) hA
    rw [h]
    show _ + 0 = _
    omega
end Go.Rk
/- What came too late is the record; where all of it did, nothing changes. -/
namespace Go.Rk
set_option linter.unusedSimpArgs false
set_option linter.unusedVariables false
theorem takeS_late {j : JobT} {m : Int} {x : ItmT} (ws : List WinT) : ∀ (l : List RowT) (a : List PaneT) (c : List LatT) (t : LatT), t ∈ (ws.foldl (takeS j m x) (l, a, c)).2.2 → t ∈ c ∨ (t.itm = x ∧ t.win ∈ ws ∧ (j.kind ≠ 3 → w64 (t.win.e + j.late) ≤ m)) := by
  induction ws with
  | nil => intro l a c t h; exact .inl h
  | cons w ws ih =>
    intro l a c t h
    rw [List.foldl_cons] at h
    cases hq : stepT j m x w l with
    | none =>
      rw [takeS_none (a := (l, a, c)) hq] at h
      dsimp only at h
      rcases ih _ _ _ _ h with h | ⟨h1, h2, h3⟩
      · rcases List.mem_append.1 h with h | h
        · exact .inl h
        · have e := List.mem_singleton.1 h
          subst e
          refine .inr ⟨rfl, by simp, fun hk => ?_⟩
          unfold stepT intoL at hq
          rw [if_neg hk] at hq
          by_cases hh : w64 (w.e + j.late) ≤ m
          · exact hh
          · rw [if_neg hh] at hq; cases hq
      · exact .inr ⟨h1, List.mem_cons_of_mem _ h2, h3⟩
    | some q =>
      rw [takeS_some (a := (l, a, c)) hq] at h
      dsimp only at h
      rcases ih _ _ _ _ h with h | ⟨h1, h2, h3⟩
      · exact .inl h
      · exact .inr ⟨h1, List.mem_cons_of_mem _ h2, h3⟩
theorem takeS_all {j : JobT} {m : Int} {x : ItmT} (ws : List WinT) : ∀ (l : List RowT) (a : List PaneT) (c : List LatT), (ws.foldl (takeS j m x) (l, a, c)).2.2.length ≤ c.length + ws.length ∧
    (c.length + ws.length ≤ (ws.foldl (takeS j m x) (l, a, c)).2.2.length → (ws.foldl (takeS j m x) (l, a, c)).1 = l ∧ (ws.foldl (takeS j m x) (l, a, c)).2.1 = a) := by
  induction ws with
  | nil => intro l a c; exact ⟨Nat.le_refl _, fun _ => ⟨rfl, rfl⟩⟩
  | cons w ws ih =>
    intro l a c
    rw [List.foldl_cons]
    cases hq : stepT j m x w l with
    | none =>
      rw [takeS_none (a := (l, a, c)) hq]
      dsimp only
      have h := ih l a (c ++ [(⟨x, w⟩ : LatT)])
      rw [List.length_append] at h
      simp only [List.length_cons, List.length_nil] at h ⊢
      exact ⟨by omega, fun h2 => h.2 (by omega)⟩
    | some q =>
      rw [takeS_some (a := (l, a, c)) hq]
      dsimp only
      have h := ih q.1 (a ++ q.2) c
      simp only [List.length_cons]
      exact ⟨by omega, fun h2 => by omega⟩
/-- FnOpTake in plain words. -/
theorem take_lates {j : JobT} {s : OpStT} {x : ItmT} {t : LatT} (h : t ∈ (opTakeL j s x).2.2.2) : OpOkP j s ∧ RecP x ∧ t.itm = x ∧ t.win ∈ winsL j x.t ∧ (j.kind ≠ 3 → w64 (t.win.e + j.late) ≤ s.mark) := by
  unfold opTakeL at h
  split at h
  · rename_i hc
    rcases takeS_late _ _ _ _ _ h with h | h
    · cases h
    · exact ⟨hc.1, hc.2.1, h⟩
  · cases h
theorem take_same {j : JobT} {s : OpStT} {x : ItmT} (hok : OpOkP j s) (hx : RecP x) (h280 : s.rows.n ≤ 280) (h : (winsL j x.t).length ≤ (opTakeL j s x).2.2.2.length) : (opTakeL j s x).1 = s.mark ∧ (opTakeL j s x).2.1 = rowsL s ∧ (opTakeL j s x).2.2.1 = [] := by
  unfold opTakeL at *
  rw [if_pos ⟨hok, hx, h280⟩] at *
  exact ⟨rfl, (takeS_all (winsL j x.t) (rowsL s) [] []).2 (by rw [List.length_nil, Nat.zero_add]; exact h)⟩
end Go.Rk
/- Sums that wrap; an operator where all came too late. -/
namespace Go.Rk
set_option linter.unusedSimpArgs false
set_option linter.unusedVariables false
theorem w64_add (a b : Int) : IntKind.i64.wrap (IntKind.i64.wrap a + b) = IntKind.i64.wrap (a + b) := by
  rw [IntKind.wrap_i64, IntKind.wrap_i64, IntKind.wrap_i64]; omega
theorem w64_sub (a b : Int) : IntKind.i64.wrap (IntKind.i64.wrap a - b) = IntKind.i64.wrap (a - b) := by
  rw [IntKind.wrap_i64, IntKind.wrap_i64, IntKind.wrap_i64]; omega
def preN (g : Nat → RowT) (i : Nat) : Int := sumN ((List.range i).map g)
theorem preN_succ (g : Nat → RowT) (i : Nat) : preN g (i + 1) = preN g i + (g i).all.n := by
  unfold preN sumN
  rw [List.range_succ, List.map_append, List.map_append, sumI_app]
  show _ + ((g i).all.n + 0) = _
  omega
theorem preN_lst {l : List RowT} {k : Nat} {G : Nat → RowT} (h : Lst zRow l k G) : preN G k = sumN l := by
  unfold preN
  congr 1
  apply List.ext_getElem?
  intro i
  by_cases hi : i < k
  · rw [List.getElem?_map, List.getElem?_range hi]
    have h2 : i < l.length := by rw [← h.1]; exact hi
    have := h.2 i hi
    rw [Option.map_some, this, List.getD_eq_getElem?_getD, List.getElem?_eq_getElem h2]
    rfl
  · rw [List.getElem?_eq_none (by simp; omega), List.getElem?_eq_none (by rw [← h.1]; omega)]
theorem sum_zero {nw d : Nat} {a b : Int} (h : b + (d : Int) = a + (nw : Int)) : (nw : Int) - (d : Int) + a - b = 0 := by omega
theorem pre_add (a : Int) (g : Nat → RowT) : IntKind.i64.wrap a = IntKind.i64.wrap (a + preN g 0) := by
  show _ = IntKind.i64.wrap (a + 0)
  rw [Int.add_zero]
theorem pre_sub (a : Int) (g : Nat → RowT) : IntKind.i64.wrap a = IntKind.i64.wrap (a - preN g 0) := by
  show _ = IntKind.i64.wrap (a - 0)
  rw [Int.sub_zero]
/-- What is answered, told by numbers, for FnOpTake. -/
theorem take_told (j : JobT) (s : OpStT) (m : ItmT) (x : Int × List RowT × List PaneT × List LatT) (hx : x = opTakeL j s m) (hs : s.rows.n ≤ 280) : ∃ (k : Nat) (G : Nat → RowT) (c : Nat) (P : Nat → PaneT) (d : Nat) (W : Nat → WinT),
    Lst zRow x.2.1 k G ∧ Lst zPan x.2.2.1 c P ∧ Lst zLat x.2.2.2 d (fun i => ⟨m, W i⟩) ∧ k ≤ 400 ∧ c ≤ 40000 ∧ d ≤ 100 ∧
    (¬ (OpOkP j s ∧ RecP m) → x.1 = 0 ∧ k = 0) ∧
    (OpOkP j s → RecP m → preN G k + (d : Int) = preN s.rows.g s.rows.n + ((winsL j m.t).length : Int)) ∧
    (∀ i, i < d → j.kind ≠ 3 → w64 ((W i).e + j.late) ≤ s.mark) ∧
    (OpOkP j s → RecP m → (winsL j m.t).length ≤ d → x.1 = s.mark ∧ k = s.rows.n ∧ G = s.rows.g ∧ c = 0) := by
  have hlen := opTakeL_len j s m
  rw [← hx] at hlen
  obtain ⟨d, Q, hQ⟩ := lst_ex zLat x.2.2.2
  have hW : ∀ i, i < d → (Q i).itm = m ∧ (j.kind ≠ 3 → w64 ((Q i).win.e + j.late) ≤ s.mark) := fun i hi => by
    have hil : i < x.2.2.2.length := by rw [← hQ.1]; exact hi
    have hmem : Q i ∈ x.2.2.2 := by
      rw [hQ.2 i hi, List.getD_eq_getElem?_getD, List.getElem?_eq_getElem hil]
      exact List.getElem_mem hil
    rw [hx] at hmem
    have h := take_lates hmem
    exact ⟨h.2.2.1, h.2.2.2.2⟩
  have hQ' : Lst zLat x.2.2.2 d (fun i => ⟨m, (Q i).win⟩) := ⟨hQ.1, fun i hi => by
    rw [← hQ.2 i hi, ← (hW i hi).1]⟩
  obtain ⟨k, G, c, P, hG, hP, hall⟩ : ∃ (k : Nat) (G : Nat → RowT) (c : Nat) (P : Nat → PaneT), Lst zRow x.2.1 k G ∧ Lst zPan x.2.2.1 c P ∧ (OpOkP j s → RecP m → (winsL j m.t).length ≤ d → x.1 = s.mark ∧ k = s.rows.n ∧ G = s.rows.g ∧ c = 0) := by
    by_cases h : OpOkP j s ∧ RecP m ∧ (winsL j m.t).length ≤ d
    · have h1 := take_same h.1 h.2.1 hs (by rw [← hx, ← hQ.1]; exact h.2.2)
      rw [← hx] at h1
      refine ⟨s.rows.n, s.rows.g, 0, fun _ => zPan, ?_, ?_, fun _ _ _ => ⟨h1.1, rfl, rfl, rfl⟩⟩
      · rw [h1.2.1]; exact lst_of zRow s.rows.n s.rows.g
      · rw [h1.2.2]; exact ⟨rfl, fun i hi => absurd hi (Nat.not_lt_zero i)⟩
    · obtain ⟨k, G, hG⟩ := lst_ex zRow x.2.1
      obtain ⟨c, P, hP⟩ := lst_ex zPan x.2.2.1
      exact ⟨k, G, c, P, hG, hP, fun a b c => absurd ⟨a, b, c⟩ h⟩
  refine ⟨k, G, c, P, d, fun i => (Q i).win, hG, hP, hQ', by rw [hG.1]; exact hlen.1, by rw [hP.1]; exact hlen.2.1, by rw [hQ.1]; exact hlen.2.2, fun hn => ?_, fun hok hr => ?_, fun i hi => (hW i hi).2, hall⟩
  · have e : x = (0, [], [], []) := by rw [hx]; unfold opTakeL; rw [if_neg (fun h => hn ⟨h.1, h.2.1⟩)]
    exact ⟨by rw [e], by rw [hG.1, e]; rfl⟩
  · have h := take_sum hok hr hs
    rw [← hx] at h
    rw [preN_lst hG, hQ.1, h]
    rfl
end Go.Rk
