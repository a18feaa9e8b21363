/- The walk over this seat's functions, part 8: what each of them answers, at all data. -/
import Derived.Test.YtaceckhmclddeaaM1
import Derived.Test.YtaceckhmclddeaaM2
import Derived.Test.YtaceckhmclddeaaM3
import Derived.Test.YtaceckhmclddeaaM4
import Derived.Test.YtaceckhmclddeaaM5
import Derived.Test.YtaceckhmclddeaaM6
import Derived.Test.YtaceckhmclddeaaM7
/- What was taken is counted in a row, or told too late. -/
namespace Go.Rk
set_option linter.unusedSimpArgs false
set_option linter.unusedVariables false
theorem sess_sum {j : JobT} {m k v : Int} {w : WinT} {l : List RowT} {q : List RowT × List PaneT} {B : Int} (hr : RiseR l) (hB : 0 ≤ B ∧ B ≤ 900000) (hl : l.length ≤ 1000) (hA : AllN B l) (hw : w.s < w.e) (he : sessL j m k v w l = some q) : sumN q.1 = sumN l + 1 := by
  unfold sessL at he
  split at he
  · cases he
  · split at he
    · exact (into_sum hr hB hA he).1
    · cases he
      obtain ⟨a0, ha0⟩ : ∃ a0 : AggT, a0 = ((oldL k w l).map (·.all)).foldl aggB (agg1 v) := ⟨_, rfl⟩
      rw [← ha0]
      obtain ⟨r0, hr0⟩ : ∃ r0 : RowT, r0 = ⟨k, spanL w (oldL k w l), a0, a0, 0, false⟩ := ⟨_, rfl⟩
      rw [← hr0]
      obtain ⟨t1, t2, t3⟩ := tellS_all j m r0
      have hlen : (oldL k w l).length ≤ 1000 := Nat.le_trans (oldL_len k w l) hl
      have hn : a0.n = 1 + sumN (oldL k w l) := by
        rw [ha0]
        have h := fold_n ((oldL k w l).map (·.all)) (agg1 v) B (by show (1 : Int) ≤ 1; decide) (by omega) (fun b hb => by
          obtain ⟨r, hr, rfl⟩ := List.mem_map.1 hb
          exact hA r (List.mem_filter.1 hr).1) (by
            rw [List.length_map]
            have h1 : B * ((oldL k w l).length : Int) ≤ B * 1000 := Int.mul_le_mul_of_nonneg_left (by omega) hB.1
            show (1 : Int) + _ ≤ _
            omega)
        rw [h, List.map_map]
        rfl
      have hk : (tellS j m r0).1.key = k := by rw [t2, hr0]
      have hw2 : (tellS j m r0).1.win = spanL w (oldL k w l) := by rw [t3, hr0]
      show sumN (rPut (tellS j m r0).1 (restL k w l)) = _
      unfold rPut
      rw [sumN_rIns, t1, hk, hw2, rOut_none fun q hq => rest_no hw hq, ← sumN_split k w l]
      have e : r0.all.n = a0.n := by rw [hr0]
      rw [e, hn]
      omega
theorem takeW_sum {j : JobT} {m : Int} {x : ItmT} (hk : ¬ j.kind = 3) : ∀ (ws : List WinT) (l : List RowT) (a : List PaneT) (c : List LatT) (B : Int), RiseR l → 0 ≤ B → B + (ws.length : Int) ≤ 900000 → AllN B l →
    sumN (ws.foldl (takeS j m x) (l, a, c)).1 + ((ws.foldl (takeS j m x) (l, a, c)).2.2.length : Int) = sumN l + (ws.length : Int) + (c.length : Int) := by
  intro ws
  induction ws with
  | nil => intro l a c B _ _ _ _; show sumN l + (c.length : Int) = sumN l + 0 + (c.length : Int); omega
  | cons w ws ih =>
    intro l a c B hr hB hl hA
    have hl1 : B + (ws.length : Int) + 1 ≤ 900000 := by
      have : ((w :: ws).length : Int) = (ws.length : Int) + 1 := rfl
      omega
    have hg : ((w :: ws).length : Int) = (ws.length : Int) + 1 := rfl
    rw [List.foldl_cons]
    cases hq : stepT j m x w l with
    | none =>
      rw [takeS_none (a := (l, a, c)) hq]
      dsimp only
      rw [ih l a (c ++ [(⟨x, w⟩ : LatT)]) B hr hB (by omega) hA, List.length_append, hg]
      show sumN l + (ws.length : Int) + ((c.length + 1 : Nat) : Int) = _
      omega
    | some q =>
      rw [takeS_some (a := (l, a, c)) hq]
      dsimp only
      have he := hq
      unfold stepT at he
      rw [if_neg hk] at he
      obtain ⟨h1, h2⟩ := into_sum hr ⟨hB, by omega⟩ hA he
      rw [ih q.1 (a ++ q.2) c (B + 1) (rise_into hr he) (by omega) (by omega) h2, h1, hg]
      omega
/-- The records of rows and of what came too late are as many as they were, and one for each window. -/
theorem take_sum {j : JobT} {s : OpStT} {x : ItmT} (hok : OpOkP j s) (hx : RecP x) (h280 : s.rows.n ≤ 280) : sumN (opTakeL j s x).2.1 + ((opTakeL j s x).2.2.2.length : Int) = sumN (rowsL s) + ((winsL j x.t).length : Int) := by
  unfold opTakeL
  rw [if_pos ⟨hok, hx, h280⟩]
  show sumN (takeL j s.mark x (winsL j x.t) (rowsL s)).1 + ((takeL j s.mark x (winsL j x.t) (rowsL s)).2.2.length : Int) = _
  have hr := rise_ok hok
  have hA : AllN 1000 (rowsL s) := all_ok hok
  unfold takeL
  by_cases hk : j.kind = 3
  · have ht := recP_t hx
    have hj := hok.1
    unfold JobOkP at hj
    rw [winsL_sess hk (by omega) ht.1 ht.2]
    rw [List.foldl_cons, List.foldl_nil]
    cases hq : stepT j s.mark x ⟨x.t, x.t + j.size⟩ (rowsL s) with
    | none => rw [takeS_none (a := (rowsL s, [], [])) hq]; rfl
    | some q =>
      rw [takeS_some (a := (rowsL s, [], [])) hq]
      have he := hq
      unfold stepT at he
      rw [if_pos hk] at he
      have hlen : (rowsL s).length ≤ 1000 := by unfold rowsL; simp; omega
      have h := sess_sum hr (B := 1000) (by omega) hlen hA (by show x.t < x.t + j.size; omega) he
      show sumN q.1 + 0 = sumN (rowsL s) + 1
      omega
  · have h := takeW_sum hk (m := s.mark) (x := x) (winsL j x.t) (rowsL s) [] [] 1000 hr (by omega) (by have := winsL_len j x.t; omega) hA
    rw [h]
    show _ + 0 = _
    omega
end Go.Rk
/- Operators that are ok, by lists; a record leaves them so. -/
namespace Go.Rk
set_option linter.unusedSimpArgs false
set_option linter.unusedVariables false
def OkL (j : JobT) (m : Int) (l : List RowT) : Prop :=
  (∀ r, r ∈ l → RowOkP j r m) ∧ RiseR l ∧ (j.kind = 3 → l.Pairwise fun a b => ¬ (a.key = b.key ∧ TouchP a.win b.win))
theorem okL_of {j : JobT} {s : OpStT} (h : OpOkP j s) : OkL j s.mark (rowsL s) := by
  refine ⟨fun r hr => ?_, rise_ok h, fun h3 => ?_⟩
  · obtain ⟨i, hi, rfl⟩ := List.mem_map.1 hr
    exact (h.2.2.2 i (List.mem_range.1 hi)).1
  · unfold rowsL
    rw [List.pairwise_map]
    refine List.Pairwise.imp_of_mem ?_ List.pairwise_lt_range
    intro a b ha hb hab
    exact (h.2.2.2 b (List.mem_range.1 hb)).2.2 h3 a hab
theorem pw_at {α : Type} {z : α} {R : α → α → Prop} {l : List α} {n : Nat} {G : Nat → α} (hL : Lst z l n G) (hp : l.Pairwise R) {a b : Nat} (hab : a < b) (hb : b < n) : R (G a) (G b) := by
  obtain ⟨h1, e1⟩ := List.getElem?_eq_some_iff.1 (lst_at hL (show a < n by omega))
  obtain ⟨h2, e2⟩ := List.getElem?_eq_some_iff.1 (lst_at hL hb)
  have := List.pairwise_iff_getElem.1 hp a b h1 h2 hab
  rw [e1, e2] at this
  exact this
theorem lst_in {α : Type} {z : α} {l : List α} {n : Nat} {G : Nat → α} (hL : Lst z l n G) {a : Nat} (h : a < n) : G a ∈ l := List.mem_of_getElem? (lst_at hL h)
theorem ok_of {j : JobT} {mk : Int} {l : List RowT} {n : Nat} {G : Nat → RowT} (hL : Lst zRow l n G) (hn : n ≤ maxLen) (hj : JobOkP j) (hm : 0 ≤ mk ∧ mk ≤ 1000) (hl : n ≤ 300) (h : OkL j mk l) : OpOkP j ⟨mk, ⟨n, G, hn⟩⟩ := by
  refine ⟨hj, hm, hl, fun i hi => ⟨h.1 _ (lst_in hL hi), fun h0 => ?_, fun h3 k hk => ?_⟩⟩
  · exact rise_at hL h.2.1 (show i - 1 < i by omega) hi
  · exact pw_at hL (h.2.2 h3) hk hi
theorem rowsL_lst {mk : Int} {l : List RowT} {n : Nat} {G : Nat → RowT} (hL : Lst zRow l n G) (hn : n ≤ maxLen) : rowsL ⟨mk, ⟨n, G, hn⟩⟩ = l := (lst_eq hL).symm
theorem mul_bd {n l : Int} (hn : 1 ≤ n ∧ n ≤ 1000) (hl : -9 ≤ l ∧ l ≤ 9) : -9000 ≤ n * l ∧ n * l ≤ 9000 := by
  have h1 : n * l ≤ n * 9 := Int.mul_le_mul_of_nonneg_left hl.2 (by omega)
  have h2 : n * (-9) ≤ n * l := Int.mul_le_mul_of_nonneg_left hl.1 (by omega)
  omega
theorem wrap_mul {n l : Int} (hn : 1 ≤ n ∧ n ≤ 1000) (hl : -9 ≤ l ∧ l ≤ 9) : IntKind.i64.wrap (n * l) = n * l := by
  have := mul_bd hn hl
  exact IntWalk.i64_in _ (by omega)
theorem aggOk_z : AggOkP zAgg := .inl ⟨rfl, rfl, rfl, rfl⟩
theorem aggOk_n {a : AggT} (h : AggOkP a) : 0 ≤ a.n ∧ a.n ≤ 1000 := by unfold AggOkP at h; omega
theorem aggOk_zero {a : AggT} (h : AggOkP a) (h0 : a.n = 0) : a = zAgg := by
  rcases h with ⟨h1, h2, h3, h4⟩ | ⟨h1, _⟩
  · cases a; simp_all [zAgg]
  · exact absurd h0 h1
theorem aggB_nn {a b : AggT} (ha : 0 ≤ a.n ∧ a.n ≤ 1000000000) (hb : 0 ≤ b.n ∧ b.n ≤ 1000000000) : (aggB a b).n = a.n + b.n := by
  unfold aggB
  by_cases h : a.n = 0
  · rw [if_pos h]; omega
  · rw [if_neg h]
    by_cases h2 : b.n = 0
    · rw [if_pos h2]; omega
    · rw [if_neg h2]
      exact w64_id (n := a.n + b.n) (by omega)
theorem aggOk_both {a b : AggT} (ha : AggOkP a) (hb : AggOkP b) (hn : a.n + b.n ≤ 1000) : AggOkP (aggB a b) := by
  unfold aggB
  by_cases h : a.n = 0
  · rw [if_pos h]; exact hb
  · rw [if_neg h]
    by_cases h2 : b.n = 0
    · rw [if_pos h2]; exact ha
    · rw [if_neg h2]
      rcases ha with ⟨h1, _⟩ | ⟨_, a1, a2, a3, a4⟩
      · exact absurd h1 h
      rcases hb with ⟨h1, _⟩ | ⟨_, b1, b2, b3, b4⟩
      · exact absurd h1 h2
      rw [wrap_mul a1 a2, wrap_mul a1 (show -9 ≤ a.most ∧ a.most ≤ 9 by omega)] at a4
      rw [wrap_mul b1 b2, wrap_mul b1 (show -9 ≤ b.most ∧ b.most ≤ 9 by omega)] at b4
      have am := mul_bd a1 a2
      have am2 := mul_bd a1 (show -9 ≤ a.most ∧ a.most ≤ 9 by omega)
      have bm := mul_bd b1 b2
      have bm2 := mul_bd b1 (show -9 ≤ b.most ∧ b.most ≤ 9 by omega)
      have en : w64 (a.n + b.n) = a.n + b.n := w64_id (by omega)
      have es : w64 (a.sum + b.sum) = a.sum + b.sum := w64_id (by omega)
      obtain ⟨lo, hlo⟩ : ∃ x, x = (if b.least < a.least then b.least else a.least) := ⟨_, rfl⟩
      obtain ⟨hi, hhi⟩ : ∃ x, x = (if a.most < b.most then b.most else a.most) := ⟨_, rfl⟩
      have l1 : lo ≤ a.least ∧ lo ≤ b.least ∧ -9 ≤ lo ∧ lo ≤ 9 := by rw [hlo]; split <;> omega
      have l2 : a.most ≤ hi ∧ b.most ≤ hi ∧ -9 ≤ hi ∧ hi ≤ 9 := by rw [hhi]; split <;> omega
      have c1 : a.n * lo ≤ a.n * a.least := Int.mul_le_mul_of_nonneg_left l1.1 (by omega)
      have c2 : b.n * lo ≤ b.n * b.least := Int.mul_le_mul_of_nonneg_left l1.2.1 (by omega)
      have c3 : a.n * a.most ≤ a.n * hi := Int.mul_le_mul_of_nonneg_left l2.1 (by omega)
      have c4 : b.n * b.most ≤ b.n * hi := Int.mul_le_mul_of_nonneg_left l2.2.1 (by omega)
      have e1 : (a.n + b.n) * lo = a.n * lo + b.n * lo := Int.add_mul _ _ _
      have e2 : (a.n + b.n) * hi = a.n * hi + b.n * hi := Int.add_mul _ _ _
      rw [← hlo, ← hhi]
      refine .inr ⟨?_, ?_, ?_, ?_, ?_⟩
      · show w64 (a.n + b.n) ≠ 0
        rw [en]; omega
      · show 1 ≤ w64 (a.n + b.n) ∧ w64 (a.n + b.n) ≤ 1000
        rw [en]; omega
      · exact ⟨l1.2.2.1, l1.2.2.2⟩
      · show lo ≤ hi ∧ hi ≤ 9
        omega
      · show IntKind.i64.wrap (w64 (a.n + b.n) * lo) ≤ w64 (a.sum + b.sum) ∧ w64 (a.sum + b.sum) ≤ IntKind.i64.wrap (w64 (a.n + b.n) * hi)
        rw [en, es, wrap_mul (show 1 ≤ a.n + b.n ∧ a.n + b.n ≤ 1000 by omega) ⟨l1.2.2.1, l1.2.2.2⟩, wrap_mul (show 1 ≤ a.n + b.n ∧ a.n + b.n ≤ 1000 by omega) ⟨l2.2.2.1, l2.2.2.2⟩, e1, e2]
        omega
theorem aggOk_one {v : Int} (h : -9 ≤ v ∧ v ≤ 9) : AggOkP (agg1 v) := by
  refine .inr ⟨by show (1 : Int) ≠ 0; decide, by show (1 : Int) ≤ 1 ∧ (1 : Int) ≤ 1000; decide, h, by show v ≤ v ∧ v ≤ 9; omega, ?_⟩
  show IntKind.i64.wrap (1 * v) ≤ v ∧ v ≤ IntKind.i64.wrap (1 * v)
  rw [Int.one_mul, IntWalk.i64_in _ (by omega)]
  exact ⟨Int.le_refl _, Int.le_refl _⟩
theorem aggOk_add {a : AggT} {v : Int} (ha : AggOkP a) (hv : -9 ≤ v ∧ v ≤ 9) (hn : a.n ≤ 999) : AggOkP (aggAdd a v) := aggOk_both ha (aggOk_one hv) (by show a.n + 1 ≤ 1000; omega)
theorem aggOk_fold : ∀ (L : List AggT) (a : AggT), AggOkP a → (∀ b, b ∈ L → AggOkP b) → a.n + sumI (L.map (·.n)) ≤ 1000 → AggOkP (L.foldl aggB a) ∧ (L.foldl aggB a).n = a.n + sumI (L.map (·.n))
  | [], a, ha, _, _ => ⟨ha, by show a.n = a.n + 0; omega⟩
  | b :: L, a, ha, hb, hn => by
    have hb0 := hb b (by simp)
    have e : sumI ((b :: L).map (·.n)) = b.n + sumI (L.map (·.n)) := rfl
    have hp : 0 ≤ sumI (L.map (·.n)) := by
      have : ∀ M : List AggT, (∀ b, b ∈ M → AggOkP b) → 0 ≤ sumI (M.map (·.n)) := by
        intro M
        induction M with
        | nil => intro _; exact Int.le_refl _
        | cons x M ih =>
          intro h
          have h1 := aggOk_n (h x (by simp))
          have h2 := ih fun y hy => h y (List.mem_cons_of_mem _ hy)
          show 0 ≤ x.n + sumI (M.map (·.n))
          omega
      exact this L fun y hy => hb y (List.mem_cons_of_mem _ hy)
    have h1 := aggOk_n ha
    have h2 := aggOk_n hb0
    rw [e] at hn ⊢
    have en := aggB_nn (a := a) (b := b) (by omega) (by omega)
    have := aggOk_fold L (aggB a b) (aggOk_both ha hb0 (by omega)) (fun c hc => hb c (List.mem_cons_of_mem _ hc)) (by rw [en]; omega)
    rw [List.foldl_cons]
    refine ⟨this.1, ?_⟩
    rw [this.2, en]; omega
end Go.Rk
/- A record leaves an operator ok, and tells panes that are. -/
namespace Go.Rk
set_option linter.unusedSimpArgs false
set_option linter.unusedVariables false
theorem winFrom_nn {j : JobT} (hj : JobOkP j) {t : Int} (h0 : 0 ≤ t) : 0 ≤ winFrom j t ∧ 1 ≤ winStep j := by
  unfold JobOkP at hj
  unfold winFrom winStep
  have c : t.tmod j.size ≤ t := by
    rw [Int.tmod_eq_emod_of_nonneg h0]
    have := Int.emod_add_mul_ediv t j.size
    have := Int.mul_nonneg (show 0 ≤ j.size by omega) (Int.ediv_nonneg h0 (show 0 ≤ j.size by omega))
    omega
  refine ⟨?_, ?_⟩ <;> split <;> (try split) <;> omega
theorem winOk_of {w : WinT} (h : 0 ≤ w.s ∧ w.s ≤ 60 ∧ w.s < w.e ∧ w.e ≤ 120) : WinOkP w := by
  unfold WinOkP
  rw [IntWalk.i64_in _ (by omega)]
  omega
theorem winOk_d {w : WinT} (h : WinOkP w) : 0 ≤ w.s ∧ w.s ≤ 60 ∧ w.s < w.e ∧ w.e ≤ 120 := by
  unfold WinOkP at h
  rw [IntWalk.i64_in _ (by omega)] at h
  omega
theorem winsL_ok {j : JobT} (hj : JobOkP j) {t : Int} (ht : 0 ≤ t ∧ t ≤ 60) {w : WinT} (hw : w ∈ winsL j t) : WinOkP w := by
  obtain ⟨h1, h2, h3, i, h4⟩ := winsL_mem hw
  have hp := winFrom_nn hj ht.1
  have := Int.mul_nonneg (show 0 ≤ winStep j by omega) (Int.natCast_nonneg i)
  unfold JobOkP at hj
  exact winOk_of ⟨by omega, by omega, by omega, by omega⟩
theorem slide_one {size step t : Int} (hs : 1 ≤ step) : ∀ (k : Nat) (f : Int), (f ≤ t → ((slideF size step t k f).length : Int) * step ≤ t - f + step) ∧ (t < f → (slideF size step t k f).length = 0)
  | 0, f => ⟨fun h => by show (0 : Int) * step ≤ _; rw [Int.zero_mul]; omega, fun _ => rfl⟩
  | k + 1, f => by
    obtain ⟨i1, i2⟩ := slide_one (size := size) (t := t) hs k (f + step)
    refine ⟨fun h => ?_, fun h => ?_⟩
    · unfold slideF
      rw [if_pos h, List.length_append, Int.natCast_add, Int.add_mul]
      have h1 : (((if t < f + size then [(⟨f, f + size⟩ : WinT)] else []).length : Nat) : Int) * step ≤ step := by
        split
        · show (1 : Int) * step ≤ step
          rw [Int.one_mul]; exact Int.le_refl _
        · show (0 : Int) * step ≤ step
          rw [Int.zero_mul]; omega
      by_cases h2 : f + step ≤ t
      · have := i1 h2; omega
      · have := i2 (by omega)
        rw [this]
        have e : ((0 : Nat) : Int) * step = 0 := Int.zero_mul _
        rw [e]; omega
    · unfold slideF
      rw [if_neg (by omega)]; rfl
theorem slide_few {size step t : Int} (hs : 1 ≤ step) (hz : 1 ≤ size) : ∀ (k : Nat) (f : Int), ((slideF size step t k f).length : Int) * step ≤ size - 1 + step
  | 0, f => by show (0 : Int) * step ≤ _; rw [Int.zero_mul]; omega
  | k + 1, f => by
    by_cases h : f ≤ t
    · by_cases hc : t < f + size
      · have := (slide_one (size := size) hs (k + 1) f).1 h; omega
      · have ih := slide_few (t := t) hs hz k (f + step)
        have e : slideF size step t (k + 1) f = slideF size step t k (f + step) := by
          show (if f ≤ t then (if t < f + size then [(⟨f, f + size⟩ : WinT)] else []) ++ slideF size step t k (f + step) else []) = _
          rw [if_pos h, if_neg hc]; rfl
        rw [e]; exact ih
    · have := (slide_one (size := size) (t := t) hs (k + 1) f).2 (by omega)
      rw [this]
      have e : ((0 : Nat) : Int) * step = 0 := Int.zero_mul _
      rw [e]; omega
theorem winsL_len4 {j : JobT} (hj : JobOkP j) {t : Int} (ht : 0 ≤ t ∧ t ≤ 60) : (winsL j t).length ≤ 4 := by
  have hj' := hj
  unfold JobOkP at hj
  by_cases h1 : j.kind = 1
  · rw [winsL_fixed h1 (by omega) ht.1 ht.2]; exact (by decide : 1 ≤ 4)
  · by_cases h3 : j.kind = 3
    · rw [winsL_sess h3 (by omega) ht.1 ht.2]; exact (by decide : 1 ≤ 4)
    · have h2 : j.kind = 2 := by omega
      have e : winStep j = j.step := by unfold winStep; rw [if_neg h1, if_pos h2]
      have h := slide_few (size := j.size) (step := j.step) (t := t) (by omega) (by omega) 100 (winFrom j t)
      have h5 : ((winsL j t).length : Int) * j.step ≤ j.size - 1 + j.step := by unfold winsL; rw [e]; exact h
      refine Nat.le_of_not_lt fun hlt => ?_
      have h6 : (5 : Int) * j.step ≤ ((winsL j t).length : Int) * j.step := Int.mul_le_mul_of_nonneg_right (by omega) (by omega)
      omega
theorem late_w {j : JobT} (hj : JobOkP j) {w : WinT} (hw : WinOkP w) : w64 (w.e + j.late) = w.e + j.late := by
  have := winOk_d hw
  unfold JobOkP at hj
  exact w64_id (by omega)
theorem tell_ok {j : JobT} {m : Int} {r : RowT} (hk : 0 ≤ r.key ∧ r.key ≤ 3) (hw : WinOkP r.win) (ha : AggOkP r.all) (hf : AggOkP r.fresh) (h0 : 1 ≤ r.fresh.n) (h1 : r.fresh.n ≤ r.all.n) (hto : 0 ≤ r.told ∧ r.told ≤ 1499) (hm : m < IntKind.i64.wrap (r.win.e + j.late))
    (ht : r.timely = true → 0 < r.told ∧ r.win.e ≤ m) (hn : r.timely = false → r.told = 0) : RowOkP j (tellS j m r).1 m ∧ ∀ p, p ∈ (tellS j m r).2 → PaneOkP p ∧ p.key = r.key := by
  unfold tellS
  by_cases hme : m < r.win.e
  · rw [if_pos hme]
    have htf : r.timely = false := by
      cases h : r.timely with
      | false => rfl
      | true => have := ht h; omega
    refine ⟨⟨hk, hw, ha, hf, (show r.all.n ≠ 0 by omega), h1, (show 0 ≤ r.told ∧ r.told ≤ 1500 by omega), hm, ?_, ?_, ?_⟩, fun p hp => by simp at hp⟩
    · show r.timely = true ↔ r.win.e ≤ m
      rw [htf]; constructor
      · intro h; cases h
      · intro h; omega
    · show 0 < r.told ↔ r.win.e ≤ m
      have := hn htf; omega
    · show r.fresh.n = 0 ↔ r.win.e ≤ m
      omega
  · rw [if_neg hme]
    have et : w64 (r.told + 1) = r.told + 1 := w64_id (by omega)
    refine ⟨⟨hk, hw, ha, aggOk_z, by show r.all.n ≠ 0; omega, by show (0 : Int) ≤ r.all.n; omega, ?_, hm, ?_, ?_, ?_⟩, fun p hp => ?_⟩
    · show 0 ≤ w64 (r.told + 1) ∧ w64 (r.told + 1) ≤ 1500
      rw [et]; omega
    · show true = true ↔ r.win.e ≤ m
      exact ⟨fun _ => by omega, fun _ => rfl⟩
    · show 0 < w64 (r.told + 1) ↔ r.win.e ≤ m
      rw [et]; omega
    · show (0 : Int) = 0 ↔ r.win.e ≤ m
      exact ⟨fun _ => by omega, fun _ => rfl⟩
    · simp only [List.mem_singleton] at hp
      subst hp
      refine ⟨⟨hk, hw, by show 0 ≤ r.told ∧ r.told ≤ 1500; omega, ?_, ?_⟩, rfl⟩
      · show AggOkP (if j.piece = true then r.fresh else r.all)
        split
        · exact hf
        · exact ha
      · have hag : 0 < (if j.piece = true then r.fresh else r.all).n := by split <;> omega
        show (kindT r = 1 ∧ r.told = 0 ∧ 0 < _) ∨ (kindT r = 2 ∧ 0 < r.told ∧ 0 < _) ∨ (kindT r = 3 ∧ 0 < r.told ∧ _)
        unfold kindT
        cases h : r.timely with
        | false => exact .inl ⟨by simp, hn h, hag⟩
        | true => exact .inr (.inl ⟨by simp, (ht h).1, hag⟩)
theorem pw_rIns {S : RowT → RowT → Prop} {r : RowT} : ∀ {l : List RowT}, l.Pairwise S → (∀ q, q ∈ l → S r q ∧ S q r) → (rIns r l).Pairwise S
  | [], _, _ => by simp [rIns]
  | q :: l, h, hn => by
    have h' := h
    rw [List.pairwise_cons] at h
    show (if RA r q then r :: q :: l else q :: rIns r l).Pairwise S
    split
    · rw [List.pairwise_cons]
      exact ⟨fun x hx => (hn x hx).1, h'⟩
    · rw [List.pairwise_cons]
      refine ⟨fun x hx => ?_, pw_rIns h.2 fun y hy => hn y (List.mem_cons_of_mem _ hy)⟩
      rcases mem_rIns.1 hx with rfl | hx
      · exact (hn q (by simp)).2
      · exact h.1 x hx
theorem pw_rPut {S : RowT → RowT → Prop} {r : RowT} {l : List RowT} (h : l.Pairwise S) (hn : ∀ q, q ∈ l → ¬ IsR r.key r.win q → S r q ∧ S q r) : (rPut r l).Pairwise S :=
  pw_rIns (List.Pairwise.filter _ h) fun q hq => hn q (mem_rOut.1 hq).1 (mem_rOut.1 hq).2
theorem touch_sym {a b : WinT} (h : TouchP a b) : TouchP b a := ⟨h.2, h.1⟩
/-- What a window has in it, or nothing yet. -/
theorem getD_ok {j : JobT} {m k : Int} {w : WinT} {l : List RowT} (h : ∀ r, r ∈ l → RowOkP j r m) {r0 : RowT} (hr0 : r0 = (rFind k w l).getD (nrow k w)) : (r0 ∈ l ∧ RowOkP j r0 m) ∨ r0 = nrow k w := by
  rw [hr0]
  cases hf : rFind k w l with
  | none => exact .inr rfl
  | some r => exact .inl ⟨(rfind_mem hf).1, h r (rfind_mem hf).1⟩
theorem add_row_ok {j : JobT} {m k v : Int} {w : WinT} {r0 : RowT} (hr : RowOkP j r0 m ∨ r0 = nrow k w) (hkw : IsR k w r0) (hk : 0 ≤ k ∧ k ≤ 3) (hv : -9 ≤ v ∧ v ≤ 9) (hw : WinOkP w) (hm : m < w64 (w.e + j.late)) (hn : r0.all.n ≤ 999) (ht : r0.told ≤ 1499) :
    RowOkP j (tellS j m (addR r0 v)).1 m ∧ (∀ p, p ∈ (tellS j m (addR r0 v)).2 → PaneOkP p ∧ p.key = k) ∧ (tellS j m (addR r0 v)).1.all.n = r0.all.n + 1 ∧ (tellS j m (addR r0 v)).1.told ≤ r0.told + 1 := by
  obtain ⟨ek, ew⟩ := isR_eq hkw
  have hb : AggOkP r0.all ∧ AggOkP r0.fresh ∧ r0.fresh.n ≤ r0.all.n ∧ 0 ≤ r0.told ∧ (r0.timely = true → 0 < r0.told ∧ r0.win.e ≤ m) ∧ (r0.timely = false → r0.told = 0) := by
    rcases hr with h | h
    · obtain ⟨_, _, a1, a2, _, a3, a4, _, a5, a6, _⟩ := h
      refine ⟨a1, a2, a3, a4.1, fun h => ⟨a6.2 (a5.1 h), a5.1 h⟩, fun h => ?_⟩
      have h9 : ¬ r0.win.e ≤ m := fun h2 => by have := a5.2 h2; rw [h] at this; cases this
      have : ¬ 0 < r0.told := fun h2 => h9 (a6.1 h2)
      omega
    · rw [h]
      exact ⟨aggOk_z, aggOk_z, Int.le_refl _, Int.le_refl _, (fun h => by cases h), (fun _ => rfl)⟩
  obtain ⟨a1, a2, a3, a4, a5, a6⟩ := hb
  have n1 := aggOk_n a1
  have n2 := aggOk_n a2
  have e1 : (aggAdd r0.all v).n = r0.all.n + 1 := add_n ⟨n1.1, by omega⟩
  have e2 : (aggAdd r0.fresh v).n = r0.fresh.n + 1 := add_n ⟨n2.1, by omega⟩
  have h := tell_ok (j := j) (m := m) (r := addR r0 v) (by show 0 ≤ r0.key ∧ r0.key ≤ 3; rw [ek]; exact hk) (by show WinOkP r0.win; rw [ew]; exact hw) (aggOk_add a1 hv hn) (aggOk_add a2 hv (by omega))
    (by show 1 ≤ (aggAdd r0.fresh v).n; omega) (by show (aggAdd r0.fresh v).n ≤ (aggAdd r0.all v).n; omega) ⟨a4, ht⟩ (by show m < IntKind.i64.wrap (r0.win.e + j.late); rw [ew]; exact hm) a5 a6
  refine ⟨h.1, fun p hp => ⟨(h.2 p hp).1, (h.2 p hp).2.trans ek⟩, ?_, ?_⟩
  · rw [(tellS_all j m (addR r0 v)).1]; exact e1
  · unfold tellS
    split
    · show r0.told ≤ r0.told + 1
      omega
    · show w64 (r0.told + 1) ≤ r0.told + 1
      rw [w64_id (by omega)]
      exact Int.le_refl _
/-- One row more, or one that was turned. -/
theorem put_ok {j : JobT} {m : Int} {r : RowT} {l : List RowT} (h : OkL j m l) (hr : RowOkP j r m) (ht : j.kind = 3 → ∀ q, q ∈ l → ¬ IsR r.key r.win q → q.key = r.key → ¬ TouchP q.win r.win) : OkL j m (rPut r l) := by
  refine ⟨fun q hq => ?_, rise_rPut h.2.1, fun h3 => pw_rPut (h.2.2 h3) fun q hq hn => ⟨fun hc => ?_, fun hc => ?_⟩⟩
  · rcases mem_rPut.1 hq with rfl | ⟨hq, _⟩
    · exact hr
    · exact h.1 q hq
  · exact ht h3 q hq hn hc.1.symm (touch_sym hc.2)
  · exact ht h3 q hq hn hc.1 hc.2
theorem into_ok {j : JobT} {m k v : Int} {w : WinT} {l : List RowT} {q : List RowT × List PaneT} {B T : Int} (h : OkL j m l) (hk : 0 ≤ k ∧ k ≤ 3) (hv : -9 ≤ v ∧ v ≤ 9) (hw : WinOkP w) (hB : 0 ≤ B ∧ B ≤ 999) (hT : 0 ≤ T ∧ T ≤ 1499) (hb : ∀ r, r ∈ l → r.all.n ≤ B ∧ r.told ≤ T)
    (ht : j.kind = 3 → ∀ q, q ∈ l → ¬ IsR k w q → q.key = k → ¬ TouchP q.win w) (he : intoL j m k v w l = some q) : OkL j m q.1 ∧ (∀ r, r ∈ q.1 → r.all.n ≤ B + 1 ∧ r.told ≤ T + 1) ∧ ∀ p, p ∈ q.2 → PaneOkP p ∧ p.key = k := by
  unfold intoL at he
  split at he
  · cases he
  · rename_i hm
    cases he
    obtain ⟨r0, hr0⟩ : ∃ r0, r0 = (rFind k w l).getD (nrow k w) := ⟨_, rfl⟩
    rw [← hr0]
    have hkw : IsR k w r0 := by rw [hr0]; exact getD_is
    have hok := getD_ok h.1 hr0
    have hb0 : r0.all.n ≤ B ∧ r0.told ≤ T := by
      rcases hok with ⟨h1, _⟩ | h1
      · exact hb r0 h1
      · rw [h1]; exact ⟨hB.1, hT.1⟩
    obtain ⟨c1, c2, c3, c4⟩ := add_row_ok (v := v) (hok.imp And.right id) hkw hk hv hw (by omega) (by omega) (by omega)
    obtain ⟨t1, t2, t3⟩ := tellS_all j m (addR r0 v)
    have ek : (tellS j m (addR r0 v)).1.key = k := t2.trans (isR_eq hkw).1
    have ew : (tellS j m (addR r0 v)).1.win = w := t3.trans (isR_eq hkw).2
    refine ⟨put_ok h c1 (by rw [ek, ew]; exact ht), fun r hr => ?_, c2⟩
    rcases mem_rPut.1 hr with rfl | ⟨hr, _⟩
    · omega
    · have := hb r hr; omega
end Go.Rk
/- Sessions, records and marks leave an operator ok. -/
namespace Go.Rk
set_option linter.unusedSimpArgs false
set_option linter.unusedVariables false
theorem span_s : ∀ (l : List RowT) (w : WinT), (spanL w l).s = w.s ∨ ∃ r, r ∈ l ∧ (spanL w l).s = r.win.s
  | [], w => .inl rfl
  | r :: l, w => by
    have e : spanL w (r :: l) = spanL (winSpan w r.win) l := rfl
    rw [e]
    rcases span_s l (winSpan w r.win) with h | ⟨q, hq, h⟩
    · rw [h]
      by_cases c : (winSpan w r.win).s = w.s
      · exact .inl c
      · refine .inr ⟨r, by simp, ?_⟩
        unfold winSpan at c ⊢
        simp only at c ⊢
        split at c <;> (try split) <;> first | omega | (exfalso; omega)
    · exact .inr ⟨q, List.mem_cons_of_mem _ hq, h⟩
theorem span_e : ∀ (l : List RowT) (w : WinT), (spanL w l).e = w.e ∨ ∃ r, r ∈ l ∧ (spanL w l).e = r.win.e
  | [], w => .inl rfl
  | r :: l, w => by
    have e : spanL w (r :: l) = spanL (winSpan w r.win) l := rfl
    rw [e]
    rcases span_e l (winSpan w r.win) with h | ⟨q, hq, h⟩
    · rw [h]
      by_cases c : (winSpan w r.win).e = w.e
      · exact .inl c
      · refine .inr ⟨r, by simp, ?_⟩
        unfold winSpan at c ⊢
        simp only at c ⊢
        split at c <;> (try split) <;> first | omega | (exfalso; omega)
    · exact .inr ⟨q, List.mem_cons_of_mem _ hq, h⟩
theorem pw_all {α : Type} {R : α → α → Prop} (hs : ∀ x y, R x y → R y x) (hr : ∀ x, R x x) : ∀ {l : List α}, l.Pairwise R → ∀ x, x ∈ l → ∀ y, y ∈ l → R x y
  | [], _, x, hx, _, _ => absurd hx (by simp)
  | a :: l, h, x, hx, y, hy => by
    rw [List.pairwise_cons] at h
    rcases List.mem_cons.1 hx with e | hx <;> rcases List.mem_cons.1 hy with f | hy
    · rw [e, f]; exact hr a
    · rw [e]; exact h.1 y hy
    · rw [f]; exact hs _ _ (h.1 x hx)
    · exact pw_all hs hr h.2 x hx y hy
theorem old_mem {k : Int} {w : WinT} {l : List RowT} {r : RowT} (h : r ∈ oldL k w l) : r ∈ l ∧ r.key = k ∧ TouchP r.win w := by
  unfold oldL at h
  rw [List.mem_filter] at h
  have h2 : decide (r.key = k ∧ (r.win.s < w.e ∧ w.s < r.win.e)) = true := h.2
  have h3 := of_decide_eq_true h2
  exact ⟨h.1, h3⟩
theorem rest_mem {k : Int} {w : WinT} {l : List RowT} {r : RowT} (h : r ∈ restL k w l) : r ∈ l ∧ ¬ (r.key = k ∧ TouchP r.win w) := by
  unfold restL at h
  rw [List.mem_filter] at h
  have h2 : (!decide (r.key = k ∧ (r.win.s < w.e ∧ w.s < r.win.e))) = true := h.2
  simp only [Bool.not_eq_true', decide_eq_false_iff_not] at h2
  exact ⟨h.1, h2⟩
theorem old_in {k : Int} {w : WinT} {l : List RowT} {r : RowT} (h : r ∈ l) (hk : r.key = k) (ht : TouchP r.win w) : r ∈ oldL k w l := by
  unfold oldL
  rw [List.mem_filter]
  exact ⟨h, by show decide (r.key = k ∧ (r.win.s < w.e ∧ w.s < r.win.e)) = true; exact decide_eq_true (show r.key = k ∧ (r.win.s < w.e ∧ w.s < r.win.e) from ⟨hk, ht⟩)⟩
theorem span_ok {j : JobT} {m k : Int} {w : WinT} {l : List RowT} (h : ∀ r, r ∈ l → RowOkP j r m) (hw : WinOkP w) : WinOkP (spanL w (oldL k w l)) := by
  have hi := span_in w (oldL k w l) w ⟨Int.le_refl _, Int.le_refl _⟩
  have hd := winOk_d hw
  have h1 : 0 ≤ (spanL w (oldL k w l)).s := by
    rcases span_s (oldL k w l) w with e | ⟨r, hr, e⟩
    · omega
    · have := winOk_d (h r (old_mem hr).1).2.1; omega
  have h2 : (spanL w (oldL k w l)).e ≤ 120 := by
    rcases span_e (oldL k w l) w with e | ⟨r, hr, e⟩
    · omega
    · have := winOk_d (h r (old_mem hr).1).2.1; omega
  exact winOk_of ⟨h1, by omega, by omega, h2⟩
/-- What did not touch a record touches not what became of it. -/
theorem rest_touch {j : JobT} {m k : Int} {w : WinT} {l : List RowT} (h : OkL j m l) (h3 : j.kind = 3) (hw : WinOkP w) {q : RowT} (hq : q ∈ l) (hqk : q.key = k) (hn : ¬ TouchP q.win w) : ¬ TouchP q.win (spanL w (oldL k w l)) := by
  intro ht
  have hall : ∀ x, x ∈ l → ∀ y, y ∈ l → (tchR k w x ≠ tchR k w y → ¬ (x.key = y.key ∧ TouchP x.win y.win)) := by
    refine pw_all (R := fun x y => tchR k w x ≠ tchR k w y → ¬ (x.key = y.key ∧ TouchP x.win y.win)) ?_ ?_ ?_
    · intro x y hxy hne hc
      exact hxy (fun e => hne e.symm) ⟨hc.1.symm, touch_sym hc.2⟩
    · intro x hne
      exact absurd rfl hne
    · exact List.Pairwise.imp (fun {a b} hxy (_ : tchR k w a ≠ tchR k w b) => hxy) (h.2.2 h3)
  have hno : ∀ o, o ∈ oldL k w l → ¬ TouchP q.win o.win := fun o ho hc => by
    obtain ⟨o1, o2, o3⟩ := old_mem ho
    refine hall q hq o o1 ?_ ⟨hqk.trans o2.symm, hc⟩
    have e1 : tchR k w q = false := by show decide (q.key = k ∧ (q.win.s < w.e ∧ w.s < q.win.e)) = false; exact decide_eq_false (fun hc : q.key = k ∧ (q.win.s < w.e ∧ w.s < q.win.e) => hn hc.2)
    have e2 : tchR k w o = true := by show decide (o.key = k ∧ (o.win.s < w.e ∧ w.s < o.win.e)) = true; exact decide_eq_true (show o.key = k ∧ (o.win.s < w.e ∧ w.s < o.win.e) from ⟨o2, o3⟩)
    rw [e1, e2]; simp
  have hd := winOk_d hw
  have hqd := winOk_d (h.1 q hq).2.1
  unfold TouchP at ht hn
  have hc : q.win.e ≤ w.s ∨ w.e ≤ q.win.s := by omega
  rcases hc with hc | hc
  · rcases span_s (oldL k w l) w with e | ⟨o, ho, e⟩
    · omega
    · have := (old_mem ho).2.2
      refine hno o ho ?_
      unfold TouchP at *
      omega
  · rcases span_e (oldL k w l) w with e | ⟨o, ho, e⟩
    · omega
    · have := (old_mem ho).2.2
      refine hno o ho ?_
      unfold TouchP at *
      omega
theorem sumN_nn {l : List RowT} (h : ∀ r, r ∈ l → 0 ≤ r.all.n) : 0 ≤ sumN l := by
  induction l with
  | nil => exact Int.le_refl _
  | cons r l ih =>
    have h1 := h r (by simp)
    have h2 := ih fun q hq => h q (List.mem_cons_of_mem _ hq)
    rw [sumN_cons]; omega
theorem sumN_mem {l : List RowT} (h : ∀ r, r ∈ l → 0 ≤ r.all.n) {r : RowT} (hr : r ∈ l) : r.all.n ≤ sumN l := by
  induction l with
  | nil => simp at hr
  | cons q l ih =>
    have h1 := h q (by simp)
    have h2 : ∀ x, x ∈ l → 0 ≤ x.all.n := fun x hx => h x (List.mem_cons_of_mem _ hx)
    have h3 := sumN_nn h2
    rw [sumN_cons]
    rcases List.mem_cons.1 hr with e | hr
    · rw [e]; omega
    · have := ih h2 hr; omega
theorem rowOk_n {j : JobT} {m : Int} {r : RowT} (h : RowOkP j r m) : 1 ≤ r.all.n ∧ r.all.n ≤ 1000 := by
  have h1 := aggOk_n h.2.2.1
  have h2 := h.2.2.2.2.1
  omega
theorem sess_ok {j : JobT} {m k v : Int} {w : WinT} {l : List RowT} {q : List RowT × List PaneT} {T : Int} (h : OkL j m l) (h3 : j.kind = 3) (hk : 0 ≤ k ∧ k ≤ 3) (hv : -9 ≤ v ∧ v ≤ 9) (hw : WinOkP w) (hS : sumN l ≤ 990) (hT : 0 ≤ T ∧ T ≤ 1499) (hb : ∀ r, r ∈ l → r.told ≤ T)
    (he : sessL j m k v w l = some q) : OkL j m q.1 ∧ (∀ r, r ∈ q.1 → r.told ≤ T + 1) ∧ ∀ p, p ∈ q.2 → PaneOkP p ∧ p.key = k := by
  have hnn : ∀ r, r ∈ l → 0 ≤ r.all.n := fun r hr => by have := rowOk_n (h.1 r hr); omega
  have hsp := span_ok (k := k) h.1 hw
  unfold sessL at he
  split at he
  · cases he
  · rename_i hm
    split at he
    · rename_i h1
      obtain ⟨o, ho⟩ : ∃ o, oldL k w l = [o] := by
        cases h : oldL k w l with
        | nil => rw [h] at h1; cases h1
        | cons a r => cases r with
          | nil => exact ⟨a, rfl⟩
          | cons _ _ => rw [h] at h1; cases h1
      have hno : j.kind = 3 → ∀ q, q ∈ l → ¬ IsR k (spanL w (oldL k w l)) q → q.key = k → ¬ TouchP q.win (spanL w (oldL k w l)) := fun _ q hq hn hqk => by
        by_cases ht : TouchP q.win w
        · have hq2 := old_in hq hqk ht
          rw [ho, List.mem_singleton] at hq2
          exfalso
          refine hn ⟨hqk, ?_⟩
          have h2 := h1
          rw [show oneB (spanL w (oldL k w l)) (oldL k w l) = oneB (spanL w (oldL k w l)) [o] by rw [ho]] at h2
          rw [hq2]
          exact of_decide_eq_true h2
        · exact rest_touch h h3 hw hq hqk ht
      obtain ⟨c1, c2, c3⟩ := into_ok (B := 990) h hk hv hsp (by omega) hT (fun r hr => ⟨Int.le_trans (sumN_mem hnn hr) hS, hb r hr⟩) hno he
      exact ⟨c1, fun r hr => (c2 r hr).2, c3⟩
    · cases he
      obtain ⟨a0, ha0⟩ : ∃ a0 : AggT, a0 = ((oldL k w l).map (·.all)).foldl aggB (agg1 v) := ⟨_, rfl⟩
      rw [← ha0]
      obtain ⟨r0, hr0⟩ : ∃ r0 : RowT, r0 = ⟨k, spanL w (oldL k w l), a0, a0, 0, false⟩ := ⟨_, rfl⟩
      rw [← hr0]
      have hsplit := sumN_split k w l
      have hrn : 0 ≤ sumN (restL k w l) := sumN_nn fun r hr => hnn r (rest_mem hr).1
      have hon : 0 ≤ sumN (oldL k w l) := sumN_nn fun r hr => hnn r (old_mem hr).1
      have hsum : sumI (((oldL k w l).map (·.all)).map (·.n)) = sumN (oldL k w l) := by rw [List.map_map]; rfl
      have hf := aggOk_fold ((oldL k w l).map (·.all)) (agg1 v) (aggOk_one hv) (fun b hb => by
        obtain ⟨r, hr, rfl⟩ := List.mem_map.1 hb
        exact (h.1 r (old_mem hr).1).2.2.1) (by rw [hsum]; show (1 : Int) + _ ≤ _; omega)
      rw [hsum, ← ha0] at hf
      have hn0 : a0.n = 1 + sumN (oldL k w l) := hf.2
      have hmm : m < w64 ((spanL w (oldL k w l)).e + j.late) := Int.not_le.1 hm
      have hr := tell_ok (j := j) (m := m) (r := r0) (by rw [hr0]; exact hk) (by rw [hr0]; exact hsp) (by rw [hr0]; exact hf.1) (by rw [hr0]; exact hf.1) (by rw [hr0]; show 1 ≤ a0.n; omega) (by rw [hr0]; exact Int.le_refl _) (by rw [hr0]; show (0 : Int) ≤ 0 ∧ (0 : Int) ≤ 1499; decide) (by rw [hr0]; exact hmm)
        (fun h => by rw [hr0] at h; cases h) (fun _ => by rw [hr0])
      obtain ⟨t1, t2, t3⟩ := tellS_all j m r0
      have ek : (tellS j m r0).1.key = k := by rw [t2, hr0]
      have ew : (tellS j m r0).1.win = spanL w (oldL k w l) := by rw [t3, hr0]
      have hrest : OkL j m (restL k w l) := ⟨fun r hr => h.1 r (rest_mem hr).1, rest_rise h.2.1, fun h3 => List.Pairwise.filter _ (h.2.2 h3)⟩
      refine ⟨put_ok hrest hr.1 fun _ q hq _ hqk => ?_, fun r hr => ?_, fun p hp => ?_⟩
      · rw [ew]
        rw [ek] at hqk
        exact rest_touch h h3 hw (rest_mem hq).1 hqk fun hc => (rest_mem hq).2 ⟨hqk, hc⟩
      · rcases mem_rPut.1 hr with rfl | ⟨hr, _⟩
        · unfold tellS
          split
          · rw [hr0]; show (0 : Int) ≤ T + 1; omega
          · rw [hr0]; show w64 (0 + 1) ≤ T + 1
            rw [w64_id (by omega)]; omega
        · have := hb r (rest_mem hr).1; omega
      · rcases List.mem_append.1 hp with hp | hp
        · unfold goneL at hp
          obtain ⟨r, hr, rfl⟩ := List.mem_map.1 hp
          rw [List.mem_filter] at hr
          have hto : 0 < r.told := of_decide_eq_true hr.2
          obtain ⟨o1, o2, _⟩ := old_mem hr.1
          have hro := h.1 r o1
          exact ⟨⟨hro.1, hro.2.1, hro.2.2.2.2.2.2.1, aggOk_z, .inr (.inr ⟨rfl, hto, rfl⟩)⟩, o2⟩
        · have := hr.2 p hp
          exact ⟨this.1, by rw [this.2, hr0]⟩
theorem takeW_ok {j : JobT} {m : Int} {x : ItmT} (hk : ¬ j.kind = 3) (hj : JobOkP j) (hx : RecP x) : ∀ (ws : List WinT) (l : List RowT) (a : List PaneT) (c : List LatT) (B T : Int), OkL j m l → (∀ w, w ∈ ws → WinOkP w) → 0 ≤ B → B + (ws.length : Int) ≤ 1000 → 0 ≤ T → T + (ws.length : Int) ≤ 1500 →
    (∀ r, r ∈ l → r.all.n ≤ B ∧ r.told ≤ T) → (∀ p, p ∈ a → PaneOkP p ∧ p.key = x.key) →
    OkL j m (ws.foldl (takeS j m x) (l, a, c)).1 ∧ (∀ r, r ∈ (ws.foldl (takeS j m x) (l, a, c)).1 → r.told ≤ T + (ws.length : Int)) ∧ ∀ p, p ∈ (ws.foldl (takeS j m x) (l, a, c)).2.1 → PaneOkP p ∧ p.key = x.key := by
  intro ws
  induction ws with
  | nil => intro l a c B T h _ _ _ _ _ hb hp; exact ⟨h, fun r hr => by have := (hb r hr).2; show r.told ≤ T + 0; omega, hp⟩
  | cons w ws ih =>
    intro l a c B T h hw hB hB2 hT hT2 hb hp
    have hg : ((w :: ws).length : Int) = (ws.length : Int) + 1 := rfl
    rw [hg] at hB2 hT2 ⊢
    rw [List.foldl_cons]
    have hws := fun u hu => hw u (List.mem_cons_of_mem _ hu)
    cases hq : stepT j m x w l with
    | none =>
      rw [takeS_none (a := (l, a, c)) hq]
      obtain ⟨c1, c2, c3⟩ := ih l a (c ++ [(⟨x, w⟩ : LatT)]) B T h hws hB (by omega) hT (by omega) hb hp
      exact ⟨c1, fun r hr => by have := c2 r hr; omega, c3⟩
    | some q =>
      rw [takeS_some (a := (l, a, c)) hq]
      have he := hq
      unfold stepT at he
      rw [if_neg hk] at he
      have hx2 := hx.2
      have hx1 := hx.1
      unfold ItmOkP at hx2
      obtain ⟨c1, c2, c3⟩ := into_ok (B := B) (T := T) h (by omega) (by omega) (hw w (by simp)) (by omega) (by omega) hb (fun h3 => absurd h3 hk) he
      obtain ⟨d1, d2, d3⟩ := ih q.1 (a ++ q.2) c (B + 1) (T + 1) c1 hws (by omega) (by omega) (by omega) (by omega) c2 (fun p hp' => by
        rcases List.mem_append.1 hp' with hp' | hp'
        · exact hp p hp'
        · exact c3 p hp')
      exact ⟨d1, fun r hr => by have := d2 r hr; omega, d3⟩
/-- Behind a record. -/
theorem take_ok {j : JobT} {s : OpStT} {x : ItmT} {T : Int} (hok : OpOkP j s) (hx : RecP x) (h280 : s.rows.n ≤ 280) (hS : sumN (rowsL s) ≤ 900) (hT : 0 ≤ T ∧ T ≤ 1400) (hb : ∀ r, r ∈ rowsL s → r.told ≤ T) :
    OkL j s.mark (opTakeL j s x).2.1 ∧ (∀ r, r ∈ (opTakeL j s x).2.1 → r.told ≤ T + 4) ∧ sumN (opTakeL j s x).2.1 ≤ sumN (rowsL s) + 4 ∧ ∀ p, p ∈ (opTakeL j s x).2.2.1 → PaneOkP p ∧ p.key = x.key := by
  have hsum := take_sum hok hx h280
  have hlen := winsL_len4 hok.1 (recP_t hx)
  have hol := okL_of hok
  have ht := recP_t hx
  have hxk : (0 ≤ x.key ∧ x.key ≤ 3) ∧ (-9 ≤ x.v ∧ x.v ≤ 9) := by
    have hx2 := hx.2
    have hx1 := hx.1
    unfold ItmOkP at hx2
    omega
  have hnn : ∀ r, r ∈ rowsL s → 0 ≤ r.all.n := fun r hr => by have := rowOk_n (hol.1 r hr); omega
  have key : OkL j s.mark (opTakeL j s x).2.1 ∧ (∀ r, r ∈ (opTakeL j s x).2.1 → r.told ≤ T + 4) ∧ ∀ p, p ∈ (opTakeL j s x).2.2.1 → PaneOkP p ∧ p.key = x.key := by
    unfold opTakeL
    rw [if_pos ⟨hok, hx, h280⟩]
    show OkL j s.mark (takeL j s.mark x (winsL j x.t) (rowsL s)).1 ∧ (∀ r, r ∈ (takeL j s.mark x (winsL j x.t) (rowsL s)).1 → r.told ≤ T + 4) ∧ ∀ p, p ∈ (takeL j s.mark x (winsL j x.t) (rowsL s)).2.1 → PaneOkP p ∧ p.key = x.key
    unfold takeL
    by_cases hk : j.kind = 3
    · have hj := hok.1
      have hwo := fun w hw => winsL_ok hj ht (w := w) hw
      have hj' := hj
      unfold JobOkP at hj
      rw [winsL_sess hk (by omega) ht.1 ht.2] at hwo ⊢
      rw [List.foldl_cons, List.foldl_nil]
      cases hq : stepT j s.mark x ⟨x.t, x.t + j.size⟩ (rowsL s) with
      | none =>
        rw [takeS_none (a := (rowsL s, [], [])) hq]
        exact ⟨hol, fun r hr => by have := hb r hr; omega, fun p hp => absurd hp (by simp)⟩
      | some q =>
        rw [takeS_some (a := (rowsL s, [], [])) hq]
        have he := hq
        unfold stepT at he
        rw [if_pos hk] at he
        obtain ⟨c1, c2, c3⟩ := sess_ok (T := T) hol hk hxk.1 hxk.2 (hwo _ (by simp)) (by omega) (by omega) hb he
        exact ⟨c1, fun r hr => by have := c2 r hr; omega, fun p hp => c3 p (by simpa using hp)⟩
    · have h := takeW_ok hk hok.1 hx (m := s.mark) (winsL j x.t) (rowsL s) [] [] 900 T hol (fun w hw => winsL_ok hok.1 ht hw) (by omega) (by omega) hT.1 (by omega) (fun r hr => ⟨Int.le_trans (sumN_mem hnn hr) hS, hb r hr⟩) (fun p hp => absurd hp (by simp))
      exact ⟨h.1, fun r hr => by have := h.2.1 r hr; omega, h.2.2⟩
  exact ⟨key.1, key.2.1, by omega, key.2.2⟩
end Go.Rk
/- A mark leaves an operator ok; what a mark tells; two marks. -/
namespace Go.Rk
set_option linter.unusedSimpArgs false
set_option linter.unusedVariables false
theorem markR_all (m : Int) (r : RowT) : (markR m r).all = r.all ∧ (markR m r).key = r.key ∧ (markR m r).win = r.win := by
  unfold markR; split <;> exact ⟨rfl, rfl, rfl⟩
def markL (j : JobT) (mk : Int) (l : List RowT) (m : Int) : Int × List RowT × List PaneT :=
  if m ≤ mk then (mk, l, []) else (m, keepL j.late m l, tellL j.piece m l)
theorem opMarkL_L {j : JobT} {s : OpStT} {m : Int} (hok : OpOkP j s) (hm : 0 ≤ m ∧ m ≤ 1000) : opMarkL j s m = markL j s.mark (rowsL s) m := by
  unfold opMarkL markL
  rw [if_neg (fun h => h ⟨hok, hm⟩)]
  split
  · rfl
  · have e : keepN (fun i => markR m (s.rows.g i)) (overB j.late m) s.rows.n = keepL j.late m (rowsL s) := by
      unfold keepN keepL rowsL
      rw [List.map_map]; rfl
    rw [e]; rfl
theorem opMarkL_bad {j : JobT} {s : OpStT} {m : Int} (h : ¬ (OpOkP j s ∧ (0 ≤ m ∧ m ≤ 1000))) : opMarkL j s m = (0, [], []) := by
  unfold opMarkL; rw [if_pos h]
theorem untold_zero {j : JobT} {r : RowT} {m : Int} (h : RowOkP j r m) (ht : r.timely = false) : r.told = 0 := by
  obtain ⟨_, _, _, _, _, _, a4, _, a5, a6, _⟩ := h
  have h9 : ¬ r.win.e ≤ m := fun h2 => by have := a5.2 h2; rw [ht] at this; cases this
  have : ¬ 0 < r.told := fun h2 => h9 (a6.1 h2)
  omega
theorem due_iff {m : Int} {r : RowT} : dueB m r = true ↔ r.timely = false ∧ r.win.e ≤ m := by
  unfold dueB
  simp
theorem mark_row_ok {j : JobT} {r : RowT} {m0 m : Int} (h : RowOkP j r m0) (hm : m0 < m) (ho : overB j.late m r = false) : RowOkP j (markR m r) m ∧ (markR m r).told ≤ r.told + 1 := by
  have ho' : m < w64 (r.win.e + j.late) := by
    unfold overB at ho
    have := of_decide_eq_false ho
    omega
  have h' := h
  obtain ⟨b1, b2, b3, b4, b5, b6, a4, a7, a5, a6, a8⟩ := h
  unfold markR
  cases hd : dueB m r with
  | true =>
    rw [if_pos rfl]
    obtain ⟨d1, d2⟩ := due_iff.1 hd
    have h0 := untold_zero h' d1
    have et : w64 (r.told + 1) = 1 := by rw [h0]; exact w64_id (by omega)
    refine ⟨⟨b1, b2, b3, aggOk_z, b5, ?_, ?_, ho', ?_, ?_, ?_⟩, ?_⟩
    · show (0 : Int) ≤ r.all.n
      exact (aggOk_n b3).1
    · show 0 ≤ w64 (r.told + 1) ∧ w64 (r.told + 1) ≤ 1500
      rw [et]; omega
    · show true = true ↔ r.win.e ≤ m
      exact ⟨fun _ => d2, fun _ => rfl⟩
    · show 0 < w64 (r.told + 1) ↔ r.win.e ≤ m
      rw [et]; exact ⟨fun _ => d2, fun _ => by decide⟩
    · show (0 : Int) = 0 ↔ r.win.e ≤ m
      exact ⟨fun _ => d2, fun _ => rfl⟩
    · show w64 (r.told + 1) ≤ r.told + 1
      rw [et]; omega
  | false =>
    rw [if_neg (by simp)]
    have hn : r.win.e ≤ m0 ↔ r.win.e ≤ m := by
      constructor
      · intro h; omega
      · intro h
        refine a5.1 ?_
        cases ht : r.timely with
        | true => rfl
        | false => rw [due_iff.2 ⟨ht, h⟩] at hd; cases hd
    refine ⟨⟨b1, b2, b3, b4, b5, b6, a4, ho', a5.trans hn, a6.trans hn, a8.trans hn⟩, by omega⟩
theorem keepL_mem {late m : Int} {l : List RowT} {r : RowT} : r ∈ keepL late m l ↔ ∃ q, q ∈ l ∧ overB late m q = false ∧ r = markR m q := by
  unfold keepL
  rw [List.mem_filter, List.mem_map]
  constructor
  · rintro ⟨⟨q, hq, rfl⟩, h2⟩
    rw [overB_mark] at h2
    exact ⟨q, hq, by simpa using h2, rfl⟩
  · rintro ⟨q, hq, h, rfl⟩
    exact ⟨⟨q, hq, rfl⟩, by rw [overB_mark, h]; rfl⟩
theorem mark_okL {j : JobT} {mk m T : Int} {l : List RowT} (h : OkL j mk l) (hm : mk < m) (hb : ∀ r, r ∈ l → r.told ≤ T) : OkL j m (keepL j.late m l) ∧ (∀ r, r ∈ keepL j.late m l → r.told ≤ T + 1) := by
  have hpw : ∀ {S : RowT → RowT → Prop}, (∀ a b, S a b → S (markR m a) (markR m b)) → l.Pairwise S → (keepL j.late m l).Pairwise S := fun {S} hs hp => by
    unfold keepL
    refine List.Pairwise.filter _ ?_
    rw [List.pairwise_map]
    exact List.Pairwise.imp (fun {a b} hab => hs a b hab) hp
  refine ⟨⟨fun r hr => ?_, ?_, fun h3 => ?_⟩, fun r hr => ?_⟩
  · obtain ⟨q, hq, ho, rfl⟩ := keepL_mem.1 hr
    exact (mark_row_ok (h.1 q hq) hm ho).1
  · refine hpw (fun a b hab => ?_) h.2.1
    unfold RA at *
    rw [(markR_all m a).2.1, (markR_all m a).2.2, (markR_all m b).2.1, (markR_all m b).2.2]
    exact hab
  · refine hpw (fun a b hab => ?_) (h.2.2 h3)
    rw [(markR_all m a).2.1, (markR_all m a).2.2, (markR_all m b).2.1, (markR_all m b).2.2]
    exact hab
  · obtain ⟨q, hq, ho, rfl⟩ := keepL_mem.1 hr
    have := (mark_row_ok (h.1 q hq) hm ho).2
    have := hb q hq
    omega
theorem tell_pane_ok {j : JobT} {mk m : Int} {l : List RowT} (h : ∀ r, r ∈ l → RowOkP j r mk) {p : PaneT} (hp : p ∈ tellL j.piece m l) : PaneOkP p := by
  unfold tellL at hp
  obtain ⟨r, hr, rfl⟩ := List.mem_map.1 hp
  rw [List.mem_filter] at hr
  have hro := h r hr.1
  obtain ⟨d1, d2⟩ := due_iff.1 hr.2
  have h0 := untold_zero hro d1
  obtain ⟨b1, b2, b3, b4, b5, b6, a4, a7, a5, a6, a8⟩ := hro
  have n3 := aggOk_n b3
  have n4 := aggOk_n b4
  have hne : ¬ r.win.e ≤ mk := fun h2 => by have := a5.2 h2; rw [d1] at this; cases this
  have hf : r.fresh.n ≠ 0 := fun h2 => hne (a8.1 h2)
  refine ⟨b1, b2, a4, ?_, .inl ⟨rfl, h0, ?_⟩⟩
  · show AggOkP (if j.piece = true then r.fresh else r.all)
    split
    · exact b4
    · exact b3
  · show 0 < (if j.piece = true then r.fresh else r.all).n
    split <;> omega
theorem sumN_keep (late m : Int) : ∀ (l : List RowT), (∀ r, r ∈ l → 0 ≤ r.all.n) → sumN (keepL late m l) ≤ sumN l
  | [], _ => Int.le_refl _
  | r :: l, h => by
    have h1 := h r (by simp)
    have ih := sumN_keep late m l fun q hq => h q (List.mem_cons_of_mem _ hq)
    have e : keepL late m (r :: l) = if overB late m r = true then keepL late m l else markR m r :: keepL late m l := by
      unfold keepL
      rw [List.map_cons, List.filter_cons, overB_mark]
      cases overB late m r <;> simp
    rw [e, sumN_cons]
    split
    · omega
    · rw [sumN_cons, (markR_all m r).1]; omega
/-- Behind a mark. -/
theorem mark_ok {j : JobT} {s : OpStT} {m T : Int} (hok : OpOkP j s) (hm : 0 ≤ m ∧ m ≤ 1000) (hT : 0 ≤ T) (hb : ∀ r, r ∈ rowsL s → r.told ≤ T) :
    s.mark ≤ (opMarkL j s m).1 ∧ (opMarkL j s m).1 ≤ 1000 ∧ OkL j (opMarkL j s m).1 (opMarkL j s m).2.1 ∧ (∀ r, r ∈ (opMarkL j s m).2.1 → r.told ≤ T + 1) ∧ sumN (opMarkL j s m).2.1 ≤ sumN (rowsL s) ∧ ∀ p, p ∈ (opMarkL j s m).2.2 → PaneOkP p := by
  rw [opMarkL_L hok hm]
  have hol := okL_of hok
  have hmk := hok.2.1
  unfold markL
  split
  · exact ⟨Int.le_refl _, hmk.2, hol, fun r hr => by have := hb r hr; omega, Int.le_refl _, fun p hp => absurd hp (by simp)⟩
  · have h := mark_okL hol (m := m) (by omega) hb
    refine ⟨by show s.mark ≤ m; omega, hm.2, h.1, h.2, sumN_keep _ _ _ fun r hr => ?_, fun p hp => tell_pane_ok hol.1 hp⟩
    have := rowOk_n (hol.1 r hr); omega
theorem rfind_in {k : Int} {w : WinT} {l : List RowT} {r : RowT} (h : RiseR l) (hr : r ∈ l) (hk : IsR k w r) : rFind k w l = some r := by
  induction l with
  | nil => simp at hr
  | cons q l ih =>
    rw [RiseR, List.pairwise_cons] at h
    have e : rFind k w (q :: l) = if IsR k w q then some q else rFind k w l := by
      unfold rFind
      rw [List.find?_cons]
      by_cases hq : IsR k w q
      · rw [decide_eq_true hq, if_pos hq]
      · rw [decide_eq_false hq, if_neg hq]
    rw [e]
    rcases List.mem_cons.1 hr with e1 | hr
    · rw [← e1, if_pos hk]
    · rw [if_neg (fun hq => ra_ne (h.1 r hr) hq hk), ih h.2 hr]
end Go.Rk
/- Drawn operators know of few values. -/
namespace Go.Rk
set_option linter.unusedSimpArgs false
set_option linter.unusedVariables false
/-- Few values, seldom told. -/
def Bd (B : Int) (l : List RowT) : Prop := sumN l ≤ B ∧ ∀ r, r ∈ l → 0 ≤ r.all.n ∧ r.told ≤ B
theorem bd_nil {B : Int} (h : 0 ≤ B) : Bd B [] := ⟨h, fun r hr => absurd hr (by simp)⟩
theorem opTakeL_bad {j : JobT} {s : OpStT} {x : ItmT} (h : ¬ (OpOkP j s ∧ RecP x ∧ s.rows.n ≤ 280)) : opTakeL j s x = (0, [], [], []) := by
  unfold opTakeL; rw [if_neg h]
theorem bd_take {j : JobT} {s : OpStT} {x : ItmT} {B : Int} (h : Bd B (rowsL s)) (hB : 0 ≤ B ∧ B ≤ 880) : Bd (B + 4) (opTakeL j s x).2.1 := by
  by_cases hc : OpOkP j s ∧ RecP x ∧ s.rows.n ≤ 280
  · obtain ⟨h1, h2, h3, _⟩ := take_ok (T := B) hc.1 hc.2.1 hc.2.2 (by have := h.1; omega) (by omega) fun r hr => (h.2 r hr).2
    refine ⟨by have := h.1; omega, fun r hr => ⟨?_, h2 r hr⟩⟩
    have := rowOk_n (h1.1 r hr)
    omega
  · rw [opTakeL_bad hc]
    exact bd_nil (by omega)
theorem bd_mark {j : JobT} {s : OpStT} {m B : Int} (h : Bd B (rowsL s)) (hB : 0 ≤ B) : Bd (B + 4) (opMarkL j s m).2.1 := by
  by_cases hc : OpOkP j s ∧ (0 ≤ m ∧ m ≤ 1000)
  · obtain ⟨_, _, h1, h2, h3, _⟩ := mark_ok (T := B) hc.1 hc.2 hB fun r hr => (h.2 r hr).2
    refine ⟨by have := h.1; omega, fun r hr => ⟨?_, ?_⟩⟩
    · have := rowOk_n (h1.1 r hr); omega
    · have := h2 r hr; omega
  · rw [opMarkL_bad hc]
    exact bd_nil (by omega)
/-- As few rows as values. -/
theorem sumN_rows {j : JobT} {m : Int} : ∀ {l : List RowT}, (∀ r, r ∈ l → RowOkP j r m) → (l.length : Int) ≤ sumN l
  | [], _ => Int.le_refl _
  | r :: l, h => by
    have h1 := rowOk_n (h r (by simp))
    have h2 := sumN_rows fun q hq => h q (List.mem_cons_of_mem _ hq)
    rw [sumN_cons, List.length_cons]; omega
end Go.Rk
/- Records, jobs and logs that are drawn: of their kind. -/
namespace Go.Rk
set_option linter.unusedSimpArgs false
set_option linter.unusedVariables false
theorem selIx {A : Ar} (hA : real = A) {l : List Int} {x : Int} {P : Int → Prop} {n : Nat} (h0 : 0 ≤ x) (h1 : x < (n : Int)) (hP : ∀ i, i < n → P (l.getD i 0)) : P (A.sel l (A.add 0 (A.nat x))) := by
  subst hA
  obtain ⟨i, rfl⟩ := Int.eq_ofNat_of_zero_le h0
  have e : real.add 0 (real.nat (i : Int)) = i := Nat.zero_add i
  rw [e]
  exact hP i (Int.ofNat_lt.1 h1)
theorem recMk {A : Ar} (hA : real = A) {a i k v : Int} (h1 : 0 ≤ a) (h2 : a < 61) (h3 : 0 ≤ i) (h4 : i < 6) (h5 : 0 ≤ k) (h6 : k < 4) (h7 : 0 ≤ v) (h8 : v < 19) : RecP ⟨1, A.sel [0, 1, 5, 20, 60, a] (A.add 0 (A.nat i)), k, A.ar .sub .i64 v 9, 0⟩ := by
  have ht : 0 ≤ A.sel [0, 1, 5, 20, 60, a] (A.add 0 (A.nat i)) ∧ A.sel [0, 1, 5, 20, 60, a] (A.add 0 (A.nat i)) ≤ 60 := selIx hA (P := fun z => 0 ≤ z ∧ z ≤ 60) (n := 6) h3 h4 fun q hq => by
    rcases q with _ | _ | _ | _ | _ | _ | q
    · exact (by decide : (0 : Int) ≤ 0 ∧ (0 : Int) ≤ 60)
    · exact (by decide : (0 : Int) ≤ 1 ∧ (1 : Int) ≤ 60)
    · exact (by decide : (0 : Int) ≤ 5 ∧ (5 : Int) ≤ 60)
    · exact (by decide : (0 : Int) ≤ 20 ∧ (20 : Int) ≤ 60)
    · exact (by decide : (0 : Int) ≤ 60 ∧ (60 : Int) ≤ 60)
    · exact (by omega : 0 ≤ a ∧ a ≤ 60)
    · omega
  subst hA
  have e : real.ar .sub .i64 v 9 = v - 9 := IntWalk.i64_in _ (by omega)
  refine ⟨rfl, .inl ⟨rfl, ht, ⟨h5, by show k ≤ 3; omega⟩, ?_, rfl⟩⟩
  show -9 ≤ real.ar .sub .i64 v 9 ∧ real.ar .sub .i64 v 9 ≤ 9
  rw [e]; omega
theorem stepKeep {A : Ar} (hA : real = A) {st size : Int} (hz : 1 ≤ size ∧ size ≤ 20) (h : A.bite (A.bite (A.cmp .lss st 1) true (A.cmp .lss (A.ar .mul .i64 4 st) size)) true (A.cmp .gtr st size) = false) : 1 ≤ st ∧ st ≤ size ∧ size ≤ 4 * st := by
  subst hA
  have h : (bif (bif decide (st < 1) then true else decide (IntKind.i64.wrap (4 * st) < size)) then true else decide (st > size)) = false := h
  by_cases h1 : st < 1
  · rw [decide_eq_true h1] at h; cases h
  · rw [decide_eq_false h1] at h
    by_cases h2 : IntKind.i64.wrap (4 * st) < size
    · rw [decide_eq_true h2] at h; cases h
    · rw [decide_eq_false h2] at h
      by_cases h3 : st > size
      · rw [decide_eq_true h3] at h; cases h
      · rw [IntWalk.i64_in _ (by omega)] at h2
        omega
theorem stepHalf {A : Ar} (hA : real = A) {d : Int} (h0 : 0 ≤ d) (h1 : d < 6) : 1 ≤ A.ar .quo .i64 (A.ar .add .i64 (A.sel [1, 3, 5, 8, 10, 20] (A.add 0 (A.nat d))) 1) 2 ∧ A.ar .quo .i64 (A.ar .add .i64 (A.sel [1, 3, 5, 8, 10, 20] (A.add 0 (A.nat d))) 1) 2 ≤ A.sel [1, 3, 5, 8, 10, 20] (A.add 0 (A.nat d)) ∧
    A.sel [1, 3, 5, 8, 10, 20] (A.add 0 (A.nat d)) ≤ 4 * A.ar .quo .i64 (A.ar .add .i64 (A.sel [1, 3, 5, 8, 10, 20] (A.add 0 (A.nat d))) 1) 2 := by
  refine selIx hA (P := fun z => 1 ≤ A.ar .quo .i64 (A.ar .add .i64 z 1) 2 ∧ A.ar .quo .i64 (A.ar .add .i64 z 1) 2 ≤ z ∧ z ≤ 4 * A.ar .quo .i64 (A.ar .add .i64 z 1) 2) (n := 6) h0 h1 fun q hq => ?_
  subst hA
  rcases q with _ | _ | _ | _ | _ | _ | q <;> first | (exact ⟨by decide, by decide, by decide⟩) | omega
theorem kindIs {A : Ar} (hA : real = A) {c : Int} {t : Bool} (h : A.cmp .eql (A.ar .add .i64 1 c) 2 = t) : (A.ar .add .i64 1 c = 2) ↔ t = true := by
  subst hA
  have h : (real.ar .add .i64 1 c == 2) = t := h
  rw [← h]
  simp
theorem jobMk {A : Ar} (hA : real = A) {a b c d e f h i : Int} {pc : Bool} {st : Int} (a0 : 0 ≤ a) (a1 : a < 3) (b0 : 0 ≤ b) (b1 : b < 2) (c0 : 0 ≤ c) (c1 : c < 3) (d0 : 0 ≤ d) (d1 : d < 6) (e0 : 0 ≤ e) (e1 : e < 5) (f0 : 0 ≤ f) (f1 : f < 4) (h0 : 0 ≤ h) (h1 : h < 5) (i0 : 0 ≤ i) (i1 : i < 4)
    (hs : (A.ar .add .i64 1 c = 2 ∧ 1 ≤ st ∧ st ≤ A.sel [1, 3, 5, 8, 10, 20] (A.add 0 (A.nat d)) ∧ A.sel [1, 3, 5, 8, 10, 20] (A.add 0 (A.nat d)) ≤ 4 * st) ∨ (A.ar .add .i64 1 c ≠ 2 ∧ st = 0)) :
    JobOkP ⟨A.ar .add .i64 1 a, A.ar .add .i64 1 b, A.ar .add .i64 1 c, A.sel [1, 3, 5, 8, 10, 20] (A.add 0 (A.nat d)), st, A.sel [0, 2, 5, 12, 20] (A.add 0 (A.nat e)), A.ar .add .i64 1 f, pc, A.sel [-9, -9, -9, 0, 5] (A.add 0 (A.nat h)), A.ar .add .i64 1 i⟩ := by
  have hd : 1 ≤ A.sel [1, 3, 5, 8, 10, 20] (A.add 0 (A.nat d)) ∧ A.sel [1, 3, 5, 8, 10, 20] (A.add 0 (A.nat d)) ≤ 20 := selIx hA (P := fun z => 1 ≤ z ∧ z ≤ 20) (n := 6) d0 d1 fun q hq => by
    rcases q with _ | _ | _ | _ | _ | _ | q <;> first | (exact ⟨by decide, by decide⟩) | omega
  have he : 0 ≤ A.sel [0, 2, 5, 12, 20] (A.add 0 (A.nat e)) ∧ A.sel [0, 2, 5, 12, 20] (A.add 0 (A.nat e)) ≤ 20 := selIx hA (P := fun z => 0 ≤ z ∧ z ≤ 20) (n := 5) e0 e1 fun q hq => by
    rcases q with _ | _ | _ | _ | _ | q <;> first | (exact ⟨by decide, by decide⟩) | omega
  have hh : -9 ≤ A.sel [-9, -9, -9, 0, 5] (A.add 0 (A.nat h)) ∧ A.sel [-9, -9, -9, 0, 5] (A.add 0 (A.nat h)) ≤ 9 := selIx hA (P := fun z => -9 ≤ z ∧ z ≤ 9) (n := 5) h0 h1 fun q hq => by
    rcases q with _ | _ | _ | _ | _ | q <;> first | (exact ⟨by decide, by decide⟩) | omega
  have hw : ∀ z : Int, 0 ≤ z ∧ z < 10 → A.ar .add .i64 1 z = 1 + z := fun z hz => by subst hA; exact IntWalk.i64_in _ (by omega)
  have wa := hw a (by omega)
  have wb := hw b (by omega)
  have wc := hw c (by omega)
  have wf := hw f (by omega)
  have wi := hw i (by omega)
  refine ⟨?_, ?_, ?_, hd, ?_, he, ?_, hh, ?_⟩
  · show 1 ≤ A.ar .add .i64 1 a ∧ A.ar .add .i64 1 a ≤ 3
    rw [wa]; omega
  · show 1 ≤ A.ar .add .i64 1 b ∧ A.ar .add .i64 1 b ≤ 2
    rw [wb]; omega
  · show 1 ≤ A.ar .add .i64 1 c ∧ A.ar .add .i64 1 c ≤ 3
    rw [wc]; omega
  · rcases hs with ⟨h1, h2, h3, h4⟩ | ⟨h1, h2⟩
    · exact .inl ⟨h1, ⟨h2, h3⟩, h4⟩
    · exact .inr ⟨h1, h2⟩
  · show 1 ≤ A.ar .add .i64 1 f ∧ A.ar .add .i64 1 f ≤ 4
    rw [wf]; omega
  · show 1 ≤ A.ar .add .i64 1 i ∧ A.ar .add .i64 1 i ≤ 4
    rw [wi]; omega
/-- A part of a log: a record, or a mark ahead of the end. -/
def LogE (x : ItmT) : Prop := RecP x ∨ ∃ t, (1 ≤ t ∧ t ≤ 60) ∧ x = ⟨2, t, 0, 0, 0⟩
def endE : ItmT := ⟨2, 1000, 0, 0, 0⟩
end Go.Rk
/- An operator behind records and marks, in plain words. -/
namespace Go.Rk
set_option linter.unusedSimpArgs false
set_option linter.unusedVariables false
def fedS (j : JobT) (a : Int × List RowT × List PaneT × List LatT) (x : ItmT) : Int × List RowT × List PaneT × List LatT :=
  if x.kind = 2 then ((markL j a.1 a.2.1 x.t).1, (markL j a.1 a.2.1 x.t).2.1, a.2.2.1 ++ (markL j a.1 a.2.1 x.t).2.2, a.2.2.2)
  else (a.1, (takeL j a.1 x (winsL j x.t) a.2.1).1, a.2.2.1 ++ (takeL j a.1 x (winsL j x.t) a.2.1).2.1, a.2.2.2 ++ (takeL j a.1 x (winsL j x.t) a.2.1).2.2)
def fedL (j : JobT) (l : List ItmT) : Int × List RowT × List PaneT × List LatT := l.foldl (fedS j) (0, [], [], [])
def LogX (x : ItmT) : Prop := LogE x ∨ x = endE
theorem fedL_snoc (j : JobT) (l : List ItmT) (x : ItmT) : fedL j (l ++ [x]) = fedS j (fedL j l) x := by unfold fedL; rw [List.foldl_append]; rfl
/-- All is as it must be. -/
structure FI (j : JobT) (B : Int) (a : Int × List RowT × List PaneT × List LatT) : Prop where
  ok : OkL j a.1 a.2.1
  mrk : 0 ≤ a.1 ∧ a.1 ≤ 1000
  bd : Bd B a.2.1
theorem fi_st {j : JobT} {B : Int} {a : Int × List RowT × List PaneT × List LatT} (hj : JobOkP j) (h : FI j B a) (hB : 0 ≤ B ∧ B ≤ 300) : (a.2.1.length : Int) ≤ B ∧ ∀ (n : Nat) (G : Nat → RowT) (hL : Lst zRow a.2.1 n G) (hn : n ≤ maxLen), OpOkP j ⟨a.1, ⟨n, G, hn⟩⟩ ∧ rowsL ⟨a.1, ⟨n, G, hn⟩⟩ = a.2.1 := by
  have hl := Int.le_trans (sumN_rows h.ok.1) h.bd.1
  exact ⟨hl, fun n G hL hn => ⟨ok_of hL hn hj h.mrk (by have := hL.1; omega) h.ok, rowsL_lst hL hn⟩⟩
theorem fi_ex {j : JobT} {B : Int} {a : Int × List RowT × List PaneT × List LatT} (hj : JobOkP j) (h : FI j B a) (hB : 0 ≤ B ∧ B ≤ 300) : ∃ s : OpStT, s.mark = a.1 ∧ rowsL s = a.2.1 ∧ OpOkP j s ∧ (s.rows.n : Int) ≤ B := by
  obtain ⟨h1, h2⟩ := fi_st hj h hB
  obtain ⟨n, G, hG⟩ := lst_ex zRow a.2.1
  have hn : n ≤ maxLen := Nat.le_trans (show n ≤ 300 by have := hG.1; omega) (by decide)
  obtain ⟨h3, h4⟩ := h2 n G hG hn
  exact ⟨⟨a.1, ⟨n, G, hn⟩⟩, rfl, h4, h3, by show (n : Int) ≤ B; have := hG.1; omega⟩
theorem logX_kind {x : ItmT} (h : LogX x) : (x.kind = 2 ∧ 0 ≤ x.t ∧ x.t ≤ 1000) ∨ (x.kind ≠ 2 ∧ RecP x) := by
  rcases h with (h | ⟨t, ht, rfl⟩) | rfl
  · refine .inr ⟨?_, h⟩
    rw [h.1]; decide
  · exact .inl ⟨rfl, by show 0 ≤ t; omega, by show t ≤ 1000; omega⟩
  · exact .inl ⟨rfl, by decide, by decide⟩
theorem take_same_L {j : JobT} {s : OpStT} {x : ItmT} (hok : OpOkP j s) (hx : RecP x) (h280 : s.rows.n ≤ 280) : opTakeL j s x = (s.mark, takeL j s.mark x (winsL j x.t) (rowsL s)) := by
  unfold opTakeL; rw [if_pos ⟨hok, hx, h280⟩]
theorem fi_step {j : JobT} {B : Int} {a : Int × List RowT × List PaneT × List LatT} {x : ItmT} (hj : JobOkP j) (h : FI j B a) (hB : 0 ≤ B ∧ B ≤ 260) (hx : LogX x) : FI j (B + 4) (fedS j a x) := by
  obtain ⟨s, s1, s2, s3, s4⟩ := fi_ex hj h (by omega)
  unfold fedS
  rcases logX_kind hx with ⟨hk, ht⟩ | ⟨hk, hr⟩
  · rw [if_pos hk]
    have e := opMarkL_L s3 (m := x.t) ht
    rw [s1, s2] at e
    have hol := okL_of s3
    have hm := mark_ok (T := 1500) s3 ht (by decide) fun r hr => (hol.1 r hr).2.2.2.2.2.2.1.2
    have hb := bd_mark (j := j) (s := s) (m := x.t) (B := B) (by rw [s2]; exact h.bd) hB.1
    rw [e] at hm hb
    have h0 := h.mrk
    rw [s1] at hm
    exact ⟨hm.2.2.1, by show 0 ≤ (markL j a.1 a.2.1 x.t).1 ∧ (markL j a.1 a.2.1 x.t).1 ≤ 1000; omega, hb⟩
  · rw [if_neg hk]
    have e := take_same_L s3 hr (by omega)
    rw [s1, s2] at e
    have hm := take_ok (T := B) s3 hr (by omega) (by rw [s2]; have := h.bd.1; omega) (by omega) fun r hr => (h.bd.2 r (by rw [← s2]; exact hr)).2
    have hb := bd_take (j := j) (s := s) (x := x) (B := B) (by rw [s2]; exact h.bd) (by omega)
    rw [e] at hm hb
    rw [s1] at hm
    exact ⟨hm.1, h.mrk, hb⟩
theorem fi_zero (j : JobT) : FI j 0 (0, [], [], []) := ⟨⟨fun r hr => absurd hr (by simp), List.Pairwise.nil, fun _ => List.Pairwise.nil⟩, ⟨Int.le_refl _, by decide⟩, bd_nil (Int.le_refl _)⟩
theorem fi_fed {j : JobT} (hj : JobOkP j) : ∀ (l : List ItmT), (∀ x, x ∈ l → LogX x) → l.length ≤ 60 → FI j (4 * (l.length : Int)) (fedL j l) := by
  refine snocInd (fun _ _ => fi_zero j) fun l x ih h hl => ?_
  rw [List.length_append] at hl
  have hl : l.length + 1 ≤ 60 := hl
  have h1 := ih (fun y hy => h y (List.mem_append_left _ hy)) (by omega)
  rw [fedL_snoc]
  have h2 := fi_step hj h1 (by omega) (h x (by simp))
  have e : 4 * ((l ++ [x]).length : Int) = 4 * (l.length : Int) + 4 := by
    rw [List.length_append]
    show 4 * ((l.length + 1 : Nat) : Int) = _
    omega
  rw [e]; exact h2
/-- How much is told. -/
theorem fed_len {j : JobT} (hj : JobOkP j) : ∀ (l : List ItmT), (∀ x, x ∈ l → LogX x) → l.length ≤ 60 → (fedL j l).2.2.1.length ≤ 1300 * l.length ∧ (fedL j l).2.2.2.length ≤ 4 * l.length := by
  refine snocInd (fun _ _ => ⟨Nat.le_refl _, Nat.le_refl _⟩) fun l x ih h hl => ?_
  rw [List.length_append] at hl ⊢
  have hl : l.length + 1 ≤ 60 := hl
  have hxs := fun y hy => h y (List.mem_append_left [x] hy)
  obtain ⟨i1, i2⟩ := ih hxs (by omega)
  have hf := fi_fed hj l hxs (by omega)
  have hlen := (fi_st hj hf (by omega)).1
  rw [fedL_snoc]
  show _ ≤ 1300 * (l.length + 1) ∧ _ ≤ 4 * (l.length + 1)
  unfold fedS
  rcases logX_kind (h x (by simp)) with ⟨hk, ht⟩ | ⟨hk, hr⟩
  · rw [if_pos hk]
    refine ⟨?_, by show (fedL j l).2.2.2.length ≤ _; omega⟩
    show ((fedL j l).2.2.1 ++ (markL j (fedL j l).1 (fedL j l).2.1 x.t).2.2).length ≤ _
    rw [List.length_append]
    have : (markL j (fedL j l).1 (fedL j l).2.1 x.t).2.2.length ≤ (fedL j l).2.1.length := by
      unfold markL
      split
      · exact Nat.zero_le _
      · unfold tellL
        rw [List.length_map]
        exact List.length_filter_le _ _
    omega
  · rw [if_neg hk]
    obtain ⟨t1, t2, t3⟩ := takeL_len (j := j) (m := (fedL j l).1) (x := x) (l := (fedL j l).2.1) (winsL j x.t)
    have hw := winsL_len4 hj (recP_t hr)
    refine ⟨?_, ?_⟩
    · show ((fedL j l).2.2.1 ++ (takeL j (fedL j l).1 x (winsL j x.t) (fedL j l).2.1).2.1).length ≤ _
      rw [List.length_append]
      have h9 : (winsL j x.t).length * ((fedL j l).2.1.length + (winsL j x.t).length + 1) ≤ 4 * 300 := Nat.mul_le_mul hw (by omega)
      omega
    · show ((fedL j l).2.2.2 ++ (takeL j (fedL j l).1 x (winsL j x.t) (fedL j l).2.1).2.2).length ≤ _
      rw [List.length_append]
      omega
end Go.Rk
/- An operator behind records and marks: fed. -/
namespace Go.Rk
set_option linter.unusedSimpArgs false
set_option linter.unusedVariables false
open Go.Proofs
set_option maxRecDepth 100000
set_option maxHeartbeats 1000000
def st_fd (j : JobT) (n : Nat) (g : Nat → ItmT) (i : Nat) (mk : Int) (k : Nat) (G : Nat → RowT) (c : Nat) (P : Nat → PaneT) (d : Nat) (Q : Nat → LatT) : St := ⟨[(10, .c (.d (eI i))), (9, .c (.own 1152 0 d 1)), (8, .c (.own 1088 0 c 1)), (7, .c (.bp 448 1 0)), (4, .c (.bp 256 1 0)), (2, .c (.bp 128 1 0)), (1, .c (.d (.sl 5 n fun i => eItm (g i))))], [(1152, 1, .arr 7 d fun q => eLat (Q q)), (1088, 1, .arr 9 c fun q => ePane (P q)), (448, 1, .box [.d (eI mk), .d (.sl 13 k fun q => eRow (G q))]), (256, 1, .box [.d (eI 0), .d (.v nilS)]), (128, 1, .box ((eJob j).map .d))]⟩
theorem x_frFed (j : JobT) (n : Nat) (g : Nat → ItmT) (hn : n ≤ 28) (hj : JobOkP j) (l : List ItmT) (hl : Lst endE l n g) (hg : ∀ x, x ∈ l → LogX x) : ∃ y : (Nat × (Nat → RowT)) × (Nat × (Nat → PaneT)) × Nat × (Nat → LatT), (Lst zRow (fedL j l).2.1 y.1.1 y.1.2 ∧ Lst zPan (fedL j l).2.2.1 y.2.1.1 y.2.1.2 ∧ Lst zLat (fedL j l).2.2.2 y.2.2.1 y.2.2.2) ∧
    Meets Try.prog 16 [xd (eJob j), .c (.d (.sl 5 n fun i => eItm (g i)))] ⟨.tup [.agg [.d (eI (fedL j l).1), .d (.sl 13 y.1.1 fun i => eRow (y.1.2 i))], .c (.own 9 y.2.1.1 fun i => ePane (y.2.1.2 i)), .c (.own 7 y.2.2.1 fun i => eLat (y.2.2.2 i))], [none, none]⟩ := by
  have hnM : n ≤ maxLen := Nat.le_trans hn (by decide)
  have hll : l.length = n := hl.1.symm
  obtain ⟨F, hF⟩ : ∃ F, F = fedL j l := ⟨_, rfl⟩
  rw [← hF]
  refine meets_ex (H := []) (EX := EXD) ttok mixed ([none, none]) Try.func16 rfl (by kernel_rfl) (by decide) (fun _ => rfl) ?_
  generalize hA : real = A
  generalize hM : MeetsB Try.prog = M
  cbv
  repeat' first
    | apply And.intro
    | exact True.intro
    | with_reducible rfl
    | exact same_of hA rfl
    | refine br_of hA (fun _ => ?_) (fun _ => ?_)
    | exact imp_of hA id
    | (refine imp_of hA ?_; subst hA; simp only [real, Bool.true_and]; exact id)
    | (refine ind_of hA ?_; decide +kernel)
    | fail
  refine loop_of hA (α := { y : Nat × (Int × List RowT × List PaneT × List LatT) × (Nat × (Nat → RowT)) × (Nat × (Nat → PaneT)) × Nat × (Nat → LatT) // y.1 ≤ n ∧ y.2.1 = fedL j (l.take y.1) ∧ Lst zRow y.2.1.2.1 y.2.2.1.1 y.2.2.1.2 ∧ Lst zPan y.2.1.2.2.1 y.2.2.2.1.1 y.2.2.2.1.2 ∧ Lst zLat y.2.1.2.2.2 y.2.2.2.2.1 y.2.2.2.2.2 })
    (fun y => st_fd j n g y.1.1 y.1.2.1.1 y.1.2.2.1.1 y.1.2.2.1.2 y.1.2.2.2.1.1 y.1.2.2.2.1.2 y.1.2.2.2.2.1 y.1.2.2.2.2.2) (fun y => n - y.1.1) ⟨(0, (0, [], [], []), (0, fun _ => zRow), (0, fun _ => zPan), 0, fun _ => zLat), Nat.zero_le _, rfl, ⟨rfl, fun k hk => absurd hk (Nat.not_lt_zero k)⟩, ⟨rfl, fun k hk => absurd hk (Nat.not_lt_zero k)⟩, ⟨rfl, fun k hk => absurd hk (Nat.not_lt_zero k)⟩⟩ ?_ ?_
  · refine cov_nB 448 13 (fun q => eRow zRow) [.d (eI 0)] [] rfl (cov_of ?_ ?_ ?_)
    · subst hA <;> (repeat' first | exact True.intro | exact rfl | apply And.intro)
    · subst hA; (repeat' first | exact True.intro | exact rfl | apply And.intro | (intro k hk; exact absurd hk (Nat.not_lt_zero k)))
    · subst hA; (repeat' first | exact True.intro | exact rfl | apply And.intro | exact .inl rfl | exact .inr (le_of_nble rfl))
  rintro ⟨⟨i, a, ⟨k, G⟩, ⟨c, P⟩, d, Q⟩, hi, ha, hG, hP, hQ⟩
  have hi : i ≤ n := hi
  have ha : a = fedL j (l.take i) := ha
  have hG : Lst zRow a.2.1 k G := hG
  have hP : Lst zPan a.2.2.1 c P := hP
  have hQ : Lst zLat a.2.2.2 d Q := hQ
  have hti : (l.take i).length = i := by rw [List.length_take]; omega
  have htx : ∀ x, x ∈ l.take i → LogX x := fun x hx => hg x (List.mem_of_mem_take hx)
  have hfi := fi_fed hj (l.take i) htx (by omega)
  have hfl := fed_len hj (l.take i) htx (by omega)
  rw [← ha, hti] at hfi hfl
  obtain ⟨hrl, hst⟩ := fi_st hj hfi (by omega)
  have hk : k ≤ 300 := by have := hG.1; omega
  have hkL : k ≤ maxLen := Nat.le_trans hk (by decide)
  have hc : c ≤ 40000 := by have := hP.1; omega
  have hd : d ≤ 200 := by have := hQ.1; omega
  obtain ⟨hok, hro⟩ := hst k G hG hkL
  have hnext : i < n → fedL j (l.take (i + 1)) = fedS j a (g i) := fun h => by rw [lst_take hl h, fedL_snoc, ← ha]
  -- a mark
  obtain ⟨xm, hxm⟩ : ∃ xm, xm = opMarkL j ⟨a.1, ⟨k, G, hkL⟩⟩ (g i).t := ⟨_, rfl⟩
  have hxl := opMarkL_len j ⟨a.1, ⟨k, G, hkL⟩⟩ (g i).t
  rw [← hxm] at hxl
  have hxl : xm.2.1.length ≤ k ∧ xm.2.2.length ≤ k := hxl
  obtain ⟨km, Gm, hGm⟩ := lst_ex zRow xm.2.1
  obtain ⟨cm, Pm, hPm⟩ := lst_ex zPan xm.2.2
  have hcm : cm ≤ 300 := by have := hPm.1; omega
  have hIm : Meets Try.prog 22 [xd (eJob j), .agg [.d (eI a.1), .d (.sl 13 k fun i => eRow (G i))], .c (.d (eI (g i).t))] ⟨.tup [.agg [.d (eI xm.1), .d (.sl 13 km fun i => eRow (Gm i))], .c (.d (.sl 9 cm fun i => ePane (Pm i)))], [none, none, none]⟩ := meets_frz (c_OpMark j ⟨a.1, ⟨k, G, hkL⟩⟩ (show k ≤ 1080000 by omega) (g i).t xm hxm km Gm hGm cm Pm hPm) rfl
  -- a record
  obtain ⟨xt, hxt⟩ : ∃ xt, xt = opTakeL j ⟨a.1, ⟨k, G, hkL⟩⟩ (g i) := ⟨_, rfl⟩
  have hyl := opTakeL_len j ⟨a.1, ⟨k, G, hkL⟩⟩ (g i)
  rw [← hxt] at hyl
  obtain ⟨kt, Gt, hGt⟩ := lst_ex zRow xt.2.1
  obtain ⟨ct, Pt, hPt⟩ := lst_ex zPan xt.2.2.1
  obtain ⟨dt, Qt, hQt⟩ := lst_ex zLat xt.2.2.2
  have hct : ct ≤ 40000 := by have := hPt.1; omega
  have hdt : dt ≤ 100 := by have := hQt.1; omega
  have hIt : Meets Try.prog 48 [xd (eJob j), .agg [.d (eI a.1), .d (.sl 13 k fun i => eRow (G i))], xd (eItm (g i))] ⟨.tup [.agg [.d (eI xt.1), .d (.sl 13 kt fun i => eRow (Gt i))], .c (.d (.sl 9 ct fun i => ePane (Pt i))), .c (.d (.sl 7 dt fun i => eLat (Qt i)))], [none, none, none]⟩ := meets_frz (c_OpTake j ⟨a.1, ⟨k, G, hkL⟩⟩ (show k ≤ 1080000 by omega) (g i) xt hxt kt Gt hGt ct Pt hPt dt Qt hQt) rfl
  have hkm : i < n → (g i).kind = 2 → fedS j a (g i) = (xm.1, xm.2.1, a.2.2.1 ++ xm.2.2, a.2.2.2) := fun h1 h2 => by
    unfold fedS
    rw [if_pos h2]
    rcases logX_kind (hg (g i) (lst_in hl h1)) with ⟨_, ht⟩ | ⟨hb, _⟩
    · rw [opMarkL_L hok ht, hro] at hxm
      have hxm : xm = markL j a.1 a.2.1 (g i).t := hxm
      rw [hxm]
    · exact absurd h2 hb
  have hkt : i < n → (g i).kind ≠ 2 → fedS j a (g i) = (xt.1, xt.2.1, a.2.2.1 ++ xt.2.2.1, a.2.2.2 ++ xt.2.2.2) := fun h1 h2 => by
    unfold fedS
    rw [if_neg h2]
    rcases logX_kind (hg (g i) (lst_in hl h1)) with ⟨hb, _⟩ | ⟨_, hr⟩
    · exact absurd hb h2
    · rw [take_same_L hok hr (show k ≤ 280 by have := hG.1; omega), hro] at hxt
      have hxt : xt = (a.1, takeL j a.1 (g i) (winsL j (g i).t) a.2.1) := hxt
      rw [hxt]
  cbv
  repeat' first
    | apply And.intro
    | exact True.intro
    | with_reducible rfl
    | exact same_of hA rfl
    | refine br_of hA (fun _ => ?_) (fun _ => ?_)
    | exact imp_of hA id
    | (refine imp_of hA ?_; subst hA; simp only [real, Bool.true_and]; exact id)
    | (refine ind_of hA ?_; decide +kernel)
    | (refine call_of2 hA hM _ hIm (by (subst hA; first | rfl | (simp only [sub0r]; try rfl))) ?_; cbv)
    | (refine call_of2 hA hM _ hIt (by (subst hA; first | rfl | (simp only [sub0r]; try rfl))) ?_; cbv)
    | (refine inb_lt hA ?_; first | exact lt2_of hA (by assumption) | exact lt_of hA (by assumption))
    | exact room_add2 hA (by omega) (by decide)
    | fail
  · rename_i hlt hk2
    have hlt' : i < n := by first | exact lt2_of hA hlt | exact lt_of hA hlt
    have hk2 : (g i).kind = 2 := by subst hA; exact of_decide_eq_true (show decide ((g i).kind = 2) = true from hk2)
    have hs := hkm hlt' hk2
    refine ⟨⟨(i + 1, fedS j a (g i), (km, Gm), (c + cm, fun q => if q < c then P q else Pm (q - c)), d, Q), hlt', (hnext hlt').symm, by rw [hs]; exact hGm, by rw [hs]; exact lst_app hP hPm, by rw [hs]; exact hQ⟩, by simp only; omega, ?_⟩
    have hs1 : (fedS j a (g i)).1 = xm.1 := by rw [hs]
    refine Eq.mpr (congrArg (fun z => Cov _ _ (st_fd j n g (i + 1) z km Gm (c + cm) (fun q => if q < c then P q else Pm (q - c)) d Q)) hs1) ?_
    refine cov_of ?_ ?_ ?_
    · subst hA; (repeat' first | exact True.intro | exact rfl | exact congrArg (fun x => DV.v (.int .i64 x)) (up64 hlt' hnM) | apply And.intro)
    · subst hA
      (repeat' first | exact True.intro | exact rfl | apply And.intro | (intro _ _; first | rfl | trivial))
      all_goals
        intro q _
        first | exact app_if2 ePane q | exact app_if2 eLat q
    · subst hA; (repeat' first | exact True.intro | exact rfl | apply And.intro | exact .inl rfl | exact .inr (le_of_nble rfl))
  · rename_i hlt hk2
    have hlt' : i < n := by first | exact lt2_of hA hlt | exact lt_of hA hlt
    have hk2 : (g i).kind ≠ 2 := by subst hA; exact of_decide_eq_false (show decide ((g i).kind = 2) = false from hk2)
    have hs := hkt hlt' hk2
    refine ⟨⟨(i + 1, fedS j a (g i), (kt, Gt), (c + ct, fun q => if q < c then P q else Pt (q - c)), d + dt, fun q => if q < d then Q q else Qt (q - d)), hlt', (hnext hlt').symm, by rw [hs]; exact hGt, by rw [hs]; exact lst_app hP hPt, by rw [hs]; exact lst_app hQ hQt⟩, by simp only; omega, ?_⟩
    have hs1 : (fedS j a (g i)).1 = xt.1 := by rw [hs]
    refine Eq.mpr (congrArg (fun z => Cov _ _ (st_fd j n g (i + 1) z kt Gt (c + ct) (fun q => if q < c then P q else Pt (q - c)) (d + dt) (fun q => if q < d then Q q else Qt (q - d)))) hs1) ?_
    refine cov_of ?_ ?_ ?_
    · subst hA; (repeat' first | exact True.intro | exact rfl | exact congrArg (fun x => DV.v (.int .i64 x)) (up64 hlt' hnM) | apply And.intro)
    · subst hA
      (repeat' first | exact True.intro | exact rfl | apply And.intro | (intro _ _; first | rfl | trivial))
      all_goals
        intro q _
        first | exact app_if2 ePane q | exact app_if2 eLat q
    · subst hA; (repeat' first | exact True.intro | exact rfl | apply And.intro | exact .inl rfl | exact .inr (le_of_nble rfl))
  · rename_i hge
    have hni : n ≤ i := by first | exact ge2_of hA hge | exact ge_of hA hge
    have hin : i = n := Nat.le_antisymm hi hni
    have haF : a = F := by rw [ha, hF, hin, lst_all hl]
    subst haF
    refine fin_of hA ⟨⟨(k, G), (c, P), d, Q⟩, ⟨hG, hP, hQ⟩, rfl, rfl⟩
end Go.Rk
/- Draws of kind: rec. -/
namespace Go.Rk
set_option linter.unusedSimpArgs false
set_option linter.unusedVariables false
open Go.Proofs
set_option maxRecDepth 100000
set_option maxHeartbeats 1000000
theorem x2_rec (m : Nat) (hm : m ≤ 2000) (b : Nat → Int) (hb : ∀ i, 0 ≤ b i ∧ b i ≤ 255) (p : Int) (hp : 0 ≤ p ∧ p ≤ 200000)  : ∃ y : ItmT × Int, (p ≤ y.2 ∧ y.2 ≤ p + 4 ∧ RecP y.1) ∧ Meets Try.prog 102 [.c (.box [.d (.sl 1 m fun i => [eU (b i)]), .d (eI p)])] ⟨.one (xd (eItm y.1)), [some (.box [.d (.sl 1 m fun i => [eU (b i)]), .d (eI y.2)])]⟩ := by
  refine meets_ex (H := []) (EX := EXD) ttok mixed ([some (.box [.d (.sl 1 m fun i => [eU (b i)]), .d (eI 0)])]) Try.func102 rfl (by kernel_rfl) (by decide) (fun _ => rfl) ?_
  generalize hA : real = A
  generalize hM : MeetsB Try.prog = M
  cbv
  repeat' first
    | apply And.intro
    | exact True.intro
    | with_reducible rfl
    | exact same_of hA rfl
    | refine br_of hA (fun _ => ?_) (fun _ => ?_)
    | exact imp_of hA id
    | (refine imp_of hA ?_; subst hA; simp only [real, Bool.true_and]; exact id)
    | (refine ind_of hA ?_; decide +kernel)
    | (refine call_ex hA hM (x_pick m hm b hb _ (by omega) _ (by omega)) ?_; rintro ⟨x, q⟩ ⟨hx0, hx1, hq⟩; dsimp only at hx0 hx1 hq; cbv)
    | (refine inb_of hA (fun _ => ?_); (first | omega | (constructor <;> omega)))
    | (refine fin_of hA ⟨⟨⟨_, _, _, _, _⟩, _⟩, ?_, rfl, rfl⟩; refine ⟨by simp only; omega, by simp only; omega, ?_⟩; refine recMk hA ?_ ?_ ?_ ?_ ?_ ?_ ?_ ?_ <;> assumption)
    | fail
theorem x2_job (m : Nat) (hm : m ≤ 2000) (b : Nat → Int) (hb : ∀ i, 0 ≤ b i ∧ b i ≤ 255) (p : Int) (hp : 0 ≤ p ∧ p ≤ 150000)  : ∃ y : JobT × Int, (p ≤ y.2 ∧ y.2 ≤ p + 20 ∧ JobOkP y.1) ∧ Meets Try.prog 54 [.c (.box [.d (.sl 1 m fun i => [eU (b i)]), .d (eI p)])] ⟨.one (xd (eJob y.1)), [some (.box [.d (.sl 1 m fun i => [eU (b i)]), .d (eI y.2)])]⟩ := by
  refine meets_ex (H := []) (EX := EXD) ttok mixed ([some (.box [.d (.sl 1 m fun i => [eU (b i)]), .d (eI 0)])]) Try.func54 rfl (by kernel_rfl) (by decide) (fun _ => rfl) ?_
  generalize hA : real = A
  generalize hM : MeetsB Try.prog = M
  cbv
  repeat' first
    | apply And.intro
    | exact True.intro
    | with_reducible rfl
    | exact same_of hA rfl
    | refine br_of hA (fun _ => ?_) (fun _ => ?_)
    | exact imp_of hA id
    | (refine imp_of hA ?_; subst hA; simp only [real, Bool.true_and]; exact id)
    | (refine ind_of hA ?_; decide +kernel)
    | (refine call_ex hA hM (x_pick m hm b hb _ (by omega) _ (by omega)) ?_; rintro ⟨x, q⟩ ⟨hx0, hx1, hq⟩; dsimp only at hx0 hx1 hq; cbv)
    | (refine inb_of hA (fun _ => ?_); (first | omega | (constructor <;> omega)))
    | (refine nz_of hA ?_; first | (show (2 : Int) ≠ 0; decide) | (subst hA; show IntKind.i64.wrap (1 + x) ≠ 0; rw [IntWalk.i64_in _ (by omega)]; omega))
    | (refine fin_of hA ⟨⟨⟨_, _, _, _, _, _, _, _, _, _⟩, _⟩, ?_, rfl, rfl⟩; refine ⟨by simp only; omega, by simp only; omega, ?_⟩; refine jobMk hA ?_ ?_ ?_ ?_ ?_ ?_ ?_ ?_ ?_ ?_ ?_ ?_ ?_ ?_ ?_ ?_ ?_; rotate_left 16; (focus (first | exact .inr ⟨fun e => (by have e2 := (kindIs hA (by assumption)).1 e; cases e2), rfl⟩ | exact .inl ⟨(kindIs hA (by assumption)).2 rfl, stepKeep hA (selIx hA (P := fun z => 1 ≤ z ∧ z ≤ 20) (n := 6) (by assumption) (by assumption) (by decide)) (by assumption)⟩ | exact .inl ⟨(kindIs hA (by assumption)).2 rfl, stepHalf hA (by assumption) (by assumption)⟩)); all_goals assumption)
    | fail
end Go.Rk
/- Draws of kind: log. -/
namespace Go.Rk
set_option linter.unusedSimpArgs false
set_option linter.unusedVariables false
open Go.Proofs
set_option maxRecDepth 100000
set_option maxHeartbeats 1000000
def st_lg (m : Nat) (b : Nat → Int) (n : Nat) (bh : Int) (k : Nat) (q t mk : Int) (c : Nat) (G : Nat → ItmT) : St := ⟨[(9, .c (.d (eI k))), (8, .c (.d (eI bh))), (7, .c (.d (eI mk))), (6, .c (.d (eI t))), (5, .c (.own 768 0 c 1)), (1, .c (.d (eI n))), (0, .c (.bp 0 1 0))], [(768, 1, .arr 5 c fun i => eItm (G i)), (0, 1, .box [.d (.sl 1 m fun i => [eU (b i)]), .d (eI q)])]⟩
theorem logE_snoc {c : Nat} {G : Nat → ItmT} {x : ItmT} (h : ∀ i, i < c → LogE (G i)) (hx : LogE x) : ∀ i, i < c + 1 → LogE (if i < c then G i else x) := fun i hi => by
  by_cases e : i < c
  · rw [if_pos e]; exact h i e
  · rw [if_neg e]; exact hx
theorem logE_rec {it : ItmT} {t key : Int} (h : RecP it) (ht : 0 ≤ t ∧ t ≤ 60) (hk : 0 ≤ key ∧ key < 3) : LogE ⟨it.kind, t, key, it.v, it.n⟩ := by
  refine .inl ⟨h.1, ?_⟩
  have h2 := h.2
  have h1 := h.1
  unfold ItmOkP at h2
  refine .inl ⟨h1, ht, ⟨hk.1, by show key ≤ 3; omega⟩, by show -9 ≤ it.v ∧ it.v ≤ 9; omega, by show it.n = 0; omega⟩
theorem x_log (m : Nat) (hm : m ≤ 2000) (b : Nat → Int) (hb : ∀ i, 0 ≤ b i ∧ b i ≤ 255) (p : Int) (hp : 0 ≤ p ∧ p ≤ 100000) (n : Nat) (hn : n ≤ 27) : ∃ y : (Nat × (Nat → ItmT)) × Int, (p ≤ y.2 ∧ y.2 ≤ p + 400 ∧ (1 ≤ y.1.1 ∧ y.1.1 ≤ 28) ∧ (∀ i, i + 1 < y.1.1 → LogE (y.1.2 i)) ∧ y.1.2 (y.1.1 - 1) = endE) ∧ Meets Try.prog 55 [.c (.box [.d (.sl 1 m fun i => [eU (b i)]), .d (eI p)]), .c (.d (eI n))] ⟨.one (.c (.own 5 y.1.1 fun i => eItm (y.1.2 i))), [some (.box [.d (.sl 1 m fun i => [eU (b i)]), .d (eI y.2)]), none]⟩ := by
  refine meets_ex (H := []) (EX := EXD) ttok mixed ([some (.box [.d (.sl 1 m fun i => [eU (b i)]), .d (eI 0)]), none]) Try.func55 rfl (by kernel_rfl) (by decide) (fun _ => rfl) ?_
  generalize hA : real = A
  generalize hM : MeetsB Try.prog = M
  cbv
  repeat' first
    | apply And.intro
    | exact True.intro
    | with_reducible rfl
    | exact same_of hA rfl
    | refine br_of hA (fun _ => ?_) (fun _ => ?_)
    | exact imp_of hA id
    | (refine imp_of hA ?_; subst hA; simp only [real, Bool.true_and]; exact id)
    | (refine ind_of hA ?_; decide +kernel)
    | (refine call_ex hA hM (x_pick m hm b hb _ (by omega) 5 (by omega)) ?_; rintro ⟨x5, q5⟩ ⟨hx5a, hx5b, hq5⟩; dsimp only at hx5a hx5b hq5; cbv)
    | (refine call_ex hA hM (x_pick m hm b hb _ (by omega) 6 (by omega)) ?_; rintro ⟨x6, q6⟩ ⟨hx6a, hx6b, hq6⟩; dsimp only at hx6a hx6b hq6; cbv)
    | (refine inb_of hA (fun _ => ?_); (first | omega | (constructor <;> omega)))
    | fail
  refine loop_of hA (α := { y : Nat × Int × Int × Int × Nat × (Nat → ItmT) // y.1 ≤ n ∧ p ≤ y.2.1 ∧ y.2.1 ≤ p + 20 + 10 * (y.1 : Int) ∧ 0 ≤ y.2.2.2.1 ∧ y.2.2.2.2.1 ≤ y.1 ∧ ∀ i, i < y.2.2.2.2.1 → LogE (y.2.2.2.2.2 i) }) (fun y => st_lg m b n (real.sel [0, 0, 1, 3, 7, 12] (real.add 0 (real.nat x6))) y.1.1 y.1.2.1 y.1.2.2.1 y.1.2.2.2.1 y.1.2.2.2.2.1 y.1.2.2.2.2.2) (fun y => n - y.1.1) ⟨(0, q6, x5, 0, 0, fun _ => endE), Nat.zero_le _, by (show p ≤ q6); omega, by (show q6 ≤ p + 20 + 10 * 0); omega, Int.le_refl _, Nat.le_refl _, fun i hi => absurd hi (Nat.not_lt_zero i)⟩ ?_ ?_
  · refine cov_of ?_ ?_ ?_
    · subst hA; (repeat' first | exact True.intro | exact rfl | apply And.intro)
    · subst hA; (repeat' first | exact True.intro | exact rfl | apply And.intro | (intro k hk; exact absurd hk (Nat.not_lt_zero k)))
    · subst hA; (repeat' first | exact True.intro | exact rfl | apply And.intro | exact .inl rfl | exact .inr (le_of_nble rfl))
  generalize real.sel [0, 0, 1, 3, 7, 12] (real.add 0 (real.nat x6)) = bh
  rintro ⟨⟨k, q, t, mk, c, G⟩, hk, hp0, hp1, hmk, hck, hG⟩
  have hk : k ≤ n := hk
  have hp0 : p ≤ q := hp0
  have hp1 : q ≤ p + 20 + 10 * (k : Int) := hp1
  have hpb : q ≤ p + 290 := by omega
  have hpn : q + 9 ≤ p + 20 + 10 * ((k + 1 : Nat) : Int) := by omega
  have hmk : 0 ≤ mk := hmk
  have hck : c ≤ k := hck
  have hG : ∀ i, i < c → LogE (G i) := hG
  have hnM : n ≤ maxLen := Nat.le_trans hn (by decide)
  clear hq5 hq6 hx5a hx5b hx6a hx6b
  cbv
  repeat' first
    | apply And.intro
    | exact True.intro
    | with_reducible rfl
    | exact same_of hA rfl
    | refine br_of hA (fun _ => ?_) (fun _ => ?_)
    | exact imp_of hA id
    | (refine imp_of hA ?_; subst hA; simp only [real, Bool.true_and]; exact id)
    | (refine ind_of hA ?_; decide +kernel)
    | (refine call_ex hA hM (x_pick m hm b hb _ (by omega) 6 (by omega)) ?_; rintro ⟨x6, q6⟩ ⟨hx6a, hx6b, hq6⟩; dsimp only at hx6a hx6b hq6; cbv)
    | (refine call_ex hA hM (x_pick m hm b hb _ (by omega) 4 (by omega)) ?_; rintro ⟨x4, q4⟩ ⟨hx4a, hx4b, hq4⟩; dsimp only at hx4a hx4b hq4; cbv)
    | (refine call_ex hA hM (x2_rec m hm b hb _ (by omega)) ?_; rintro ⟨it, qr⟩ ⟨hr0, hr1, hrec⟩; dsimp only at hr0 hr1 hrec; cbv)
    | (refine call_ex hA hM (x_pick m hm b hb _ (by omega) 20 (by omega)) ?_; rintro ⟨x20, q20⟩ ⟨hx20a, hx20b, hq20⟩; dsimp only at hx20a hx20b hq20; cbv)
    | (refine call_ex hA hM (x_pick m hm b hb _ (by omega) 7 (by omega)) ?_; rintro ⟨x7, q7⟩ ⟨hx7a, hx7b, hq7⟩; dsimp only at hx7a hx7b hq7; cbv)
    | (refine call_ex hA hM (x_pick m hm b hb _ (by omega) 3 (by omega)) ?_; rintro ⟨x3, q3⟩ ⟨hx3a, hx3b, hq3⟩; dsimp only at hx3a hx3b hq3; cbv)
    | (refine inb_of hA (fun _ => ?_); (first | omega | (constructor <;> omega)))
    | exact room_add2 hA (by omega) (by decide)
    | exact room_n hA (by omega) (by decide)
    | fail
  · rename_i hlt h0 h60 hgt
    have hlt' : k < n := by first | exact lt2_of hA hlt | exact lt_of hA hlt
    have hgt : mk < 60 := by
      have h9 := hgt
      subst hA
      exact of_decide_eq_true (show decide ((60 : Int) > mk) = true from h9)
    refine ⟨⟨(k + 1, q4, real.ar .add .i64 t x6, 60, c + 1, (fun i => if i < c then G i else ⟨2, 60, 0, 0, 0⟩)), hlt', by (show p ≤ q4); omega, Int.le_trans (by (show q4 ≤ q + 9); omega) hpn, (by decide : (0 : Int) ≤ 60), by (show c + 1 ≤ k + 1); omega, logE_snoc hG (.inr ⟨60, ⟨by decide, by decide⟩, rfl⟩)⟩, by simp only; omega, cov_of ?_ ?_ ?_⟩
    · subst hA; (repeat' first | exact True.intro | exact rfl | exact congrArg (fun x => DV.v (.int .i64 x)) (up64 hlt' hnM) | apply And.intro)
    · subst hA
      (repeat' first | exact True.intro | exact rfl | apply And.intro | (intro _ _; first | rfl | trivial))
      all_goals
        intro i hi
        exact push_if eItm rfl c G ⟨2, 60, 0, 0, 0⟩ _ i hi
    · subst hA; (repeat' first | exact True.intro | exact rfl | apply And.intro | exact .inl rfl | exact .inr (le_of_nble rfl))
  · rename_i hlt h0 h60 hgt
    have hlt' : k < n := by first | exact lt2_of hA hlt | exact lt_of hA hlt
    refine ⟨⟨(k + 1, q4, real.ar .add .i64 t x6, mk, c, G), hlt', by (show p ≤ q4); omega, Int.le_trans (by (show q4 ≤ q + 9); omega) hpn, hmk, by (show c ≤ k + 1); omega, hG⟩, by simp only; omega, cov_of ?_ ?_ ?_⟩
    · subst hA; (repeat' first | exact True.intro | exact rfl | exact congrArg (fun x => DV.v (.int .i64 x)) (up64 hlt' hnM) | apply And.intro)
    · subst hA
      (repeat' first | exact True.intro | exact rfl | apply And.intro | (intro _ _; first | rfl | trivial))
    · subst hA; (repeat' first | exact True.intro | exact rfl | apply And.intro | exact .inl rfl | exact .inr (le_of_nble rfl))
  · rename_i hlt h0 h60 hgt
    have hlt' : k < n := by first | exact lt2_of hA hlt | exact lt_of hA hlt
    have hgt : mk < real.ar .sub .i64 (real.ar .add .i64 t x6) bh := by
      have h9 := hgt
      subst hA
      exact of_decide_eq_true (show decide (real.ar .sub .i64 (real.ar .add .i64 t x6) bh > mk) = true from h9)
    have h60 : real.ar .sub .i64 (real.ar .add .i64 t x6) bh ≤ 60 := by
      have h9 := h60
      subst hA
      have h9 : decide (real.ar .sub .i64 (real.ar .add .i64 t x6) bh > 60) = false := h9
      have h9 := of_decide_eq_false h9
      omega
    refine ⟨⟨(k + 1, q4, real.ar .add .i64 t x6, real.ar .sub .i64 (real.ar .add .i64 t x6) bh, c + 1, (fun i => if i < c then G i else ⟨2, (real.ar .sub .i64 (real.ar .add .i64 t x6) bh), 0, 0, 0⟩)), hlt', by (show p ≤ q4); omega, Int.le_trans (by (show q4 ≤ q + 9); omega) hpn, (by (show 0 ≤ real.ar .sub .i64 (real.ar .add .i64 t x6) bh); omega), by (show c + 1 ≤ k + 1); omega, logE_snoc hG (.inr ⟨_, ⟨by omega, h60⟩, rfl⟩)⟩, by simp only; omega, cov_of ?_ ?_ ?_⟩
    · subst hA; (repeat' first | exact True.intro | exact rfl | exact congrArg (fun x => DV.v (.int .i64 x)) (up64 hlt' hnM) | apply And.intro)
    · subst hA
      (repeat' first | exact True.intro | exact rfl | apply And.intro | (intro _ _; first | rfl | trivial))
      all_goals
        intro i hi
        exact push_if eItm rfl c G ⟨2, (real.ar .sub .i64 (real.ar .add .i64 t x6) bh), 0, 0, 0⟩ _ i hi
    · subst hA; (repeat' first | exact True.intro | exact rfl | apply And.intro | exact .inl rfl | exact .inr (le_of_nble rfl))
  · rename_i hlt h0 h60 hgt
    have hlt' : k < n := by first | exact lt2_of hA hlt | exact lt_of hA hlt
    refine ⟨⟨(k + 1, q4, real.ar .add .i64 t x6, mk, c, G), hlt', by (show p ≤ q4); omega, Int.le_trans (by (show q4 ≤ q + 9); omega) hpn, hmk, by (show c ≤ k + 1); omega, hG⟩, by simp only; omega, cov_of ?_ ?_ ?_⟩
    · subst hA; (repeat' first | exact True.intro | exact rfl | exact congrArg (fun x => DV.v (.int .i64 x)) (up64 hlt' hnM) | apply And.intro)
    · subst hA
      (repeat' first | exact True.intro | exact rfl | apply And.intro | (intro _ _; first | rfl | trivial))
    · subst hA; (repeat' first | exact True.intro | exact rfl | apply And.intro | exact .inl rfl | exact .inr (le_of_nble rfl))
  · rename_i hlt h0 hlo hhi
    exfalso
    subst hA
    exact absurd (of_decide_eq_true (show decide ((0 : Int) > 60) = true from hhi)) (by decide)
  · rename_i hlt h0 hlo hhi
    have hlt' : k < n := by first | exact lt2_of hA hlt | exact lt_of hA hlt
    refine ⟨⟨(k + 1, q3, real.ar .add .i64 t x6, mk, c + 1, (fun i => if i < c then G i else ⟨it.kind, 0, x3, it.v, it.n⟩)), hlt', by (show p ≤ q3); omega, Int.le_trans (by (show q3 ≤ q + 9); omega) hpn, hmk, by (show c + 1 ≤ k + 1); omega, logE_snoc hG (logE_rec hrec (by decide) ⟨hx3a, hx3b⟩)⟩, by simp only; omega, cov_of ?_ ?_ ?_⟩
    · subst hA; (repeat' first | exact True.intro | exact rfl | exact congrArg (fun x => DV.v (.int .i64 x)) (up64 hlt' hnM) | apply And.intro)
    · subst hA
      (repeat' first | exact True.intro | exact rfl | apply And.intro | (intro _ _; first | rfl | trivial))
      all_goals
        intro i hi
        exact push_if eItm rfl c G ⟨it.kind, 0, x3, it.v, it.n⟩ _ i hi
    · subst hA; (repeat' first | exact True.intro | exact rfl | apply And.intro | exact .inl rfl | exact .inr (le_of_nble rfl))
  · rename_i hlt h0 hlo hhi
    have hlt' : k < n := by first | exact lt2_of hA hlt | exact lt_of hA hlt
    refine ⟨⟨(k + 1, q3, real.ar .add .i64 t x6, mk, c + 1, (fun i => if i < c then G i else ⟨it.kind, 60, x3, it.v, it.n⟩)), hlt', by (show p ≤ q3); omega, Int.le_trans (by (show q3 ≤ q + 9); omega) hpn, hmk, by (show c + 1 ≤ k + 1); omega, logE_snoc hG (logE_rec hrec (by decide) ⟨hx3a, hx3b⟩)⟩, by simp only; omega, cov_of ?_ ?_ ?_⟩
    · subst hA; (repeat' first | exact True.intro | exact rfl | exact congrArg (fun x => DV.v (.int .i64 x)) (up64 hlt' hnM) | apply And.intro)
    · subst hA
      (repeat' first | exact True.intro | exact rfl | apply And.intro | (intro _ _; first | rfl | trivial))
      all_goals
        intro i hi
        exact push_if eItm rfl c G ⟨it.kind, 60, x3, it.v, it.n⟩ _ i hi
    · subst hA; (repeat' first | exact True.intro | exact rfl | apply And.intro | exact .inl rfl | exact .inr (le_of_nble rfl))
  · rename_i hlt h0 hlo hhi
    have hlt' : k < n := by first | exact lt2_of hA hlt | exact lt_of hA hlt
    have h60 : 0 ≤ real.ar .sub .i64 (real.ar .add .i64 t x6) (real.sel [0, 0, 1, 2, 4, 8, x20] (real.add 0 (real.nat x7))) ∧ real.ar .sub .i64 (real.ar .add .i64 t x6) (real.sel [0, 0, 1, 2, 4, 8, x20] (real.add 0 (real.nat x7))) ≤ 60 := by
      have h8 := hlo
      have h9 := hhi
      subst hA
      have h8 : decide (real.ar .sub .i64 (real.ar .add .i64 t x6) (real.sel [0, 0, 1, 2, 4, 8, x20] (real.add 0 (real.nat x7))) < 0) = false := h8
      have h8 := of_decide_eq_false h8
      have h9 : decide (real.ar .sub .i64 (real.ar .add .i64 t x6) (real.sel [0, 0, 1, 2, 4, 8, x20] (real.add 0 (real.nat x7))) > 60) = false := h9
      have h9 := of_decide_eq_false h9
      omega
    refine ⟨⟨(k + 1, q3, real.ar .add .i64 t x6, mk, c + 1, (fun i => if i < c then G i else ⟨it.kind, (real.ar .sub .i64 (real.ar .add .i64 t x6) (real.sel [0, 0, 1, 2, 4, 8, x20] (real.add 0 (real.nat x7)))), x3, it.v, it.n⟩)), hlt', by (show p ≤ q3); omega, Int.le_trans (by (show q3 ≤ q + 9); omega) hpn, hmk, by (show c + 1 ≤ k + 1); omega, logE_snoc hG (logE_rec hrec h60 ⟨hx3a, hx3b⟩)⟩, by simp only; omega, cov_of ?_ ?_ ?_⟩
    · subst hA; (repeat' first | exact True.intro | exact rfl | exact congrArg (fun x => DV.v (.int .i64 x)) (up64 hlt' hnM) | apply And.intro)
    · subst hA
      (repeat' first | exact True.intro | exact rfl | apply And.intro | (intro _ _; first | rfl | trivial))
      all_goals
        intro i hi
        exact push_if eItm rfl c G ⟨it.kind, (real.ar .sub .i64 (real.ar .add .i64 t x6) (real.sel [0, 0, 1, 2, 4, 8, x20] (real.add 0 (real.nat x7)))), x3, it.v, it.n⟩ _ i hi
    · subst hA; (repeat' first | exact True.intro | exact rfl | apply And.intro | exact .inl rfl | exact .inr (le_of_nble rfl))
  · obtain ⟨G2, hG2⟩ : ∃ G2 : Nat → ItmT, G2 = fun i => if i < c then G i else if i - c < 1 then endE else ⟨0, 0, 0, 0, 0⟩ := ⟨_, rfl⟩
    have hRow : (fun i => eItm (G2 i)) = real.app c (fun i => eItm (G i)) (real.sub 0 (real.app 1 (real.rep (eItm endE)) (real.rep (eItm ⟨0, 0, 0, 0, 0⟩)))) := by
      funext i
      subst hG2
      show eItm (if i < c then G i else if i - c < 1 then endE else ⟨0, 0, 0, 0, 0⟩) = (if i < c then eItm (G i) else (if 0 + (i - c) < 1 then eItm endE else eItm ⟨0, 0, 0, 0, 0⟩))
      rw [Nat.zero_add]
      by_cases e : i < c
      · rw [if_pos e, if_pos e]
      · rw [if_neg e, if_neg e]
        by_cases e2 : i - c < 1
        · rw [if_pos e2, if_pos e2]
        · rw [if_neg e2, if_neg e2]
    have hl1 : ∀ i, i + 1 < c + 1 → LogE (G2 i) := fun i hi => by
      rw [hG2]
      show LogE (if i < c then G i else _)
      rw [if_pos (by omega)]
      exact hG i (by omega)
    have hl2 : G2 (c + 1 - 1) = endE := by
      rw [hG2, Nat.add_sub_cancel]
      show (if c < c then G c else if c - c < 1 then endE else _) = endE
      rw [if_neg (Nat.lt_irrefl c), if_pos (by omega)]
    refine fin_of hA ⟨⟨⟨c + 1, G2⟩, q⟩, ⟨hp0, by (show q ≤ p + 400); omega, ⟨by (show 1 ≤ c + 1); omega, by (show c + 1 ≤ 28); omega⟩, hl1, hl2⟩, ?_, rfl⟩
    subst hA
    exact congrArg (fun r => XA.one (.c (.own 5 (c + 1) r))) hRow.symm
end Go.Rk
/- Draws of kind: mix. -/
namespace Go.Rk
set_option linter.unusedSimpArgs false
set_option linter.unusedVariables false
open Go.Proofs
set_option maxRecDepth 100000
set_option maxHeartbeats 1000000
theorem x_drawMix (M0 : Nat) (b : Nat → Int) (hb : ∀ i, 0 ≤ b i ∧ b i ≤ 255) : ∃ y : JobT × Nat × (Nat → ItmT), (JobOkP y.1 ∧ (1 ≤ y.2.1 ∧ y.2.1 ≤ 28) ∧ (∀ i, i + 1 < y.2.1 → LogE (y.2.2 i)) ∧ y.2.2 (y.2.1 - 1) = endE) ∧ Meets Try.prog 15 [.c (.d (.sl 1 M0 fun i => [eU (b i)]))] ⟨.tup [xd (eJob y.1), .c (.own 5 y.2.1 fun i => eItm (y.2.2 i))], [none]⟩ := by
  obtain ⟨m, hmm⟩ : ∃ m : Nat, m = if 2000 < M0 then 2000 else M0 := ⟨_, rfl⟩
  have hm : m ≤ 2000 := by rw [hmm]; split <;> omega
  have ho := m_open M0 b m hmm
  refine meets_ex (H := []) (EX := EXD) ttok mixed ([none]) Try.func15 rfl (by kernel_rfl) (by decide) (fun _ => rfl) ?_
  generalize hA : real = A
  generalize hM : MeetsB Try.prog = M
  cbv
  repeat' first
    | apply And.intro
    | exact True.intro
    | with_reducible rfl
    | exact same_of hA rfl
    | refine br_of hA (fun _ => ?_) (fun _ => ?_)
    | exact imp_of hA id
    | (refine imp_of hA ?_; subst hA; simp only [real, Bool.true_and]; exact id)
    | (refine ind_of hA ?_; decide +kernel)
    | (refine call_of hA hM _ ho ?_; cbv)
    | (refine call_ex hA hM (x2_job m hm b hb _ (by omega)) ?_; rintro ⟨j, qj⟩ ⟨hj0, hj1, hjob⟩; dsimp only at hj0 hj1 hjob; cbv)
    | (refine call_ex hA hM (x_pick m hm b hb _ (by omega) 24 (by omega)) ?_; rintro ⟨x24, q24⟩ ⟨hx24a, hx24b, hq24⟩; dsimp only at hx24a hx24b hq24; cbv)
    | fail
  obtain ⟨nn, hnn⟩ : ∃ nn : Nat, (nn : Int) = 4 + x24 := ⟨(4 + x24).toNat, by omega⟩
  have e9 : IntKind.i64.wrap (4 + x24) = (nn : Int) := by rw [hnn]; exact IntWalk.i64_in _ (by omega)
  refine call_ex2 hA hM (x_log m hm b hb q24 (by omega) nn (by omega)) ?_ ?_
  · subst hA
    rw [← e9]
    rfl
  rintro ⟨⟨c, G⟩, ql⟩ ⟨hl0, hl1, hl2, hl3, hl4⟩
  dsimp only at hl0 hl1 hl2 hl3 hl4
  cbv
  repeat' first
    | apply And.intro
    | exact True.intro
    | with_reducible rfl
    | exact same_of hA rfl
    | refine br_of hA (fun _ => ?_) (fun _ => ?_)
    | exact imp_of hA id
    | (refine imp_of hA ?_; subst hA; simp only [real, Bool.true_and]; exact id)
    | (refine ind_of hA ?_; decide +kernel)
    | (refine fin_of hA ⟨⟨j, c, G⟩, ?_, rfl, rfl⟩; exact ⟨hjob, hl2, hl3, hl4⟩)
    | fail
end Go.Rk
/- slices.Insert of one element: what it answers. -/
namespace Go.Rk.TabI
set_option linter.unusedSimpArgs false
set_option linter.unusedVariables false
open Go Go.Proofs Go.RowKit Go.Lib
set_option maxHeartbeats 4000000 in
set_option maxRecDepth 100000 in
theorem ins_shift (b off n c i vb voff vc : Nat) (cs vs : List Value) (w : World) (hi : i < n) (hroom : n + 1 ≤ c) (hn63 : n ≤ 1100000) (hvb : vb ≠ b)
    (hcl : cs.length = n * 7) (hvl : vs.length = 7)
    (hcs : ∀ j v, cs[j]? = some v → w.cell? ⟨b, off + j, none⟩ = some v) (hsp : ∀ j, j < (n + 1) * 7 → (w.cell? ⟨b, off + j, none⟩).isSome = true) (hfz : ∀ j, j < (n + 1) * 7 → w.frozen? ⟨b, off + j, none⟩ = false)
    (hvs : ∀ j v, vs[j]? = some v → w.cell? ⟨vb, voff + j, none⟩ = some v) (h1c : ∀ v ∈ cs, v.oneCell' = true) (h1v : ∀ v ∈ vs, v.oneCell' = true)
    (tA tB : TypeId) (kA kB : Nat) (hsa : w.shape? vb = some (tA, kA)) (hsb : w.shape? b = some (tB, kB)) (hkB : kB ≠ 0) (hfa : w.frozen? ⟨vb, voff, none⟩ = false) (hfe : w.frozen? ⟨vb, kA, none⟩ = false) :
    Calls Try.prog 115 #[.slice (some ⟨b, off, none⟩) n c, .int .i64 i, .slice (some ⟨vb, voff, none⟩) 1 vc] w fun e w' =>
      e = .returned (.slice (some ⟨b, off, none⟩) (n + 1) c) ∧ w' = (w.drew.setCells b (off + (i + 1) * 7) (cs.drop (i * 7))).setCells b (off + i * 7) vs := by
  have hz2 : ¬ ((i : Int) = (n : Int)) := by omega
  have hsz : (Try.prog.info? 69).map (·.size) = some 7 := by kernel_rfl
  have hov : ∀ lb cb, (callFunc 145 #[.slice (some ⟨vb, voff, none⟩) 1 vc, .slice (some ⟨b, off + (i + 1) * 7, none⟩) lb cb]).run Try.prog w = .ok (.value (.bool false)) w := fun lb cb => by
    rw [run_callFunc_extern Try.func145 (by kernel_rfl) (by kernel_rfl) (by kernel_rfl) (e := Extern.SlicesOverlaps.overlaps #[37, 37] #[4]) (by kernel_rfl),
      Lib.run_overlaps_apart w 37 4 69 Try.underlying37 7 Try.sizeOf69 ⟨vb, voff, none⟩ ⟨b, off + (i + 1) * 7, none⟩ 1 vc lb cb hvb tA tB kA kB hsa hsb hkB hfa hfe]
    rfl
  have hdl : (cs.drop (i * 7)).length = (n - i) * 7 := by rw [List.length_drop, hcl, Nat.sub_mul]
  have hw1 : IntKind.i64.wrap ((i : Int) + 1) = (i : Int) + 1 := by rw [IntKind.wrap_i64]; omega
  have hw2 : IntKind.i64.wrap ((n : Int) + 1) = (n : Int) + 1 := by rw [IntKind.wrap_i64]; omega
  have hb1 : (0 : Int) ≤ (i : Int) + 1 := by omega
  have hin : i ≤ n := by omega
  have htn : ((i : Int) + 1).toNat = i + 1 := by omega
  have htm : ((n : Int) + 1).toNat = n + 1 := by omega
  have hb2 : ¬ (c = i + 1) := by omega
  have hb3 : (i : Int) ≤ (n : Int) + 1 := by omega
  have hb4 : ¬ (c = i) := by omega
  have hcp1 : ∀ ty dc sc, (Builtin.copy_ #[37, 37] ty #[.slice (some ⟨b, off + (i + 1) * 7, none⟩) (n - i) dc, .slice (some ⟨b, off + i * 7, none⟩) (n + 1 - i) sc]).run Try.prog w.drew = .ok (goInt ((n - i : Nat) : Int)) (w.drew.setCells b (off + (i + 1) * 7) (cs.drop (i * 7))) := fun ty dc sc =>
    run_copy_k w.drew _ _ ty 69 7 b (off + (i + 1) * 7) (n - i) dc ⟨b, off + i * 7, none⟩ (n + 1 - i) sc (cs.drop (i * 7)) Try.underlying37 hsz (n - i) (by simp only [Nat.min_def]; split <;> omega) hdl
      (fun j v hj => by rw [Addr.add_lit, Nat.add_assoc]; exact hcs (i * 7 + j) v (by rwa [List.getElem?_drop] at hj))
      (fun j hj => by rw [Nat.add_assoc]; exact hsp _ (by rw [hdl] at hj; omega)) (fun j hj => by rw [Nat.add_assoc]; exact hfz _ (by rw [hdl] at hj; omega)) (fun v hv => h1c v (List.mem_of_mem_drop hv))
  obtain ⟨W1, hW1⟩ : ∃ W1, W1 = w.drew.setCells b (off + (i + 1) * 7) (cs.drop (i * 7)) := ⟨_, rfl⟩
  have hsp1 : ∀ k, k < (n + 1) * 7 → (W1.cell? ⟨b, off + k, none⟩).isSome = true := fun k hk => by
    rw [hW1]
    exact isSome_setCells b _ _ _ (fun j hj => by rw [Nat.add_assoc]; exact hsp _ (by rw [hdl] at hj; omega)) _ (hsp k hk)
  have hcp2 : ∀ (W : World), (∀ x, W.cell? x = W1.cell? x) → (∀ x, W.frozen? x = W1.frozen? x) → ∀ ty dc, (Builtin.copy_ #[37, 37] ty #[.slice (some ⟨b, off + i * 7, none⟩) (n + 1 - i) dc, .slice (some ⟨vb, voff, none⟩) 1 vc]).run Try.prog W = .ok (goInt 1) (W.setCells b (off + i * 7) vs) := fun W hWc hWf ty dc =>
    run_copy_k W _ _ ty 69 7 b (off + i * 7) (n + 1 - i) dc ⟨vb, voff, none⟩ 1 vc vs Try.underlying37 hsz 1 (by simp only [Nat.min_def]; split <;> omega) (by rw [hvl])
      (fun j v hj => by
        rw [Addr.add_lit, hWc, hW1, World.cell?_setCells_out b _ _ _ _ (fun h _ => absurd h hvb)]
        exact hvs j v hj)
      (fun j hj => by rw [hWc, Nat.add_assoc]; exact hsp1 _ (by rw [hvl] at hj; omega)) (fun j hj => by rw [hWf, hW1, World.frozen?_setCells, Nat.add_assoc]; exact hfz _ (by rw [hvl] at hj; omega)) h1v
  rw [← hW1] at hcp1
  have mixed := mixed
  go_enter Try.func115, Try.ntmps115
  go_wp2_with (simp only [hov])
  go_region_law_o (refine step_copy_runI rfl _ _ 37 37 rfl _ _ (by simp [Act.eval, Act.put]) (by simp [Act.eval, Act.put]) (hcp1 _ _ _) ?_)
  go_wp2_with (at_builtin; refine wpList_copy_runI _ rfl _ _ 37 37 rfl _ _ rfl rfl (hcp2 _ (fun _ => rfl) (fun _ => rfl) _ _) ?_)
  go_ret
  first | exact ⟨rfl, rfl⟩ | exact ⟨rfl, by rw [hW1]⟩
end Go.Rk.TabI
namespace Go.Rk.TabI
set_option linter.unusedSimpArgs false
set_option linter.unusedVariables false
open Go.Proofs
set_option maxRecDepth 100000
set_option maxHeartbeats 1000000
theorem ins_end (n : Nat) (hn : n ≤ 1100000) (row : Nat → List DV) (r : List DV) (row1 : Nat → List DV) (hr : row1 0 = r) (R : Nat → List DV) (hR : ∀ k, k < n + 1 → R k = if k < n then row k else r) :
    Meets Try.prog 115 [.c (.own 7 n row), .c (.d (eI n)), .c (.own 7 1 row1)] ⟨.one (.c (.own 7 (n + 1) R)), [none, none, none]⟩ := by
  obtain ⟨R', hR'⟩ : ∃ R' : Nat → List DV, R' = real.app n row (real.sub 0 row1) := ⟨_, rfl⟩
  refine meets_rows (row := R') (fun k hk => ?_) ?_
  · rw [hR k hk, hR']
    show (if k < n then row k else row1 (0 + (k - n))) = _
    by_cases h : k < n
    · rw [if_pos h, if_pos h]
    · rw [if_neg h, if_neg h, show 0 + (k - n) = 0 by omega, hr]
  refine meets_of (H := []) (EX := EXA) ttok mixed Try.func115 rfl (by kernel_rfl) (by decide) ?_
  generalize hA : real = A
  generalize hM : MeetsB Try.prog = M
  cbv
  repeat' first
    | (refine br_f hA ?_ ?_; focus (subst hA; simp [real]; done))
    | (refine br_t hA ?_ ?_; focus (subst hA; simp [real]; done))
    | apply And.intro
    | exact True.intro
    | with_reducible rfl
    | exact same_of hA rfl
    | refine br_of hA (fun _ => ?_) (fun _ => ?_)
    | exact imp_of hA id
    | (refine imp_of hA ?_; subst hA; simp only [real, Bool.true_and]; exact id)
    | (refine ind_of hA ?_; decide +kernel)
    | (refine cut_of hA ?_; subst hA; exact ⟨Int.natCast_nonneg n, Int.le_refl _, Int.le_refl _⟩)
    | exact room_add2 hA (by omega) (by decide)
  subst hA
  rw [hR']
  rfl
end Go.Rk.TabI
namespace Go.Rk.TabI
set_option linter.unusedSimpArgs false
set_option linter.unusedVariables false
open Go Go.Proofs Go.RowKit Go.Lib
set_option maxHeartbeats 4000000 in
set_option maxRecDepth 100000 in
theorem ins_grow (b off n c i vb voff vc : Nat) (cs vs : List Value) (w : World) (hi : i < n) (hnc : n ≤ c) (hroom : c < n + 1) (hbig : (n + 1) * 56 ≤ 140737488355328)
    (hcl : cs.length = n * 7) (hvl : vs.length = 7)
    (hcs : ∀ j v, cs[j]? = some v → w.cell? ⟨b, off + j, none⟩ = some v)
    (hvs : ∀ j v, vs[j]? = some v → w.cell? ⟨vb, voff + j, none⟩ = some v) (h1c : ∀ v ∈ cs, v.oneCell' = true) (h1v : ∀ v ∈ vs, v.oneCell' = true) :
    ∃ ROW : Array Value, ROW.size = grownCap w (n + 1) c 69 * 7 ∧ (∀ j, j < i * 7 → ROW[j]? = cs[j]?) ∧ n + 1 ≤ grownCap w (n + 1) c 69 ∧
    Calls Try.prog 115 #[.slice (some ⟨b, off, none⟩) n c, .int .i64 i, .slice (some ⟨vb, voff, none⟩) 1 vc] w fun e w' =>
      e = .returned (.slice (some ⟨w.heap.size, 0, none⟩) (n + 1) (grownCap w (n + 1) c 69)) ∧
      w' = (((w.alloc (.cells ROW 69)).drew.setCells w.heap.size (i * 7) vs).drew).setCells w.heap.size ((i + 1) * 7) (cs.drop (i * 7)) := by
  have hi0 : Try.prog.info? 69 = some Try.t69 := by kernel_rfl
  have hzs : Try.t69.size = 7 := rfl
  have hzb : Try.t69.bytes = 56 := rfl
  have hz0 : Try.t69.zero = some (.agg #[.int .i64 0, .int .i64 0, .int .i64 0, .int .i64 0, .int .i64 0, .int .i64 0, .int .i64 0]) := rfl
  obtain ⟨Z, hZ⟩ : ∃ Z : Array Value, Z = #[.int .i64 0, .int .i64 0, .int .i64 0, .int .i64 0, .int .i64 0, .int .i64 0, .int .i64 0] := ⟨_, rfl⟩
  have hZ7 : Z.size = 7 := by rw [hZ]; rfl
  rw [← hZ] at hz0
  have hz2 : ¬ ((i : Int) = (n : Int)) := by omega
  have hsz : (Try.prog.info? 69).map (·.size) = some 7 := by rw [hi0]; rfl
  have hbw : b < w.heap.size := block_lt_of_cell (hcs 0 _ (List.getElem?_eq_getElem (by omega)))
  have hvw : vb < w.heap.size := block_lt_of_cell (hvs 0 _ (List.getElem?_eq_getElem (by omega)))
  have hkk : (n : Int) + 1 - (i : Int) = ((n + 1 - i : Nat) : Int) := by omega
  have hik : i + (n + 1 - i) = n + 1 := by omega
  have hold : (Builtin.firstCells Try.t69.size i (.slice (some ⟨b, off, none⟩) i c)).run Try.prog w.drew = .ok (cs.take (i * 7)).toArray w.drew := by
    rw [hzs]
    exact run_firstCells_some w.drew 7 i ⟨b, off, none⟩ i c (cs.take (i * 7)) (by rw [List.length_take]; omega) (fun j v hj => by
      rw [Addr.add_lit]
      rw [List.getElem?_take] at hj
      split at hj
      · exact hcs j v hj
      · cases hj)
  have hrz : ∀ ty, (Builtin.append_ #[37, 3] ty #[.slice (some ⟨b, off, none⟩) i c, .int .i64 ((n : Int) + 1 - (i : Int))]).run Try.prog w =
      .ok (.slice (some ⟨w.heap.size, 0, none⟩) (n + 1) (grownCap w (n + 1) c 69)) (w.drew.alloc (.cells ((cs.take (i * 7)).toArray ++ Builtin.zeroCells Z (n + 1 - i) ++ Builtin.zeroCells Z (grownCap w (n + 1) c 69 - (n + 1))) 69)) := fun ty => by
    have h := Lib.run_append_grow_zeros w 37 3 ty 69 Try.t69 _ .i64 .i64 Try.underlying37 Try.underlying3 hi0 hz0 (some ⟨b, off, none⟩) i c (cs.take (i * 7)) hold (n + 1 - i) (by omega) (by omega) (by omega) (by omega) (by rw [hzb]; omega) (by rw [hzb, hik]; exact growslice_fits hroom hbig)
    rw [hik] at h
    rw [hkk]
    exact h
  obtain ⟨G, hG⟩ : ∃ G, G = grownCap w (n + 1) c 69 := ⟨_, rfl⟩
  obtain ⟨ROW, hROW⟩ : ∃ ROW : Array Value, ROW = (cs.take (i * 7)).toArray ++ Builtin.zeroCells Z (n + 1 - i) ++ Builtin.zeroCells Z (G - (n + 1)) := ⟨_, rfl⟩
  have hGn : n + 1 ≤ G := by rw [hG]; exact grownCap_ge w _ _ _
  have hG63 : G ≤ 9223372036854775807 := by
    have := grownCap_le_maxLen w (n + 1) c 69 (by unfold maxLen; omega)
    rw [← hG] at this
    unfold maxLen at this
    omega
  rw [← hG] at hrz ⊢
  rw [← hROW] at hrz
  have htl : (cs.take (i * 7)).length = i * 7 := by rw [List.length_take, hcl]; omega
  have hRs : ROW.size = G * 7 := by
    rw [hROW]
    simp only [Array.size_append, List.size_toArray, htl, Builtin.zeroCells, Array.size_map, Array.size_range, hZ7]
    omega
  refine ⟨ROW, hRs, fun j hj => ?_, hGn, ?_⟩
  · rw [hROW, Array.append_assoc, Array.getElem?_append_left (by rw [List.size_toArray, htl]; exact hj), List.getElem?_toArray, List.getElem?_take, if_pos hj]
  obtain ⟨W1, hW1⟩ : ∃ W1, W1 = w.drew.alloc (.cells ROW 69) := ⟨_, rfl⟩
  rw [← hW1] at hrz
  have hN : ∀ j, j < (n + 1) * 7 → (W1.cell? ⟨w.heap.size, j, none⟩).isSome = true := fun j hj => by
    rw [hW1, World.cell?_alloc_at (w := w.drew) ROW _ w.heap.size j rfl, Array.getElem?_eq_getElem (by omega)]; rfl
  have hNf : ∀ j, W1.frozen? ⟨w.heap.size, j, none⟩ = false := fun j => by rw [hW1]; exact World.frozen?_alloc_at (w := w.drew) ROW _ w.heap.size j rfl
  have hOb : ∀ j v, w.cell? ⟨b, j, none⟩ = some v → W1.cell? ⟨b, j, none⟩ = some v := fun j v h => by rw [hW1, World.cell?_alloc_past (w := w.drew) _ b j hbw]; exact h
  have hOv : ∀ j v, w.cell? ⟨vb, j, none⟩ = some v → W1.cell? ⟨vb, j, none⟩ = some v := fun j v h => by rw [hW1, World.cell?_alloc_past (w := w.drew) _ vb j hvw]; exact h
  have hcpA : ∀ (W : World), (∀ x, W.cell? x = W1.cell? x) → (∀ x, W.frozen? x = W1.frozen? x) → ∀ ty dc, (Builtin.copy_ #[37, 37] ty #[.slice (some ⟨w.heap.size, i * 7, none⟩) (n + 1 - i) dc, .slice (some ⟨vb, voff, none⟩) 1 vc]).run Try.prog W = .ok (goInt 1) (W.setCells w.heap.size (i * 7) vs) := fun W hWc hWf ty dc =>
    run_copy_k W _ _ ty 69 7 w.heap.size (i * 7) (n + 1 - i) dc ⟨vb, voff, none⟩ 1 vc vs Try.underlying37 hsz 1 (by simp only [Nat.min_def]; split <;> omega) (by rw [hvl])
      (fun j v hj => by rw [Addr.add_lit, hWc]; exact hOv _ v (hvs j v hj))
      (fun j hj => by rw [hWc]; exact hN _ (by rw [hvl] at hj; omega)) (fun j hj => by rw [hWf]; exact hNf _) h1v
  have hGi : ¬ (G = i) := by omega
  have hGim : ¬ (G = i + 1) := by omega
  have hci : ¬ (c = i) := by omega
  have hbN : b ≠ w.heap.size := by omega
  have hdl : (cs.drop (i * 7)).length = (n - i) * 7 := by rw [List.length_drop, hcl, Nat.sub_mul]
  have hcpB : ∀ (W : World), (∀ x, W.cell? x = (W1.setCells w.heap.size (i * 7) vs).cell? x) → (∀ x, W.frozen? x = (W1.setCells w.heap.size (i * 7) vs).frozen? x) → ∀ ty dc sc, (Builtin.copy_ #[37, 37] ty #[.slice (some ⟨w.heap.size, (i + 1) * 7, none⟩) (n - i) dc, .slice (some ⟨b, off + i * 7, none⟩) (n - i) sc]).run Try.prog W = .ok (goInt ((n - i : Nat) : Int)) (W.setCells w.heap.size ((i + 1) * 7) (cs.drop (i * 7))) := fun W hWc hWf ty dc sc =>
    run_copy_k W _ _ ty 69 7 w.heap.size ((i + 1) * 7) (n - i) dc ⟨b, off + i * 7, none⟩ (n - i) sc (cs.drop (i * 7)) Try.underlying37 hsz (n - i) (by simp only [Nat.min_def]; split <;> omega) hdl
      (fun j v hj => by
        rw [Addr.add_lit, hWc, World.cell?_setCells_out _ _ _ _ _ (fun h _ => absurd h hbN), Nat.add_assoc]
        exact hOb _ v (hcs (i * 7 + j) v (by rwa [List.getElem?_drop] at hj)))
      (fun j hj => by rw [hWc]; exact isSome_setCells _ _ _ _ (fun t ht => hN _ (by rw [hvl] at ht; omega)) _ (hN _ (by rw [hdl] at hj; omega)))
      (fun j hj => by rw [hWf, World.frozen?_setCells]; exact hNf _) (fun v hv => h1c v (List.mem_of_mem_drop hv))
  subst hW1
  have hE1 : ∀ x, ((w.alloc (.cells ROW 69)).drew).cell? x = (w.drew.alloc (.cells ROW 69)).cell? x := fun x => rfl
  have hE2 : ∀ x, ((w.alloc (.cells ROW 69)).drew).frozen? x = (w.drew.alloc (.cells ROW 69)).frozen? x := fun x => rfl
  have hF1 : ∀ x, (((w.alloc (.cells ROW 69)).drew.setCells w.heap.size (i * 7) vs).drew).cell? x = ((w.drew.alloc (.cells ROW 69)).setCells w.heap.size (i * 7) vs).cell? x := fun x => rfl
  have hF2 : ∀ x, (((w.alloc (.cells ROW 69)).drew.setCells w.heap.size (i * 7) vs).drew).frozen? x = ((w.drew.alloc (.cells ROW 69)).setCells w.heap.size (i * 7) vs).frozen? x := fun x => rfl
  have hw1 : IntKind.i64.wrap ((i : Int) + 1) = (i : Int) + 1 := by rw [IntKind.wrap_i64]; omega
  have hw2 : IntKind.i64.wrap ((n : Int) + 1) = (n : Int) + 1 := by rw [IntKind.wrap_i64]; omega
  have hb1 : (0 : Int) ≤ (i : Int) + 1 := by omega
  have hin : i ≤ n := by omega
  have htn : ((i : Int) + 1).toNat = i + 1 := by omega
  have hb3 : (i : Int) ≤ (n : Int) := by omega
  have mixed := mixed
  clear hkk hik hold hROW hG hRs
  go_enter Try.func115, Try.ntmps115
  go_wp2_with (first
    | (at_builtin; refine Lib.wpList_append_run _ rfl _ _ _ _ rfl _ _ rfl rfl _ _ (hrz _) ?_)
    | (at_builtin; refine wpList_copy_runI _ rfl _ _ 37 37 rfl _ _ rfl rfl (hcpA _ hE1 hE2 _ _) ?_)
    | (at_builtin; refine wpList_copy_runI _ rfl _ _ 37 37 rfl _ _ rfl rfl (hcpB _ (fun _ => rfl) (fun _ => rfl) _ _ _) ?_))
  go_region_law_o (refine step_copy_runI rfl _ _ 37 37 rfl (.slice (some ⟨w.heap.size, (i + 1) * 7, none⟩) (n - i) (G - (i + 1))) (.slice (some ⟨b, off + i * 7, none⟩) (n - i) (c - i)) (by simp [Act.eval, Act.put]) (by simp [Act.eval, Act.put]) (hcpB _ hF1 hF2 3 (G - (i + 1)) (c - i)) ?_)
  go_wp2
  go_ret
  exact ⟨rfl, rfl⟩
end Go.Rk.TabI
namespace Go.Rk.TabI
set_option linter.unusedSimpArgs false
set_option linter.unusedVariables false
open Go Go.Proofs
/-- The cells that lie one behind the other. -/
def cutOf (A : Array Value) (o k : Nat) : List Value := (A.toList.drop o).take k
theorem cutOf_len {A : Array Value} {o k : Nat} (h : o + k ≤ A.size) : (cutOf A o k).length = k := by
  unfold cutOf
  rw [List.length_take, List.length_drop, Array.length_toList]
  omega
theorem cutOf_at {A : Array Value} {o k j : Nat} : (cutOf A o k)[j]? = if j < k then A[o + j]? else none := by
  unfold cutOf
  rw [List.getElem?_take]
  split
  · rw [List.getElem?_drop, Array.getElem?_toList]
  · rfl
theorem cell_of {w : World} {b : Nat} {A : Array Value} {e : TypeId} {fr : Nat × Nat} (h : w.heap[b]? = some (.cells A e fr)) (j : Nat) : w.cell? ⟨b, j, none⟩ = A[j]? := by
  simp [World.cell?, h]
theorem frozen_of {w : World} {b : Nat} {A : Array Value} {e : TypeId} (h : w.heap[b]? = some (.cells A e (0, 0))) (j : Nat) : w.frozen? ⟨b, j, none⟩ = false := by
  simp [World.frozen?, h]
/-- Rows of so many cells, one put between. -/
theorem ins_rows {w : World} {N : Nat → Prop} {n i base base' vo : Nat} {A B C : Array Value} {row row1 R : Nat → List DV}
    (hi : i ≤ n) (hl : ∀ k, k < n → (row k).length = 7) (hl1 : (row1 0).length = 7)
    (hA : ∀ k j x, k < n → (row k)[j]? = some x → ∃ u, A[base + k * 7 + j]? = some u ∧ DRep w N x u)
    (hB : ∀ j x, (row1 0)[j]? = some x → ∃ u, B[vo + j]? = some u ∧ DRep w N x u)
    (c1 : ∀ k j, k < i → j < 7 → C[base' + k * 7 + j]? = A[base + k * 7 + j]?)
    (c2 : ∀ j, j < 7 → C[base' + i * 7 + j]? = B[vo + j]?)
    (c3 : ∀ k j, i ≤ k → k < n → j < 7 → C[base' + (k + 1) * 7 + j]? = A[base + k * 7 + j]?)
    (hR : ∀ k, k < n + 1 → R k = if k < i then row k else if k = i then row1 0 else row (k - 1)) :
    (∀ k, k < n + 1 → (R k).length = 7) ∧ ∀ k j x, k < n + 1 → (R k)[j]? = some x → ∃ u, C[base' + k * 7 + j]? = some u ∧ DRep w N x u := by
  have hlen : ∀ k, k < n + 1 → (R k).length = 7 := fun k hk => by
    rw [hR k hk]
    split
    · exact hl k (by omega)
    · split
      · exact hl1
      · exact hl (k - 1) (by omega)
  refine ⟨hlen, fun k j x hk hj => ?_⟩
  have hj7 : j < 7 := by rw [← hlen k hk]; exact (List.getElem?_eq_some_iff.1 hj).1
  rw [hR k hk] at hj
  split at hj
  · rename_i h
    rw [c1 k j h hj7]
    exact hA k j x (by omega) hj
  · split at hj
    · rename_i h
      subst h
      rw [c2 j hj7]
      exact hB j x hj
    · rename_i h1 h2
      have e : k = (k - 1) + 1 := by omega
      rw [e, c3 (k - 1) j (by omega) (by omega) hj7]
      exact hA (k - 1) j x (by omega) hj
theorem c_Insert (n i : Nat) (hn : n ≤ 1100000) (hi : i ≤ n) (row row1 R : Nat → List DV) (hR : ∀ k, k < n + 1 → R k = if k < i then row k else if k = i then row1 0 else row (k - 1)) :
    Meets Try.prog 115 [.c (.own 7 n row), .c (.d (eI i)), .c (.own 7 1 row1)] ⟨.one (.c (.own 7 (n + 1) R)), [none, none, none]⟩ := by
  by_cases hin : i = n
  · subst hin
    refine ins_end i hn row (row1 0) row1 rfl R fun k hk => ?_
    rw [hR k hk]
    by_cases h : k < i
    · rw [if_pos h, if_pos h]
    · rw [if_neg h, if_neg h, if_pos (by omega)]
  have hlt : i < n := by omega
  refine ⟨by kernel_rfl, fun w vals F N hx hF hFN hN => ?_⟩
  obtain ⟨v0, vals, rfl⟩ : ∃ v0 r, vals = v0 :: r := by cases vals with | nil => exact hx.elim | cons a r => exact ⟨a, r, rfl⟩
  obtain ⟨v1, vals, rfl⟩ : ∃ v0 r, vals = v0 :: r := by cases vals with | nil => obtain ⟨_, _, _, _, h⟩ := hx; exact h.elim | cons a r => exact ⟨a, r, rfl⟩
  obtain ⟨v2, vals, rfl⟩ : ∃ v0 r, vals = v0 :: r := by cases vals with | nil => obtain ⟨_, _, _, _, _, _, _, _, h⟩ := hx; exact h.elim | cons a r => exact ⟨a, r, rfl⟩
  obtain ⟨F1, F', rfl, h0, F2, F'', rfl, h1, F3, F4, rfl, h2, h3⟩ := hx
  obtain rfl : vals = [] := by cases vals with | nil => rfl | cons a r => exact h3.elim
  have h3 : F4 = [] := h3
  subst h3
  obtain ⟨h1a, h1⟩ := h1
  subst h1a
  obtain ⟨hl, h0⟩ := h0
  rcases h0 with ⟨h0, _⟩ | ⟨b, base, cap, A, e, rfl, rfl, hcp, hnc, hb, hsz, hA⟩
  · omega
  obtain ⟨hl1, h2⟩ := h2
  rcases h2 with ⟨h2, _⟩ | ⟨vb, vo, vc, B, e2, rfl, rfl, hvp, h1c, hvb, hvsz, hB⟩
  · omega
  cases h1
  simp only [List.nil_append, List.append_nil, List.cons_append] at hF hFN ⊢
  have hne : vb ≠ b := by
    intro h
    simp only [List.nodup_cons, List.mem_cons, List.not_mem_nil, or_false] at hF
    exact hF.1 h.symm
  have hbN : ∀ x, N x → x ≠ b ∧ x ≠ vb := fun x hx => ⟨fun h => (hFN b (by simp)).2 (h ▸ hx), fun h => (hFN vb (by simp)).2 (h ▸ hx)⟩
  have hbw : b < w.heap.size := (hFN b (by simp)).1
  have hvw : vb < w.heap.size := (hFN vb (by simp)).1
  have hsA : base + n * 7 ≤ A.size := Nat.le_trans (Nat.add_le_add_left (Nat.mul_le_mul_right 7 hnc) base) hsz
  have hsB : vo + 7 ≤ B.size := by omega
  obtain ⟨cs, hcs⟩ : ∃ cs, cs = cutOf A base (n * 7) := ⟨_, rfl⟩
  obtain ⟨vs, hvs⟩ : ∃ vs, vs = cutOf B vo 7 := ⟨_, rfl⟩
  have hcl : cs.length = n * 7 := by rw [hcs]; exact cutOf_len hsA
  have hvl : vs.length = 7 := by rw [hvs]; exact cutOf_len hsB
  have hca : ∀ j v, cs[j]? = some v → w.cell? ⟨b, base + j, none⟩ = some v := fun j v h => by
    rw [hcs, cutOf_at] at h
    split at h
    · rw [cell_of hb]; exact h
    · cases h
  have hva : ∀ j v, vs[j]? = some v → w.cell? ⟨vb, vo + j, none⟩ = some v := fun j v h => by
    rw [hvs, cutOf_at] at h
    split at h
    · rw [cell_of hvb]; exact h
    · cases h
  have h1A : ∀ v ∈ cs, v.oneCell' = true := fun v hv => by
    obtain ⟨j, hj⟩ := List.mem_iff_getElem?.1 hv
    rw [hcs, cutOf_at] at hj
    split at hj
    · rename_i hjn
      have hk : j / 7 < n := Nat.div_lt_of_lt_mul (by omega)
      have hr := hl (j / 7) hk
      obtain ⟨x, hx⟩ : ∃ x, (row (j / 7))[j % 7]? = some x := ⟨_, List.getElem?_eq_getElem (by rw [hr]; exact Nat.mod_lt _ (by decide))⟩
      obtain ⟨u, hu, hd⟩ := hA (j / 7) (j % 7) x hk hx
      rw [show base + j / 7 * 7 + j % 7 = base + j by omega, hj] at hu
      cases hu
      exact hd.one
    · cases hj
  have h1B : ∀ v ∈ vs, v.oneCell' = true := fun v hv => by
    obtain ⟨j, hj⟩ := List.mem_iff_getElem?.1 hv
    rw [hvs, cutOf_at] at hj
    split at hj
    · rename_i hjn
      obtain ⟨x, hx⟩ : ∃ x, (row1 0)[j]? = some x := ⟨_, List.getElem?_eq_getElem (by rw [hl1 0 (by omega)]; exact hjn)⟩
      obtain ⟨u, hu, hd⟩ := hB 0 j x (by omega) hx
      rw [show vo + 0 * 7 + j = vo + j by omega, hj] at hu
      cases hu
      exact hd.one
    · cases hj
  have hBr : ∀ j x, (row1 0)[j]? = some x → ∃ u, B[vo + j]? = some u ∧ DRep w N x u := fun j x hj => by
    have := hB 0 j x (by omega) hj
    rw [show vo + 0 * 7 + j = vo + j by omega] at this
    exact this
  have hcsA : ∀ j, j < n * 7 → cs[j]? = A[base + j]? := fun j hj => by rw [hcs, cutOf_at, if_pos hj]
  have hvsB : ∀ j, j < 7 → vs[j]? = B[vo + j]? := fun j hj => by rw [hvs, cutOf_at, if_pos hj]
  have hdl : (cs.drop (i * 7)).length = (n - i) * 7 := by rw [List.length_drop, hcl, Nat.sub_mul]
  by_cases hroom : n + 1 ≤ cap
  · -- in place
    have hsC : base + (n + 1) * 7 ≤ A.size := Nat.le_trans (Nat.add_le_add_left (Nat.mul_le_mul_right 7 hroom) base) hsz
    refine (ins_shift b base n cap i vb vo vc cs vs w hlt hroom hn hne hcl hvl hca (fun j hj => by rw [cell_of hb, Array.getElem?_eq_getElem (by omega)]; rfl) (fun j hj => frozen_of hb _) hva h1A h1B e2 e B.size A.size (by simp [World.shape?, hvb]) (by simp [World.shape?, hb]) (by omega) (frozen_of hvb _) (frozen_of hvb _)).mono ?_
    rintro ee w' ⟨rfl, rfl⟩
    have hbd : w.drew.heap[b]? = some (.cells A e (0, 0)) := hb
    obtain ⟨C1, g1, g2, g3, g4, g5⟩ := setCells_at b (cs.drop (i * 7)) (base + (i + 1) * 7) w.drew A e (0, 0) hbd (by rw [hdl]; omega)
    obtain ⟨C, k1, k2, k3, k4, k5⟩ := setCells_at b vs (base + i * 7) _ C1 e (0, 0) g1 (by rw [hvl, g2]; omega)
    have hoth : ∀ x, x ≠ b → ((w.drew.setCells b (base + (i + 1) * 7) (cs.drop (i * 7))).setCells b (base + i * 7) vs).heap[x]? = w.heap[x]? := fun x hx => by
      rw [setCells_other b _ _ _ x hx, setCells_other b _ _ _ x hx]; rfl
    have hsize : ((w.drew.setCells b (base + (i + 1) * 7) (cs.drop (i * 7))).setCells b (base + i * 7) vs).heap.size = w.heap.size := by rw [setCells_size, setCells_size]; rfl
    obtain ⟨q1, q2⟩ := ins_rows (w := w) (N := N) (n := n) (i := i) (base := base) (base' := base) (vo := vo) (A := A) (B := B) (C := C) hi hl (hl1 0 (by omega)) hA hBr
      (fun k j hk hj => by rw [k3 _ (by omega), g3 _ (by omega)])
      (fun j hj => by rw [k4 j (by rw [hvl]; exact hj), hvsB j hj])
      (fun k j hk1 hk2 hj => by
        rw [k5 _ (by rw [hvl]; omega), show base + (k + 1) * 7 + j = base + (i + 1) * 7 + ((k - i) * 7 + j) by omega, g4 _ (by rw [hdl]; omega), List.getElem?_drop, hcsA _ (by omega)]
        congr 1
        omega) hR
    refine ⟨_, [b], [], rfl, ?_, by rw [hsize]; exact Nat.le_refl _, fun x hx hxF => hoth x fun h => hxF (by rw [h]; simp), fun x xs xe xf hx => ?_, fun x hx => ?_, by simp, ?_, ?_⟩
    · have e1 := setCells_env b vs (base + i * 7) (w.drew.setCells b (base + (i + 1) * 7) (cs.drop (i * 7)))
      have e2 := setCells_env b (cs.drop (i * 7)) (base + (i + 1) * 7) w.drew
      exact ⟨e1.1.trans e2.1, e1.2.1.trans e2.2.1, e1.2.2.trans e2.2.2⟩
    · by_cases hxb : x = b
      · subst hxb
        rw [hb] at hx
        cases hx
        exact ⟨C, k1, by rw [k2, g2]⟩
      · exact ⟨xs, by rw [hoth x hxb]; exact hx, rfl⟩
    · have hx : x = b := by simpa using hx
      subst hx
      exact ⟨by rw [hsize]; exact hbw, .inl (by simp)⟩
    · refine ⟨q1, .inr ⟨b, base, cap, C, e, rfl, rfl, hcp, hroom, k1, by rw [k2, g2]; exact hsz, fun k j x hk hj => ?_⟩⟩
      obtain ⟨u, hu, hd⟩ := q2 k j x hk hj
      exact ⟨u, hu, hd.carry fun x hx => ⟨hoth x (hbN x hx).1, by rw [hsize]; exact hN x hx, by simpa using (hbN x hx).1, .inl hx⟩⟩
    · rfl
  · -- a new row
    obtain ⟨ROW, hRs, hR1, hGn, hc⟩ := ins_grow b base n cap i vb vo vc cs vs w hlt hnc (by omega) (by omega) hcl hvl hca hva h1A h1B
    refine hc.mono ?_
    rintro ee w' ⟨rfl, rfl⟩
    obtain ⟨Gc, hGc⟩ : ∃ G, G = grownCap w (n + 1) cap 69 := ⟨_, rfl⟩
    rw [← hGc] at hRs hGn ⊢
    have hnw : (w.alloc (.cells ROW 69)).drew.heap[w.heap.size]? = some (.cells ROW 69 (0, 0)) := by
      show (w.heap.push _)[w.heap.size]? = _
      rw [Array.getElem?_push_size]
    obtain ⟨C1, g1, g2, g3, g4, g5⟩ := setCells_at w.heap.size vs (i * 7) _ ROW 69 (0, 0) hnw (by rw [hvl]; omega)
    have g1' : (((w.alloc (.cells ROW 69)).drew.setCells w.heap.size (i * 7) vs).drew).heap[w.heap.size]? = some (.cells C1 69 (0, 0)) := g1
    obtain ⟨C, k1, k2, k3, k4, k5⟩ := setCells_at w.heap.size (cs.drop (i * 7)) ((i + 1) * 7) _ C1 69 (0, 0) g1' (by rw [hdl, g2]; omega)
    obtain ⟨w', hw'⟩ : ∃ w', w' = (((w.alloc (.cells ROW 69)).drew.setCells w.heap.size (i * 7) vs).drew).setCells w.heap.size ((i + 1) * 7) (cs.drop (i * 7)) := ⟨_, rfl⟩
    have hoth : ∀ x, x < w.heap.size → w'.heap[x]? = w.heap[x]? := fun x hx => by
      rw [hw', setCells_other _ _ _ _ x (by omega)]
      show ((w.alloc (.cells ROW 69)).drew.setCells w.heap.size (i * 7) vs).heap[x]? = _
      rw [setCells_other _ _ _ _ x (by omega)]
      show (w.heap.push _)[x]? = _
      rw [Array.getElem?_push, if_neg (by omega)]
    have hsize : w'.heap.size = w.heap.size + 1 := by
      rw [hw', setCells_size]
      show ((w.alloc (.cells ROW 69)).drew.setCells w.heap.size (i * 7) vs).heap.size = _
      rw [setCells_size]
      show (w.heap.push _).size = _
      rw [Array.size_push]
    have henv : Env w w' := by
      have e1 := setCells_env w.heap.size (cs.drop (i * 7)) ((i + 1) * 7) (((w.alloc (.cells ROW 69)).drew.setCells w.heap.size (i * 7) vs).drew)
      have e2 := setCells_env w.heap.size vs (i * 7) ((w.alloc (.cells ROW 69)).drew)
      rw [hw']
      exact ⟨e1.1.trans e2.1, e1.2.1.trans e2.2.1, e1.2.2.trans e2.2.2⟩
    rw [← hw'] at k1 ⊢
    obtain ⟨q1, q2⟩ := ins_rows (w := w) (N := N) (n := n) (i := i) (base := base) (base' := 0) (vo := vo) (A := A) (B := B) (C := C) hi hl (hl1 0 (by omega)) hA hBr
      (fun k j hk hj => by rw [k3 _ (by omega), g3 _ (by omega), hR1 _ (by omega), hcsA _ (by omega)]; congr 1; omega)
      (fun j hj => by rw [k3 _ (by omega), Nat.zero_add, g4 j (by rw [hvl]; exact hj), hvsB j hj])
      (fun k j hk1 hk2 hj => by
        rw [show 0 + (k + 1) * 7 + j = (i + 1) * 7 + ((k - i) * 7 + j) by omega, k4 _ (by rw [hdl]; omega), List.getElem?_drop, hcsA _ (by omega)]
        congr 1
        omega) hR
    refine ⟨_, [w.heap.size], [], rfl, henv, by rw [hsize]; omega, fun x hx _ => hoth x hx, fun x xs xe xf hx => ⟨xs, by rw [hoth x (Array.getElem?_eq_some_iff.1 hx).1]; exact hx, rfl⟩, fun x hx => ?_, by simp, ?_, ?_⟩
    · have hx : x = w.heap.size := by simpa using hx
      subst hx
      exact ⟨by rw [hsize]; omega, .inr (Nat.le_refl _)⟩
    · refine ⟨q1, .inr ⟨w.heap.size, 0, Gc, C, 69, rfl, rfl, by omega, hGn, k1, by rw [k2, g2, hRs]; omega, fun k j x hk hj => ?_⟩⟩
      obtain ⟨u, hu, hd⟩ := q2 k j x hk hj
      exact ⟨u, hu, hd.carry fun x hx => ⟨hoth x (hN x hx), by have := hN x hx; rw [hsize]; omega, by have := hN x hx; simp; omega, .inl hx⟩⟩
    · rfl
end Go.Rk.TabI
/- Tables: out. -/
namespace Go.Rk
set_option linter.unusedSimpArgs false
set_option linter.unusedVariables false
open Go.Proofs
set_option maxRecDepth 100000
set_option maxHeartbeats 1000000
open Classical in
set_option maxRecDepth 100000 in
theorem c_of (r : TabT) (key : Int) (w : WinT) : ∃ b, (b = true ↔ IsRow key w r) ∧ Meets Try.prog 110 [xd (eTab r), .c (.d (eI key)), xd (eWin w)] ⟨.one (.c (.d (eB b))), [none, none, none]⟩ := by
  obtain ⟨b, hb⟩ : ∃ b, b = decide (IsRow key w r) := ⟨_, rfl⟩
  refine ⟨b, by rw [hb, decide_eq_true_eq], ?_⟩
  refine meets_of (H := []) (EX := EXA) ttok mixed Try.func110 rfl (by kernel_rfl) (by decide) ?_
  generalize hA : real = A
  generalize hM : MeetsB Try.prog = M
  cbv
  repeat' first
    | apply And.intro
    | exact True.intro
    | with_reducible rfl
    | exact same_of hA rfl
    | refine br_of hA (fun _ => ?_) (fun _ => ?_)
    | exact imp_of hA id
    | (refine imp_of hA ?_; subst hA; simp only [real, Bool.true_and]; exact id)
    | (refine ind_of hA ?_; decide +kernel)
  all_goals obtain ⟨k, ⟨s, e⟩, ag⟩ := r; obtain ⟨s2, e2⟩ := w
  all_goals subst hA
  all_goals refine congrArg (fun b => XA.one (.c (.d (eB b)))) (Bool.eq_iff_iff.2 ?_)
  all_goals subst_vars
  all_goals simp only [real, bifA, bifB, bifC, bifD, beqB, decide_eq_true_eq, decide_eq_false_iff_not, beqI, bneI, beqIF, bneIF, ne_eq, Bool.and_eq_true, Bool.or_eq_true, Bool.not_eq_true', Bool.not_eq_false', Bool.and_eq_false_iff, Bool.or_eq_false_iff, Bool.false_eq_true, and_false, false_and, or_false, false_or, and_true, true_and, not_true_eq_false, not_false_eq_true, true_iff, false_iff, IntKind.wrap_i64, IsRow, WinOkP, AggOkP] at *
  all_goals first | omega | exact decide_eq_true_iff.symm
def st_Out (n : Nat) (g : Nat → TabT) (key : Int) (w : WinT) (i c : Nat) (row : Nat → List DV) : St := ⟨[(12, .c (.d (eI i))), (11, .c (.d (eI n))), (10, .c (.d (.sl 7 n fun i => eTab (g i)))), (7, .c (.own 448 0 c 1)), (1, .c (.d (eI key))), (5, .c (.bp 320 1 0))], [(320, 1, .box ((eWin w).map .d)), (448, 1, .arr 7 c row)]⟩
theorem c_Out (l : List TabT) (n : Nat) (g : Nat → TabT) (hl : Lst zTab l n g) (hn : n ≤ 1100000) (key : Int) (w : WinT) (n0 : Nat) (G : Nat → TabT) (h0 : Lst zTab (tOut key w l) n0 G) : Meets Try.prog 57 [.c (.d (.sl 7 n fun i => eTab (g i))), .c (.d (eI key)), xd (eWin w)] ⟨.one (.c (.own 7 n0 fun i => eTab (G i))), [none, none, none]⟩ := by
  have hnL : n ≤ maxLen := Nat.le_trans hn (by decide)
  have h0 := lst_tells eTab h0
  refine meets_of (H := [8]) (EX := EXA) ttok mixed Try.func57 rfl (by kernel_rfl) (by decide) ?_
  generalize hA : real = A
  generalize hM : MeetsB Try.prog = M
  cbv
  repeat' first
    | apply And.intro
    | exact True.intro
    | with_reducible rfl
    | exact same_of hA rfl
    | refine br_of hA (fun _ => ?_) (fun _ => ?_)
    | exact imp_of hA id
    | (refine imp_of hA ?_; subst hA; simp only [real, Bool.true_and]; exact id)
    | (refine ind_of hA ?_; decide +kernel)
  refine loop_of hA (α := { q : Nat × Nat × (Nat → List DV) // q.1 ≤ n ∧ Tells zTab eTab (tOut key w (l.take q.1)) q.2.1 q.2.2 }) (fun y => st_Out n g key w y.1.1 y.1.2.1 y.1.2.2) (fun y => n - y.1.1) ⟨(0, 0, fun _ => []), Nat.zero_le _, rfl, fun k h => absurd h (Nat.not_lt_zero k)⟩ ?_ ?_
  · refine cov_prom 7 448 1 7 (fun _ => []) (by cbv) (by cbv) (cov_of ?_ ?_ ?_)
    · cbv; try (subst hA; repeat' first | apply And.intro | exact True.intro | rfl)
    · cbv; try (subst hA; repeat' first | apply And.intro | exact True.intro | rfl | (intro _ _; rfl) | (intro k hk; exact absurd hk (Nat.not_lt_zero k)))
    · cbv; try (subst hA; repeat' first | apply And.intro | exact True.intro | rfl | exact .inr trivial)
  rintro ⟨⟨i, c, row⟩, hi, hT⟩
  have hi : i ≤ n := hi
  have hT : Tells zTab eTab (tOut key w (l.take i)) c row := hT
  have hci : c ≤ i := by
    rw [hT.1]
    have h1 := tOut_len key w (l.take i)
    rw [List.length_take] at h1
    omega
  cbv
  repeat' first
    | apply And.intro
    | exact True.intro
    | with_reducible rfl
    | exact same_of hA rfl
    | refine br_of hA (fun _ => ?_) (fun _ => ?_)
    | exact imp_of hA id
    | (refine imp_of hA ?_; subst hA; simp only [real, Bool.true_and]; exact id)
    | (refine ind_of hA ?_; decide +kernel)
    | (refine call_ex hA hM (c_of _ _ _) (fun _ _ => ?_); cbv)
    | (refine inb_of hA fun _ => ?_; subst hA; simp only [real, Bool.and_eq_true, Bool.not_eq_true', Bool.not_eq_false', decide_eq_true_eq, Int.ofNat_eq_natCast, IntKind.wrap_i64] at *; omega)
    | exact room_add2 hA (by omega) (by decide)
  · rename_i hlt bq hbq hc
    have hlt' : i < n := by subst hA; simp only [real, decide_eq_true_eq, Int.ofNat_eq_natCast] at hlt; omega
    have hq : ¬ IsRow key w (g i) := by
      have hbq : bq = true ↔ IsRow key w (g i) := by subst hA; exact hbq
      intro h
      have h2 := hbq.2 h
      subst hA
      have hc : (!bq) = true := hc
      rw [h2] at hc; cases hc
    refine ⟨⟨(i + 1, c + 1, fun q => if q < c then row q else eTab (g i)), by simp only; omega, ?_⟩, by simp only; omega, cov_of ?_ ?_ ?_⟩
    · simp only
      rw [lst_take hl hlt', tOut_app]
      show Tells zTab eTab (tOut key w (l.take i) ++ (if IsRow key w (g i) then tOut key w [] else g i :: tOut key w [])) _ _
      rw [if_neg hq]
      exact tells_snoc hT (fun q _ => rfl)
    · cbv
      subst hA
      repeat' first | apply And.intro | exact True.intro | exact congrArg (fun x => DV.v (.int .i64 x)) (up64 hlt' hnL) | rfl
    · cbv
      subst hA
      repeat' first | apply And.intro | exact True.intro | rfl | (intro _ _; rfl) | (intro q hq; exact push_at rfl _ _ _ _ q hq) | (intro q hq; have e0 : real.add 0 (real.nat (Int.ofNat i)) = i := Nat.zero_add i; rw [e0]; exact push_at rfl _ _ _ _ q hq) | (intro q hq; have e0 : real.nat (Int.ofNat i) = i := rfl; rw [e0]; exact push_at rfl _ _ _ _ q hq)
    · cbv; try (subst hA; repeat' first | apply And.intro | exact True.intro | rfl | exact .inr trivial)
  · rename_i hlt bq hbq hc
    have hlt' : i < n := by subst hA; simp only [real, decide_eq_true_eq, Int.ofNat_eq_natCast] at hlt; omega
    have hq : IsRow key w (g i) := by
      have hbq : bq = true ↔ IsRow key w (g i) := by subst hA; exact hbq
      subst hA
      have hc : (!bq) = false := hc
      refine hbq.1 ?_
      cases bq
      · cases hc
      · rfl
    refine ⟨⟨(i + 1, c, row), by simp only; omega, ?_⟩, by simp only; omega, cov_of ?_ ?_ ?_⟩
    · simp only
      rw [lst_take hl hlt', tOut_app]
      show Tells zTab eTab (tOut key w (l.take i) ++ (if IsRow key w (g i) then tOut key w [] else g i :: tOut key w [])) _ _
      rw [if_pos hq]
      show Tells zTab eTab (tOut key w (l.take i) ++ []) _ _
      rw [List.append_nil]
      exact hT
    · cbv
      subst hA
      repeat' first | apply And.intro | exact True.intro | exact congrArg (fun x => DV.v (.int .i64 x)) (up64 hlt' hnL) | rfl
    · cbv; try (subst hA; repeat' first | apply And.intro | exact True.intro | rfl | (intro _ _; rfl))
    · cbv; try (subst hA; repeat' first | apply And.intro | exact True.intro | rfl | exact .inr trivial)
  · rename_i hge
    have hin : i = n := by subst hA; simp only [real, decide_eq_false_iff_not, Int.ofNat_eq_natCast] at hge; omega
    subst hin
    rw [lst_all hl] at hT
    have hcc : c = n0 := hT.1.trans h0.1.symm
    subst hcc
    refine stop_of hA ⟨[(7, .c (.own 448 0 c 1))], [(448, 1, .arr 7 c fun i => eTab (G i))]⟩ (cov_of ?_ ?_ ?_) ?_
    · cbv
    · cbv
      exact ⟨fun q hq => (hT.2 q hq).trans (h0.2 q hq).symm, trivial⟩
    · cbv
    · cbv
      repeat' first
        | apply And.intro
        | exact True.intro
        | with_reducible rfl
        | exact same_of hA rfl
        | refine br_of hA (fun _ => ?_) (fun _ => ?_)
        | exact imp_of hA id
        | (refine imp_of hA ?_; subst hA; simp only [real, Bool.true_and]; exact id)
        | (refine ind_of hA ?_; decide +kernel)
end Go.Rk
/- Tables: put. -/
namespace Go.Rk
set_option linter.unusedSimpArgs false
set_option linter.unusedVariables false
open Go.Proofs
set_option maxRecDepth 100000
set_option maxHeartbeats 1000000
theorem c_tcompare (r q : TabT) : ∃ x : Int, x = (if r.key < q.key then -1 else if q.key < r.key then 1 else if r.win.s < q.win.s then -1 else if q.win.s < r.win.s then 1 else if r.win.e < q.win.e then -1 else if q.win.e < r.win.e then 1 else 0) ∧ Meets Try.prog 114 [xd (eTab r), xd (eTab q)] ⟨.one (.c (.d (eI x))), [none, none]⟩ := by
  obtain ⟨x, hx⟩ : ∃ x : Int, x = (if r.key < q.key then -1 else if q.key < r.key then 1 else if r.win.s < q.win.s then -1 else if q.win.s < r.win.s then 1 else if r.win.e < q.win.e then -1 else if q.win.e < r.win.e then 1 else 0) := ⟨_, rfl⟩
  refine ⟨x, hx, ?_⟩
  refine meets_of (H := []) (EX := EXA) ttok mixed Try.func114 rfl (by kernel_rfl) (by decide) ?_
  generalize hA : real = A
  generalize hM : MeetsB Try.prog = M
  cbv
  repeat' first
    | apply And.intro
    | exact True.intro
    | with_reducible rfl
    | exact same_of hA rfl
    | refine br_of hA (fun _ => ?_) (fun _ => ?_)
    | exact imp_of hA id
    | (refine imp_of hA ?_; subst hA; simp only [real, Bool.true_and]; exact id)
    | (refine ind_of hA ?_; decide +kernel)
    | (refine call_ex hA hM (c_Compare _ _) (fun _ _ => ?_); cbv)
    | (refine call_ex hA hM (c_wcompare _ _ _ _) (fun _ _ => ?_); cbv)
    | (refine call_ex2 hA hM (c_Or _ _) (congrArg (fun f => [XT.c (.d (.sl 1 2 f))]) (two_of hA _ _)) (fun _ _ => ?_); cbv)
  all_goals subst hA
  all_goals refine congrArg (fun x => XA.one (.c (.d (eI x)))) ?_
  all_goals subst_vars
  all_goals try simp only [real, bifA, bifB, bifC, bifD, decide_eq_true_eq, decide_eq_false_iff_not, beq_iff_eq, bne_iff_ne, beq_eq_false_iff_ne, bne_eq_false_iff_eq, ne_eq, Bool.and_eq_true, Bool.or_eq_true, Bool.not_eq_true', Bool.not_eq_false', Bool.and_eq_false_iff, Bool.or_eq_false_iff, Bool.false_eq_true, reduceCtorEq] at *
  all_goals first
    | omega
    | skip
open Classical in
set_option maxRecDepth 100000 in
theorem c_Put1 (s r : TabT) : ∃ b, (b = true ↔ Ahead r s) ∧ Meets Try.prog 113 [xd (eTab s), .c (.d (.p (eTab r)))] ⟨.one (.c (.d (eB b))), [none, none]⟩ := by
  obtain ⟨b, hb⟩ : ∃ b, b = decide (Ahead r s) := ⟨_, rfl⟩
  refine ⟨b, by rw [hb, decide_eq_true_eq], ?_⟩
  refine meets_of (H := []) (EX := EXA) ttok mixed Try.func113 rfl (by kernel_rfl) (by decide) ?_
  generalize hA : real = A
  generalize hM : MeetsB Try.prog = M
  cbv
  repeat' first
    | apply And.intro
    | exact True.intro
    | with_reducible rfl
    | exact same_of hA rfl
    | refine br_of hA (fun _ => ?_) (fun _ => ?_)
    | exact imp_of hA id
    | (refine imp_of hA ?_; subst hA; simp only [real, Bool.true_and]; exact id)
    | (refine ind_of hA ?_; decide +kernel)
    | (refine call_ex hA hM (c_tcompare _ _) (fun _ _ => ?_); cbv)
  all_goals obtain ⟨k, ⟨s, e⟩, ag⟩ := s; obtain ⟨k2, ⟨s2, e2⟩, ag2⟩ := r
  all_goals subst hA
  all_goals refine congrArg (fun b => XA.one (.c (.d (eB b)))) (Bool.eq_iff_iff.2 ?_)
  all_goals subst_vars
  all_goals simp only [real, bifA, bifB, bifC, bifD, beqB, decide_eq_true_eq, decide_eq_false_iff_not, beqI, bneI, beqIF, bneIF, ne_eq, Bool.and_eq_true, Bool.or_eq_true, Bool.not_eq_true', Bool.not_eq_false', Bool.and_eq_false_iff, Bool.or_eq_false_iff, Bool.false_eq_true, and_false, false_and, or_false, false_or, and_true, true_and, not_true_eq_false, not_false_eq_true, true_iff, false_iff, IntKind.wrap_i64, Ahead, WinOkP, AggOkP] at *
  all_goals first | omega | exact (@decide_eq_true_iff _ _).symm | (refine Iff.trans ?_ (@decide_eq_true_iff _ _).symm; omega)
def stIxTab1 (n : Nat) (g : Nat → TabT) (F : FuncId) (c0 : DV) (i : Nat) : St := ⟨[(8, .c (.d (eI i))), (7, .c (.d (eI n))), (0, .c (.d (.sl 7 n fun i => eTab (g i)))), (1, .c (.d (.fn F [c0])))], []⟩
set_option maxRecDepth 100000 in
theorem c_IndexTab1 (n : Nat) (hn : n ≤ maxLen) (g : Nat → TabT) (F : FuncId) (c0 : DV) (Q : TabT → Prop) (hc : ∀ r, ∃ b, (b = true ↔ Q r) ∧ Meets Try.prog F [xd (eTab r), .c (.d c0)] ⟨.one (.c (.d (eB b))), [none, none]⟩) : ∃ x, FirstIx n (fun i => Q (g i)) x ∧ Meets Try.prog 111 [.c (.d (.sl 7 n fun i => eTab (g i))), .c (.d (.fn F [c0]))] ⟨.one (.c (.d (eI x))), [none, none]⟩ := by
  obtain ⟨x, hx⟩ := firstIx_ex n fun i => Q (g i)
  refine ⟨x, hx, ?_⟩
  refine meets_of (H := []) (EX := EXA) ttok mixed Try.func111 rfl (by kernel_rfl) (by decide) ?_
  generalize hA : real = A
  generalize hM : MeetsB Try.prog = M
  cbv
  repeat' first
    | apply And.intro
    | exact True.intro
    | with_reducible rfl
    | exact same_of hA rfl
    | refine br_of hA (fun _ => ?_) (fun _ => ?_)
    | exact imp_of hA id
    | (refine imp_of hA ?_; subst hA; simp only [real, Bool.true_and]; exact id)
    | (refine ind_of hA ?_; decide +kernel)
  refine loop_of hA (α := { i : Nat // i ≤ n ∧ ∀ j, j < i → ¬ Q (g j) }) (fun x => stIxTab1 n g F c0 x.1) (fun x => n - x.1) ⟨0, Nat.zero_le _, fun j h => absurd h (Nat.not_lt_zero _)⟩ ?_ ?_
  · refine cov_of ?_ ?_ ?_
    · cbv; subst hA; exact ⟨rfl, rfl, trivial⟩
    · cbv
    · cbv
  rintro ⟨i, hi, hb⟩
  cbv
  repeat' first
    | apply And.intro
    | exact True.intro
    | with_reducible rfl
    | exact same_of hA rfl
    | refine br_of hA (fun _ => ?_) (fun _ => ?_)
    | exact imp_of hA id
    | (refine imp_of hA ?_; subst hA; simp only [real, Bool.true_and]; exact id)
    | (refine ind_of hA ?_; decide +kernel)
    | (refine inb_of hA fun _ => ?_; subst hA; simp only [real, decide_eq_true_eq, Int.ofNat_eq_natCast] at *; omega)
  · refine call_ex hA hM (hc (g (A.nat (Int.ofNat i)))) (fun b hbb => ?_)
    cbv
    repeat' first
      | apply And.intro
      | exact True.intro
      | with_reducible rfl
      | exact same_of hA rfl
      | refine br_of hA (fun _ => ?_) (fun _ => ?_)
      | exact imp_of hA id
      | (refine imp_of hA ?_; subst hA; simp only [real, Bool.true_and]; exact id)
      | (refine ind_of hA ?_; decide +kernel)
    · rename_i hlt ht
      subst hA
      simp only [real, decide_eq_true_eq, Int.ofNat_eq_natCast, Int.toNat_natCast] at *
      obtain rfl := firstIx_one hx (.at i (by omega) (hbb.1 ht) hb)
      rfl
    · rename_i hlt ht
      have hlt' : i < n := by subst hA; simp only [real, decide_eq_true_eq, Int.ofNat_eq_natCast] at hlt; omega
      refine ⟨⟨i + 1, by omega, fun j hj => ?_⟩, by simp only; omega, cov_of ?_ ?_ ?_⟩
      · by_cases e : j = i
        · subst e
          subst hA
          intro hq
          have := hbb.2 hq
          rw [ht] at this
          cases this
        · exact hb j (by omega)
      · cbv
        subst hA
        exact ⟨congrArg (fun x => DV.v (.int .i64 x)) (up64 hlt' hn), trivial⟩
      · cbv
      · cbv
  · subst hA
    simp only [real, decide_eq_false_iff_not, Int.ofNat_eq_natCast] at *
    obtain rfl := firstIx_one hx (.none fun j hj => hb j (by omega))
    rfl
theorem flat_tab {A : Ar} (hA : real = A) (n : Nat) (G : Nat → TabT) : A.flat n (fun i => eTab (G i)) := by
  subst hA
  intro i _ x hx
  simp only [eTab, List.mem_cons, List.not_mem_nil, or_false] at hx
  rcases hx with rfl | rfl | rfl | rfl | rfl | rfl | rfl <;> exact ⟨_, rfl⟩
def EXIT : FuncId → List Nat × Bool := fun f => (if f = 115 then [0, 2] else [], false)
theorem c_Put (l : List TabT) (n : Nat) (g : Nat → TabT) (hl : Lst zTab l n g) (hn : n ≤ 1090000) (r : TabT) (n1 : Nat) (G : Nat → TabT) (h1 : Lst zTab (tPut r l) n1 G) : Meets Try.prog 60 [.c (.d (.sl 7 n fun i => eTab (g i))), xd (eTab r)] ⟨.one (.c (.own 7 n1 fun i => eTab (G i))), [none, none]⟩ := by
  obtain ⟨n0, hn0⟩ : ∃ n0, n0 = (tOut r.key r.win l).length := ⟨_, rfl⟩
  obtain ⟨G0, hG0⟩ : ∃ G0 : Nat → TabT, G0 = fun k => (tOut r.key r.win l).getD k zTab := ⟨_, rfl⟩
  have h0 : Lst zTab (tOut r.key r.win l) n0 G0 := ⟨hn0, fun k _ => by rw [hG0]⟩
  have hn0n : n0 ≤ n := by rw [hn0, hl.1]; exact tOut_len _ _ _
  have hO := c_Out l n g hl (by omega) r.key r.win n0 G0 h0
  obtain ⟨x, hx, hX⟩ := c_IndexTab1 n0 (Nat.le_trans (show n0 ≤ 1090000 by omega) (by decide)) G0 113 (.p (eTab r)) (Ahead r) (fun s => c_Put1 s r)
  have hxx := firstIx_neg hx
  obtain ⟨i, hi⟩ : ∃ i : Nat, i = if 0 ≤ x then x.toNat else n0 := ⟨_, rfl⟩
  have hi2 : i ≤ n0 ∧ (∀ k, k < i → ¬ Ahead r (G0 k)) ∧ (i < n0 → Ahead r (G0 i)) ∧ (0 ≤ x → x = (i : Int)) ∧ (¬ 0 ≤ x → i = n0) := by
    by_cases h : 0 ≤ x
    · rw [if_pos h] at hi
      obtain ⟨q, hq1, hq2, hq3, hq4⟩ := hxx.2.1 h
      have e : i = q := by rw [hi, hq2]; rfl
      rw [e]
      exact ⟨by omega, hq4, fun _ => hq3, fun _ => hq2, fun hc => absurd h hc⟩
    · rw [if_neg h] at hi
      rw [hi]
      refine ⟨Nat.le_refl _, fun k hk ha => h (hxx.1.2 ⟨k, hk, ha⟩), fun hc => absurd hc (Nat.lt_irrefl _), fun hc => absurd hc h, fun _ => rfl⟩
  obtain ⟨hi0, ha, hb, hx1, hx2⟩ := hi2
  obtain ⟨e1, hG⟩ := tIns_lst h0 h1 hi0 ha hb
  have hIn : ∀ row1 : Nat → List DV, row1 0 = eTab r → Meets Try.prog 115 [.c (.own 7 n0 fun k => eTab (G0 k)), .c (.d (eI i)), .c (.own 7 1 row1)] ⟨.one (.c (.own 7 n1 fun k => eTab (G k))), [none, none, none]⟩ := fun row1 hr1 => by
    rw [e1]
    refine TabI.c_Insert n0 i (by omega) hi0 _ row1 _ fun k hk => ?_
    show eTab (G k) = _
    rw [hG k hk]
    split
    · rfl
    · split
      · exact hr1.symm
      · rfl
  refine meets_of (H := []) (EX := EXIT) ttok mixed Try.func60 rfl (by kernel_rfl) (by decide) ?_
  generalize hA : real = A
  generalize hM : MeetsB Try.prog = M
  cbv
  repeat' first
    | apply And.intro
    | exact True.intro
    | with_reducible rfl
    | exact same_of hA rfl
    | refine br_of hA (fun _ => ?_) (fun _ => ?_)
    | exact imp_of hA id
    | (refine imp_of hA ?_; subst hA; simp only [real, Bool.true_and]; exact id)
    | (refine ind_of hA ?_; decide +kernel)
    | (refine call_of hA hM _ hO ?_; cbv)
    | exact flat_tab hA _ _
    | (refine call_of2 hA hM _ hX (congrArg (fun f => [XT.c (.d (.sl 7 n0 f)), XT.c (.d (.fn 113 [.p (eTab r)]))]) (sub0 hA fun i => eTab (G0 i))) ?_; cbv)
  · rename_i hneg
    have hin : i = n0 := hx2 (by subst hA; exact Int.not_le.2 (of_decide_eq_true (show decide (x < 0) = true from hneg)))
    refine call_of2 hA hM _ (hIn _ ?_) (congrArg (fun z => [XT.c (.own 7 n0 fun k => eTab (G0 k)), XT.c (.d (eI z)), XT.c (.own 7 1 (A.app 1 (A.rep (eTab r)) (A.rep (eTab zTab))))]) (show A.int n0 = (i : Int) by subst hA; rw [hin]; rfl)) ?_
    · subst hA; rfl
    cbv
    repeat' first
      | apply And.intro
      | exact True.intro
      | with_reducible rfl
      | exact same_of hA rfl
      | refine br_of hA (fun _ => ?_) (fun _ => ?_)
      | exact imp_of hA id
      | (refine imp_of hA ?_; subst hA; simp only [real, Bool.true_and]; exact id)
      | (refine ind_of hA ?_; decide +kernel)
  · rename_i hneg
    have hin : x = (i : Int) := hx1 (by subst hA; exact Int.not_lt.1 (of_decide_eq_false (show decide (x < 0) = false from hneg)))
    refine call_of2 hA hM _ (hIn _ ?_) (congrArg (fun z => [XT.c (.own 7 n0 fun k => eTab (G0 k)), XT.c (.d (eI z)), XT.c (.own 7 1 (A.app 1 (A.rep (eTab r)) (A.rep (eTab zTab))))]) hin) ?_
    · subst hA; rfl
    cbv
    repeat' first
      | apply And.intro
      | exact True.intro
      | with_reducible rfl
      | exact same_of hA rfl
      | refine br_of hA (fun _ => ?_) (fun _ => ?_)
      | exact imp_of hA id
      | (refine imp_of hA ?_; subst hA; simp only [real, Bool.true_and]; exact id)
      | (refine ind_of hA ?_; decide +kernel)
end Go.Rk
