/- The walk over this seat's functions, part 10: what each of them answers, at all data. -/
import Derived.Test.YtaceckhmclddeaaM1
import Derived.Test.YtaceckhmclddeaaM2
import Derived.Test.YtaceckhmclddeaaM3
import Derived.Test.YtaceckhmclddeaaM4
import Derived.Test.YtaceckhmclddeaaM5
import Derived.Test.YtaceckhmclddeaaM6
import Derived.Test.YtaceckhmclddeaaM7
import Derived.Test.YtaceckhmclddeaaM8
import Derived.Test.YtaceckhmclddeaaM9
/- Sessions, records and marks leave an operator ok. -/
namespace Go.Rk
set_option linter.unusedSimpArgs false
set_option linter.unusedVariables false
theorem span_s : ∀ (l : List RowT) (w : WinT), (spanL w l).s = w.s ∨ ∃ r, r ∈ l ∧ (spanL w l).s = r.win.s
  | [], w => .inl rfl
  | r :: l, w => by
    have e : spanL w (r :: l) = spanL (winSpan w r.win) l := rfl
    rw [e]
    rcases span_s l (winSpan w r.win) with h | ⟨q, hq, h⟩
    · rw [h]
      by_cases c : (winSpan w r.win).s = w.s
      · exact .inl c
      · refine .inr ⟨r, by simp, ?_⟩
        unfold winSpan at c ⊢
        simp only at c ⊢
        split at c <;> (try split) <;> first | omega | (exfalso; omega)
    · exact .inr ⟨q, List.mem_cons_of_mem _ hq, h⟩
theorem span_e : ∀ (l : List RowT) (w : WinT), (spanL w l).e = w.e ∨ ∃ r, r ∈ l ∧ (spanL w l).e = r.win.e
  | [], w => .inl rfl
  | r :: l, w => by
    have e : spanL w (r :: l) = spanL (winSpan w r.win) l := rfl
    rw [e]
    rcases span_e l (winSpan w r.win) with h | ⟨q, hq, h⟩
    · rw [h]
      by_cases c : (winSpan w r.win).e = w.e
      · exact .inl c
      · refine .inr ⟨r, by simp, ?_⟩
        unfold winSpan at c ⊢
        simp only at c ⊢
        split at c <;> (try split) <;> first | omega | (exfalso; omega)
    · exact .inr ⟨q, List.mem_cons_of_mem _ hq, h⟩
theorem pw_all {α : Type} {R : α → α → Prop} (hs : ∀ x y, R x y → R y x) (hr : ∀ x, R x x) : ∀ {l : List α}, l.Pairwise R → ∀ x, x ∈ l → ∀ y, y ∈ l → R x y
  | [], _, x, hx, _, _ => absurd hx (by simp)
  | a :: l, h, x, hx, y, hy => by
    rw [List.pairwise_cons] at h
    rcases List.mem_cons.1 hx with e | hx <;> rcases List.mem_cons.1 hy with f | hy
    · rw [e, f]; exact hr a
    · rw [e]; exact h.1 y hy
    · rw [f]; exact hs _ _ (h.1 x hx)
    · exact pw_all hs hr h.2 x hx y hy
theorem old_mem {k : Int} {w : WinT} {l : List RowT} {r : RowT} (h : r ∈ oldL k w l) : r ∈ l ∧ r.key = k ∧ TouchP r.win w := by
  unfold oldL at h
  rw [List.mem_filter] at h
  have h2 : decide (r.key = k ∧ (r.win.s < w.e ∧ w.s < r.win.e)) = true := h.2
  have h3 := of_decide_eq_true h2
  exact ⟨h.1, h3⟩
theorem rest_mem {k : Int} {w : WinT} {l : List RowT} {r : RowT} (h : r ∈ restL k w l) : r ∈ l ∧ ¬ (r.key = k ∧ TouchP r.win w) := by
  unfold restL at h
  rw [List.mem_filter] at h
  have h2 : (!decide (r.key = k ∧ (r.win.s < w.e ∧ w.s < r.win.e))) = true := h.2
  simp only [Bool.not_eq_true', decide_eq_false_iff_not] at h2
  exact ⟨h.1, h2⟩
theorem old_in {k : Int} {w : WinT} {l : List RowT} {r : RowT} (h : r ∈ l) (hk : r.key = k) (ht : TouchP r.win w) : r ∈ oldL k w l := by
  unfold oldL
  rw [List.mem_filter]
  exact ⟨h, by show decide (r.key = k ∧ (r.win.s < w.e ∧ w.s < r.win.e)) = true; exact decide_eq_true (show r.key = k ∧ (r.win.s < w.e ∧ w.s < r.win.e) from ⟨hk, ht⟩)⟩
theorem span_ok {j : JobT} {m k : Int} {w : WinT} {l : List RowT} (h : ∀ r, r ∈ l → RowOkP j r m) (hw : WinOkP w) : WinOkP (spanL w (oldL k w l)) := by
  have hi := span_in w (oldL k w l) w ⟨Int.le_refl _, Int.le_refl _⟩
  have hd := winOk_d hw
  have h1 : 0 ≤ (spanL w (oldL k w l)).s := by
    rcases span_s (oldL k w l) w with e | ⟨r, hr, e⟩
    · omega
    · have := winOk_d (h r (old_mem hr).1).2.1; omega
  have h2 : (spanL w (oldL k w l)).e ≤ 120 := by
    rcases span_e (oldL k w l) w with e | ⟨r, hr, e⟩
    · omega
    · have := winOk_d (h r (old_mem hr).1).2.1; omega
  exact winOk_of ⟨h1, by omega, by omega, h2⟩
/-- What did not touch a record touches not what became of it. -/
theorem rest_touch {j : JobT} {m k : Int} {w : WinT} {l : List RowT} (h : OkL j m l) (h3 : j.kind = 3) (hw : WinOkP w) {q : RowT} (hq : q ∈ l) (hqk : q.key = k) (hn : ¬ TouchP q.win w) : ¬ TouchP q.win (spanL w (oldL k w l)) := by
  intro ht
  have hall : ∀ x, x ∈ l → ∀ y, y ∈ l → (tchR k w x ≠ tchR k w y → ¬ (x.key = y.key ∧ TouchP x.win y.win)) := by
    refine pw_all (R := fun x y => tchR k w x ≠ tchR k w y → ¬ (x.key = y.key ∧ TouchP x.win y.win)) ?_ ?_ ?_
    · intro x y hxy hne hc
      exact hxy (fun e => hne e.symm) ⟨hc.1.symm, touch_sym hc.2⟩
    · intro x hne
      exact absurd rfl hne
    · exact List.Pairwise.imp (fun {a b} hxy (_ : tchR k w a ≠ tchR k w b) => hxy) (h.2.2 h3)
  have hno : ∀ o, o ∈ oldL k w l → ¬ TouchP q.win o.win := fun o ho hc => by
    obtain ⟨o1, o2, o3⟩ := old_mem ho
    refine hall q hq o o1 ?_ ⟨hqk.trans o2.symm, hc⟩
    have e1 : tchR k w q = false := by show decide (q.key = k ∧ (q.win.s < w.e ∧ w.s < q.win.e)) = false; exact decide_eq_false (fun hc : q.key = k ∧ (q.win.s < w.e ∧ w.s < q.win.e) => hn hc.2)
    have e2 : tchR k w o = true := by show decide (o.key = k ∧ (o.win.s < w.e ∧ w.s < o.win.e)) = true; exact decide_eq_true (show o.key = k ∧ (o.win.s < w.e ∧ w.s < o.win.e) from ⟨o2, o3⟩)
    rw [e1, e2]; simp
  have hd := winOk_d hw
  have hqd := winOk_d (h.1 q hq).2.1
  unfold TouchP at ht hn
  have hc : q.win.e ≤ w.s ∨ w.e ≤ q.win.s := by omega
  rcases hc with hc | hc
  · rcases span_s (oldL k w l) w with e | ⟨o, ho, e⟩
    · omega
    · have := (old_mem ho).2.2
      refine hno o ho ?_
      unfold TouchP at *
      omega
  · rcases span_e (oldL k w l) w with e | ⟨o, ho, e⟩
    · omega
    · have := (old_mem ho).2.2
      refine hno o ho ?_
      unfold TouchP at *
      omega
theorem sumN_nn {l : List RowT} (h : ∀ r, r ∈ l → 0 ≤ r.all.n) : 0 ≤ sumN l := by
  induction l with
  | nil => exact Int.le_refl _
  | cons r l ih =>
    have h1 := h r (by simp)
    have h2 := ih fun q hq => h q (List.mem_cons_of_mem _ hq)
    rw [sumN_cons]; omega
theorem sumN_mem {l : List RowT} (h : ∀ r, r ∈ l → 0 ≤ r.all.n) {r : RowT} (hr : r ∈ l) : r.all.n ≤ sumN l := by
  induction l with
  | nil => simp at hr
  | cons q l ih =>
    have h1 := h q (by simp)
    have h2 : ∀ x, x ∈ l → 0 ≤ x.all.n := fun x hx => h x (List.mem_cons_of_mem _ hx)
    have h3 := sumN_nn h2
    rw [sumN_cons]
    rcases List.mem_cons.1 hr with e | hr
    · rw [e]; omega
    · have := ih h2 hr; omega
theorem rowOk_n {j : JobT} {m : Int} {r : RowT} (h : RowOkP j r m) : 1 ≤ r.all.n ∧ r.all.n ≤ 1000 := by
  have h1 := aggOk_n h.2.2.1
  have h2 := h.2.2.2.2.1
  omega
theorem sess_ok {j : JobT} {m k v : Int} {w : WinT} {l : List RowT} {q : List RowT × List PaneT} {T : Int} (h : OkL j m l) (h3 : j.kind = 3) (hk : 0 ≤ k ∧ k ≤ 3) (hv : -9 ≤ v ∧ v ≤ 9) (hw : WinOkP w) (hS : sumN l ≤ 990) (hT : 0 ≤ T ∧ T ≤ 1499) (hb : ∀ r, r ∈ l → r.told ≤ T)
    (he : sessL j m k v w l = some q) : OkL j m q.1 ∧ (∀ r, r ∈ q.1 → r.told ≤ T + 1) ∧ ∀ p, p ∈ q.2 → PaneOkP p ∧ p.key = k := by
  have hnn : ∀ r, r ∈ l → 0 ≤ r.all.n := fun r hr => by have := rowOk_n (h.1 r hr); omega
  have hsp := span_ok (k := k) h.1 hw
  unfold sessL at he
  split at he
  · cases he
  · rename_i hm
    split at he
    · rename_i h1
      obtain ⟨o, ho⟩ : ∃ o, oldL k w l = [o] := by
        cases h : oldL k w l with
        | nil => rw [h] at h1; cases h1
        | cons a r => cases r with
          | nil => exact ⟨a, rfl⟩
          | cons _ _ => rw [h] at h1; cases h1
      have hno : j.kind = 3 → ∀ q, q ∈ l → ¬ IsR k (spanL w (oldL k w l)) q → q.key = k → ¬ TouchP q.win (spanL w (oldL k w l)) := fun _ q hq hn hqk => by
        by_cases ht : TouchP q.win w
        · have hq2 := old_in hq hqk ht
          rw [ho, List.mem_singleton] at hq2
          exfalso
          refine hn ⟨hqk, ?_⟩
          have h2 := h1
          rw [show oneB (spanL w (oldL k w l)) (oldL k w l) = oneB (spanL w (oldL k w l)) [o] by rw [ho]] at h2
          rw [hq2]
          exact of_decide_eq_true h2
        · exact rest_touch h h3 hw hq hqk ht
      obtain ⟨c1, c2, c3⟩ := into_ok (B := 990) h hk hv hsp (by omega) hT (fun r hr => ⟨Int.le_trans (sumN_mem hnn hr) hS, hb r hr⟩) hno he
      exact ⟨c1, fun r hr => (c2 r hr).2, c3⟩
    · cases he
      obtain ⟨a0, ha0⟩ : ∃ a0 : AggT, a0 = ((oldL k w l).map (·.all)).foldl aggB (agg1 v) := ⟨_, rfl⟩
      rw [← ha0]
      obtain ⟨r0, hr0⟩ : ∃ r0 : RowT, r0 = ⟨k, spanL w (oldL k w l), a0, a0, 0, false⟩ := ⟨_, rfl⟩
      rw [← hr0]
      have hsplit := sumN_split k w l
      have hrn : 0 ≤ sumN (restL k w l) := sumN_nn fun r hr => hnn r (rest_mem hr).1
      have hon : 0 ≤ sumN (oldL k w l) := sumN_nn fun r hr => hnn r (old_mem hr).1
      have hsum : sumI (((oldL k w l).map (·.all)).map (·.n)) = sumN (oldL k w l) := by rw [List.map_map]; rfl
      have hf := aggOk_fold ((oldL k w l).map (·.all)) (agg1 v) (aggOk_one hv) (fun b hb => by
        obtain ⟨r, hr, rfl⟩ := List.mem_map.1 hb
        exact (h.1 r (old_mem hr).1).2.2.1) (by rw [hsum]; show (1 : Int) + _ ≤ _; omega)
      rw [hsum, ← ha0] at hf
      have hn0 : a0.n = 1 + sumN (oldL k w l) := hf.2
      have hmm : m < w64 ((spanL w (oldL k w l)).e + j.late) := Int.not_le.1 hm
      have hr := tell_ok (j := j) (m := m) (r := r0) (by rw [hr0]; exact hk) (by rw [hr0]; exact hsp) (by rw [hr0]; exact hf.1) (by rw [hr0]; exact hf.1) (by rw [hr0]; show 1 ≤ a0.n; omega) (by rw [hr0]; exact Int.le_refl _) (by rw [hr0]; show (0 : Int) ≤ 0 ∧ (0 : Int) ≤ 1499; decide) (by rw [hr0]; exact hmm)
        (fun h => by rw [hr0] at h; cases h) (fun _ => by rw [hr0])
      obtain ⟨t1, t2, t3⟩ := tellS_all j m r0
      have ek : (tellS j m r0).1.key = k := by rw [t2, hr0]
      have ew : (tellS j m r0).1.win = spanL w (oldL k w l) := by rw [t3, hr0]
      have hrest : OkL j m (restL k w l) := ⟨fun r hr => h.1 r (rest_mem hr).1, rest_rise h.2.1, fun h3 => List.Pairwise.filter _ (h.2.2 h3)⟩
      refine ⟨put_ok hrest hr.1 fun _ q hq _ hqk => ?_, fun r hr => ?_, fun p hp => ?_⟩
      · rw [ew]
        rw [ek] at hqk
        exact rest_touch h h3 hw (rest_mem hq).1 hqk fun hc => (rest_mem hq).2 ⟨hqk, hc⟩
      · rcases mem_rPut.1 hr with rfl | ⟨hr, _⟩
        · unfold tellS
          split
          · rw [hr0]; show (0 : Int) ≤ T + 1; omega
          · rw [hr0]; show w64 (0 + 1) ≤ T + 1
            rw [w64_id (by omega)]; omega
        · have := hb r (rest_mem hr).1; omega
      · rcases List.mem_append.1 hp with hp | hp
        · unfold goneL at hp
          obtain ⟨r, hr, rfl⟩ := List.mem_map.1 hp
          rw [List.mem_filter] at hr
          have hto : 0 < r.told := of_decide_eq_true hr.2
          obtain ⟨o1, o2, _⟩ := old_mem hr.1
          have hro := h.1 r o1
          exact ⟨⟨hro.1, hro.2.1, hro.2.2.2.2.2.2.1, aggOk_z, .inr (.inr ⟨rfl, hto, rfl⟩)⟩, o2⟩
        · have := hr.2 p hp
          exact ⟨this.1, by rw [this.2, hr0]⟩
theorem takeW_ok {j : JobT} {m : Int} {x : ItmT} (hk : ¬ j.kind = 3) (hj : JobOkP j) (hx : RecP x) : ∀ (ws : List WinT) (l : List RowT) (a : List PaneT) (c : List LatT) (B T : Int), OkL j m l → (∀ w, w ∈ ws → WinOkP w) → 0 ≤ B → B + (ws.length : Int) ≤ 1000 → 0 ≤ T → T + (ws.length : Int) ≤ 1500 →
    (∀ r, r ∈ l → r.all.n ≤ B ∧ r.told ≤ T) → (∀ p, p ∈ a → PaneOkP p ∧ p.key = x.key) →
    OkL j m (ws.foldl (takeS j m x) (l, a, c)).1 ∧ (∀ r, r ∈ (ws.foldl (takeS j m x) (l, a, c)).1 → r.told ≤ T + (ws.length : Int)) ∧ ∀ p, p ∈ (ws.foldl (takeS j m x) (l, a, c)).2.1 → PaneOkP p ∧ p.key = x.key := by
  intro ws
  induction ws with
  | nil => intro l a c B T h _ _ _ _ _ hb hp; exact ⟨h, fun r hr => by have := (hb r hr).2; show r.told ≤ T + 0; omega, hp⟩
  | cons w ws ih =>
    intro l a c B T h hw hB hB2 hT hT2 hb hp
    have hg : ((w :: ws).length : Int) = (ws.length : Int) + 1 := rfl
    rw [hg] at hB2 hT2 ⊢
    rw [List.foldl_cons]
    have hws := fun u hu => hw u (List.mem_cons_of_mem _ hu)
    cases hq : stepT j m x w l with
    | none =>
      rw [takeS_none (a := (l, a, c)) hq]
      obtain ⟨c1, c2, c3⟩ := ih l a (c ++ [(⟨x, w⟩ : LatT)]) B T h hws hB (by omega) hT (by omega) hb hp
      exact ⟨c1, fun r hr => by have := c2 r hr; omega, c3⟩
    | some q =>
      rw [takeS_some (a := (l, a, c)) hq]
      have he := hq
      unfold stepT at he
      rw [if_neg hk] at he
      have hx2 := hx.2
      have hx1 := hx.1
      unfold ItmOkP at hx2
      obtain ⟨c1, c2, c3⟩ := into_ok (B := B) (T := T) h (by omega) (by omega) (hw w (by simp)) (by omega) (by omega) hb (fun h3 => absurd h3 hk) he
      obtain ⟨d1, d2, d3⟩ := ih q.1 (a ++ q.2) c (B + 1) (T + 1) c1 hws (by omega) (by omega) (by omega) (by omega) c2 (fun p hp' => by
        rcases List.mem_append.1 hp' with hp' | hp'
        · exact hp p hp'
        · exact c3 p hp')
      exact ⟨d1, fun r hr => by have := d2 r hr; omega, d3⟩
/-- Behind a record. -/
theorem take_ok {j : JobT} {s : OpStT} {x : ItmT} {T : Int} (hok : OpOkP j s) (hx : RecP x) (h280 : s.rows.n ≤ 280) (hS : sumN (rowsL s) ≤ 900) (hT : 0 ≤ T ∧ T ≤ 1400) (hb : ∀ r, r ∈ rowsL s → r.told ≤ T) :
    OkL j s.mark (opTakeL j s x).2.1 ∧ (∀ r, r ∈ (opTakeL j s x).2.1 → r.told ≤ T + 4) ∧ sumN (opTakeL j s x).2.1 ≤ sumN (rowsL s) + 4 ∧ ∀ p, p ∈ (opTakeL j s x).2.2.1 → PaneOkP p ∧ p.key = x.key := by
  have hsum := take_sum hok hx h280
  have hlen := winsL_len4 hok.1 (recP_t hx)
  have hol := okL_of hok
  have ht := recP_t hx
  have hxk : (0 ≤ x.key ∧ x.key ≤ 3) ∧ (-9 ≤ x.v ∧ x.v ≤ 9) := by
    have hx2 := hx.2
    have hx1 := hx.1
    unfold ItmOkP at hx2
    omega
  have hnn : ∀ r, r ∈ rowsL s → 0 ≤ r.all.n := fun r hr => by have := rowOk_n (hol.1 r hr); omega
  have key : OkL j s.mark (opTakeL j s x).2.1 ∧ (∀ r, r ∈ (opTakeL j s x).2.1 → r.told ≤ T + 4) ∧ ∀ p, p ∈ (opTakeL j s x).2.2.1 → PaneOkP p ∧ p.key = x.key := by
    unfold opTakeL
    rw [if_pos ⟨hok, hx, h280⟩]
    show OkL j s.mark (takeL j s.mark x (winsL j x.t) (rowsL s)).1 ∧ (∀ r, r ∈ (takeL j s.mark x (winsL j x.t) (rowsL s)).1 → r.told ≤ T + 4) ∧ ∀ p, p ∈ (takeL j s.mark x (winsL j x.t) (rowsL s)).2.1 → PaneOkP p ∧ p.key = x.key
    unfold takeL
    by_cases hk : j.kind = 3
    · have hj := hok.1
      have hwo := fun w hw => winsL_ok hj ht (w := w) hw
      have hj' := hj
      unfold JobOkP at hj
      rw [winsL_sess hk (by omega) ht.1 ht.2] at hwo ⊢
      rw [List.foldl_cons, List.foldl_nil]
      cases hq : stepT j s.mark x ⟨x.t, x.t + j.size⟩ (rowsL s) with
      | none =>
        rw [takeS_none (a := (rowsL s, [], [])) hq]
        exact ⟨hol, fun r hr => by have := hb r hr; omega, fun p hp => absurd hp (by simp)⟩
      | some q =>
        rw [takeS_some (a := (rowsL s, [], [])) hq]
        have he := hq
        unfold stepT at he
        rw [if_pos hk] at he
        obtain ⟨c1, c2, c3⟩ := sess_ok (T := T) hol hk hxk.1 hxk.2 (hwo _ (by simp)) (by omega) (by omega) hb he
        exact ⟨c1, fun r hr => by have := c2 r hr; omega, fun p hp => c3 p (by simpa using hp)⟩
    · have h := takeW_ok hk hok.1 hx (m := s.mark) (winsL j x.t) (rowsL s) [] [] 900 T hol (fun w hw => winsL_ok hok.1 ht hw) (by omega) (by omega) hT.1 (by omega) (fun r hr => ⟨Int.le_trans (sumN_mem hnn hr) hS, hb r hr⟩) (fun p hp => absurd hp (by simp))
      exact ⟨h.1, fun r hr => by have := h.2.1 r hr; omega, h.2.2⟩
  exact ⟨key.1, key.2.1, by omega, key.2.2⟩
end Go.Rk
/- A mark leaves an operator ok; what a mark tells; two marks. -/
namespace Go.Rk
set_option linter.unusedSimpArgs false
set_option linter.unusedVariables false
theorem markR_all (m : Int) (r : RowT) : (markR m r).all = r.all ∧ (markR m r).key = r.key ∧ (markR m r).win = r.win := by
  unfold markR; split <;> exact ⟨rfl, rfl, rfl⟩
def markL (j : JobT) (mk : Int) (l : List RowT) (m : Int) : Int × List RowT × List PaneT :=
  if m ≤ mk then (mk, l, []) else (m, keepL j.late m l, tellL j.piece m l)
theorem opMarkL_L {j : JobT} {s : OpStT} {m : Int} (hok : OpOkP j s) (hm : 0 ≤ m ∧ m ≤ 1000) : opMarkL j s m = markL j s.mark (rowsL s) m := by
  unfold opMarkL markL
  rw [if_neg (fun h => h ⟨hok, hm⟩)]
  split
  · rfl
  · have e : keepN (fun i => markR m (s.rows.g i)) (overB j.late m) s.rows.n = keepL j.late m (rowsL s) := by
      unfold keepN keepL rowsL
      rw [List.map_map]; rfl
    rw [e]; rfl
theorem opMarkL_bad {j : JobT} {s : OpStT} {m : Int} (h : ¬ (OpOkP j s ∧ (0 ≤ m ∧ m ≤ 1000))) : opMarkL j s m = (0, [], []) := by
  unfold opMarkL; rw [if_pos h]
theorem untold_zero {j : JobT} {r : RowT} {m : Int} (h : RowOkP j r m) (ht : r.timely = false) : r.told = 0 := by
  obtain ⟨_, _, _, _, _, _, a4, _, a5, a6, _⟩ := h
  have h9 : ¬ r.win.e ≤ m := fun h2 => by have := a5.2 h2; rw [ht] at this; cases this
  have : ¬ 0 < r.told := fun h2 => h9 (a6.1 h2)
  omega
theorem due_iff {m : Int} {r : RowT} : dueB m r = true ↔ r.timely = false ∧ r.win.e ≤ m := by
  unfold dueB
  simp
theorem mark_row_ok {j : JobT} {r : RowT} {m0 m : Int} (h : RowOkP j r m0) (hm : m0 < m) (ho : overB j.late m r = false) : RowOkP j (markR m r) m ∧ (markR m r).told ≤ r.told + 1 := by
  have ho' : m < w64 (r.win.e + j.late) := by
    unfold overB at ho
    have := of_decide_eq_false ho
    omega
  have h' := h
  obtain ⟨b1, b2, b3, b4, b5, b6, a4, a7, a5, a6, a8⟩ := h
  unfold markR
  cases hd : dueB m r with
  | true =>
    rw [if_pos rfl]
    obtain ⟨d1, d2⟩ := due_iff.1 hd
    have h0 := untold_zero h' d1
    have et : w64 (r.told + 1) = 1 := by rw [h0]; exact w64_id (by omega)
    refine ⟨⟨b1, b2, b3, aggOk_z, b5, ?_, ?_, ho', ?_, ?_, ?_⟩, ?_⟩
    · show (0 : Int) ≤ r.all.n
      exact (aggOk_n b3).1
    · show 0 ≤ w64 (r.told + 1) ∧ w64 (r.told + 1) ≤ 1500
      rw [et]; omega
    · show true = true ↔ r.win.e ≤ m
      exact ⟨fun _ => d2, fun _ => rfl⟩
    · show 0 < w64 (r.told + 1) ↔ r.win.e ≤ m
      rw [et]; exact ⟨fun _ => d2, fun _ => by decide⟩
    · show (0 : Int) = 0 ↔ r.win.e ≤ m
      exact ⟨fun _ => d2, fun _ => rfl⟩
    · show w64 (r.told + 1) ≤ r.told + 1
      rw [et]; omega
  | false =>
    rw [if_neg (by simp)]
    have hn : r.win.e ≤ m0 ↔ r.win.e ≤ m := by
      constructor
      · intro h; omega
      · intro h
        refine a5.1 ?_
        cases ht : r.timely with
        | true => rfl
        | false => rw [due_iff.2 ⟨ht, h⟩] at hd; cases hd
    refine ⟨⟨b1, b2, b3, b4, b5, b6, a4, ho', a5.trans hn, a6.trans hn, a8.trans hn⟩, by omega⟩
theorem keepL_mem {late m : Int} {l : List RowT} {r : RowT} : r ∈ keepL late m l ↔ ∃ q, q ∈ l ∧ overB late m q = false ∧ r = markR m q := by
  unfold keepL
  rw [List.mem_filter, List.mem_map]
  constructor
  · rintro ⟨⟨q, hq, rfl⟩, h2⟩
    rw [overB_mark] at h2
    exact ⟨q, hq, by simpa using h2, rfl⟩
  · rintro ⟨q, hq, h, rfl⟩
    exact ⟨⟨q, hq, rfl⟩, by rw [overB_mark, h]; rfl⟩
theorem mark_okL {j : JobT} {mk m T : Int} {l : List RowT} (h : OkL j mk l) (hm : mk < m) (hb : ∀ r, r ∈ l → r.told ≤ T) : OkL j m (keepL j.late m l) ∧ (∀ r, r ∈ keepL j.late m l → r.told ≤ T + 1) := by
  have hpw : ∀ {S : RowT → RowT → Prop}, (∀ a b, S a b → S (markR m a) (markR m b)) → l.Pairwise S → (keepL j.late m l).Pairwise S := fun {S} hs hp => by
    unfold keepL
    refine List.Pairwise.filter _ ?_
    rw [List.pairwise_map]
    exact List.Pairwise.imp (fun {a b} hab => hs a b hab) hp
  refine ⟨⟨fun r hr => ?_, ?_, fun h3 => ?_⟩, fun r hr => ?_⟩
  · obtain ⟨q, hq, ho, rfl⟩ := keepL_mem.1 hr
    exact (mark_row_ok (h.1 q hq) hm ho).1
  · refine hpw (fun a b hab => ?_) h.2.1
    unfold RA at *
    rw [(markR_all m a).2.1, (markR_all m a).2.2, (markR_all m b).2.1, (markR_all m b).2.2]
    exact hab
  · refine hpw (fun a b hab => ?_) (h.2.2 h3)
    rw [(markR_all m a).2.1, (markR_all m a).2.2, (markR_all m b).2.1, (markR_all m b).2.2]
    exact hab
  · obtain ⟨q, hq, ho, rfl⟩ := keepL_mem.1 hr
    have := (mark_row_ok (h.1 q hq) hm ho).2
    have := hb q hq
    omega
theorem tell_pane_ok {j : JobT} {mk m : Int} {l : List RowT} (h : ∀ r, r ∈ l → RowOkP j r mk) {p : PaneT} (hp : p ∈ tellL j.piece m l) : PaneOkP p := by
  unfold tellL at hp
  obtain ⟨r, hr, rfl⟩ := List.mem_map.1 hp
  rw [List.mem_filter] at hr
  have hro := h r hr.1
  obtain ⟨d1, d2⟩ := due_iff.1 hr.2
  have h0 := untold_zero hro d1
  obtain ⟨b1, b2, b3, b4, b5, b6, a4, a7, a5, a6, a8⟩ := hro
  have n3 := aggOk_n b3
  have n4 := aggOk_n b4
  have hne : ¬ r.win.e ≤ mk := fun h2 => by have := a5.2 h2; rw [d1] at this; cases this
  have hf : r.fresh.n ≠ 0 := fun h2 => hne (a8.1 h2)
  refine ⟨b1, b2, a4, ?_, .inl ⟨rfl, h0, ?_⟩⟩
  · show AggOkP (if j.piece = true then r.fresh else r.all)
    split
    · exact b4
    · exact b3
  · show 0 < (if j.piece = true then r.fresh else r.all).n
    split <;> omega
theorem sumN_keep (late m : Int) : ∀ (l : List RowT), (∀ r, r ∈ l → 0 ≤ r.all.n) → sumN (keepL late m l) ≤ sumN l
  | [], _ => Int.le_refl _
  | r :: l, h => by
    have h1 := h r (by simp)
    have ih := sumN_keep late m l fun q hq => h q (List.mem_cons_of_mem _ hq)
    have e : keepL late m (r :: l) = if overB late m r = true then keepL late m l else markR m r :: keepL late m l := by
      unfold keepL
      rw [List.map_cons, List.filter_cons, overB_mark]
      cases overB late m r <;> simp
    rw [e, sumN_cons]
    split
    · omega
    · rw [sumN_cons, (markR_all m r).1]; omega
/-- Behind a mark. -/
theorem mark_ok {j : JobT} {s : OpStT} {m T : Int} (hok : OpOkP j s) (hm : 0 ≤ m ∧ m ≤ 1000) (hT : 0 ≤ T) (hb : ∀ r, r ∈ rowsL s → r.told ≤ T) :
    s.mark ≤ (opMarkL j s m).1 ∧ (opMarkL j s m).1 ≤ 1000 ∧ OkL j (opMarkL j s m).1 (opMarkL j s m).2.1 ∧ (∀ r, r ∈ (opMarkL j s m).2.1 → r.told ≤ T + 1) ∧ sumN (opMarkL j s m).2.1 ≤ sumN (rowsL s) ∧ ∀ p, p ∈ (opMarkL j s m).2.2 → PaneOkP p := by
  rw [opMarkL_L hok hm]
  have hol := okL_of hok
  have hmk := hok.2.1
  unfold markL
  split
  · exact ⟨Int.le_refl _, hmk.2, hol, fun r hr => by have := hb r hr; omega, Int.le_refl _, fun p hp => absurd hp (by simp)⟩
  · have h := mark_okL hol (m := m) (by omega) hb
    refine ⟨by show s.mark ≤ m; omega, hm.2, h.1, h.2, sumN_keep _ _ _ fun r hr => ?_, fun p hp => tell_pane_ok hol.1 hp⟩
    have := rowOk_n (hol.1 r hr); omega
theorem rfind_in {k : Int} {w : WinT} {l : List RowT} {r : RowT} (h : RiseR l) (hr : r ∈ l) (hk : IsR k w r) : rFind k w l = some r := by
  induction l with
  | nil => simp at hr
  | cons q l ih =>
    rw [RiseR, List.pairwise_cons] at h
    have e : rFind k w (q :: l) = if IsR k w q then some q else rFind k w l := by
      unfold rFind
      rw [List.find?_cons]
      by_cases hq : IsR k w q
      · rw [decide_eq_true hq, if_pos hq]
      · rw [decide_eq_false hq, if_neg hq]
    rw [e]
    rcases List.mem_cons.1 hr with e1 | hr
    · rw [← e1, if_pos hk]
    · rw [if_neg (fun hq => ra_ne (h.1 r hr) hq hk), ih h.2 hr]
theorem tellN_at {piece : Bool} {m : Int} {g : Nat → RowT} {i : Nat} (hd : dueB m (g i) = true) : ∀ n, i < n → (tellN piece m g n)[(tellN piece m g i).length]? = some (paneP piece (g i) 1)
  | 0, h => absurd h (Nat.not_lt_zero i)
  | n + 1, h => by
    rw [tellN_succ]
    by_cases e : i = n
    · subst e
      rw [List.getElem?_append_right (Nat.le_refl _), Nat.sub_self, if_pos hd]; rfl
    · have ih := tellN_at (piece := piece) hd n (by omega)
      have hl := (List.getElem?_eq_some_iff.1 ih).1
      rw [List.getElem?_append_left hl]
      exact ih
/-- What a mark tells and leaves, place by place. -/
theorem mark_told (j : JobT) (s : OpStT) (m : Int) (x : Int × List RowT × List PaneT) (hx : x = opMarkL j s m) (hs : s.rows.n ≤ 280) : ∃ (k : Nat) (G : Nat → RowT) (c : Nat) (P : Nat → PaneT), Lst zRow x.2.1 k G ∧ Lst zPan x.2.2 c P ∧ k ≤ 280 ∧ c ≤ 280 ∧
    (¬ (OpOkP j s ∧ (0 ≤ m ∧ m ≤ 1000)) → x.1 = 0 ∧ k = 0 ∧ c = 0) ∧
    (OpOkP j s → (0 ≤ m ∧ m ≤ 1000) → m ≤ s.mark → x.1 = s.mark ∧ k = s.rows.n ∧ G = s.rows.g ∧ c = 0) ∧
    (OpOkP j s → (0 ≤ m ∧ m ≤ 1000) → s.mark < m → ∃ (nt nk : Nat → Nat), nt 0 = 0 ∧ nk 0 = 0 ∧ nt s.rows.n = c ∧ nk s.rows.n = k ∧ (∀ i, nt i ≤ i ∧ nk i ≤ i) ∧ ∀ i, i < s.rows.n →
      (dueB m (s.rows.g i) = true → nt i < c ∧ nt (i + 1) = nt i + 1 ∧ (P (nt i)).kind = 1 ∧ (P (nt i)).key = (s.rows.g i).key ∧ (P (nt i)).win = (s.rows.g i).win ∧ (P (nt i)).no = 0) ∧
      (dueB m (s.rows.g i) = false → nt (i + 1) = nt i) ∧
      (overB j.late m (s.rows.g i) = false → nk (i + 1) = nk i + 1 ∧ ∃ r, rFind (s.rows.g i).key (s.rows.g i).win x.2.1 = some r ∧ r.all = (s.rows.g i).all) ∧
      (overB j.late m (s.rows.g i) = true → nk (i + 1) = nk i)) := by
  have hlen := opMarkL_len j s m
  rw [← hx] at hlen
  obtain ⟨c, P, hP⟩ := lst_ex zPan x.2.2
  by_cases hc : OpOkP j s ∧ (0 ≤ m ∧ m ≤ 1000)
  · by_cases hle : m ≤ s.mark
    · have e : x = (s.mark, rowsL s, []) := by
        rw [hx, opMarkL_L hc.1 hc.2]; unfold markL; rw [if_pos hle]
      refine ⟨s.rows.n, s.rows.g, c, P, ?_, hP, hs, by rw [hP.1]; omega, fun h => absurd hc h, fun _ _ _ => ⟨by rw [e], rfl, rfl, by rw [hP.1, e]; rfl⟩, fun _ _ h => absurd hle (by omega)⟩
      rw [e]
      exact lst_of zRow s.rows.n s.rows.g
    · obtain ⟨k, G, hG⟩ := lst_ex zRow x.2.1
      have e0 : x = markL j s.mark (rowsL s) m := by rw [hx, opMarkL_L hc.1 hc.2]
      have e : x = (m, keepN (fun i => markR m (s.rows.g i)) (overB j.late m) s.rows.n, tellN j.piece m s.rows.g s.rows.n) := by
        rw [hx]; unfold opMarkL
        rw [if_neg (fun h => h hc), if_neg hle]
      have hol := okL_of hc.1
      have hrise : RiseR x.2.1 := by
        rw [e0]; unfold markL; rw [if_neg hle]
        exact (mark_okL (T := 1500) hol (by omega) fun r hr => (hol.1 r hr).2.2.2.2.2.2.1.2).1.2.1
      refine ⟨k, G, c, P, hG, hP, by rw [hG.1]; omega, by rw [hP.1]; omega, fun h => absurd hc h, fun _ _ h => absurd h hle, fun _ _ _ => ⟨fun i => (tellN j.piece m s.rows.g i).length, fun i => (keepN (fun i => markR m (s.rows.g i)) (overB j.late m) i).length, rfl, rfl, by rw [hP.1, e], by rw [hG.1, e], fun i => ⟨tellN_len _ _ _ _, keepN_len _ _ _⟩, fun i hi => ⟨fun hd => ?_, fun hd => ?_, fun ho => ⟨?_, ?_⟩, fun ho => ?_⟩⟩⟩
      · have h1 := tellN_at (piece := j.piece) hd s.rows.n hi
        have h2 : x.2.2[(tellN j.piece m s.rows.g i).length]? = some (paneP j.piece (s.rows.g i) 1) := by rw [e]; exact h1
        obtain ⟨h3, h4⟩ := lst_get hP h2
        refine ⟨h3, ?_, ?_⟩
        · show (tellN j.piece m s.rows.g (i + 1)).length = _
          rw [tellN_succ, if_pos hd, List.length_append]; rfl
        · show (P (tellN j.piece m s.rows.g i).length).kind = 1 ∧ (P (tellN j.piece m s.rows.g i).length).key = _ ∧ (P (tellN j.piece m s.rows.g i).length).win = _ ∧ (P (tellN j.piece m s.rows.g i).length).no = 0
          rw [h4]
          refine ⟨rfl, rfl, rfl, ?_⟩
          exact untold_zero (hc.1.2.2.2 i hi).1 (due_iff.1 hd).1
      · show (tellN j.piece m s.rows.g (i + 1)).length = _
        rw [tellN_succ, hd, List.length_append]; rfl
      · show (keepN (fun i => markR m (s.rows.g i)) (overB j.late m) (i + 1)).length = _
        rw [keepN_succ, overB_mark, ho, List.length_append]; rfl
      · have hm : markR m (s.rows.g i) ∈ x.2.1 := by
          rw [e0]; unfold markL; rw [if_neg hle]
          exact keepL_mem.2 ⟨_, List.mem_map.2 ⟨i, List.mem_range.2 hi, rfl⟩, ho, rfl⟩
        obtain ⟨a1, a2, a3⟩ := markR_all m (s.rows.g i)
        exact ⟨_, rfind_in hrise hm ⟨a2, by rw [a3], by rw [a3]⟩, a1⟩
      · show (keepN (fun i => markR m (s.rows.g i)) (overB j.late m) (i + 1)).length = _
        rw [keepN_succ, overB_mark, ho, List.length_append]; rfl
  · obtain ⟨k, G, hG⟩ := lst_ex zRow x.2.1
    have e : x = (0, [], []) := by rw [hx]; exact opMarkL_bad hc
    exact ⟨k, G, c, P, hG, hP, by rw [hG.1]; omega, by rw [hP.1]; omega, fun _ => ⟨by rw [e], by rw [hG.1, e]; rfl, by rw [hP.1, e]; rfl⟩, fun h1 h2 => absurd ⟨h1, h2⟩ hc, fun h1 h2 => absurd ⟨h1, h2⟩ hc⟩
end Go.Rk
/- Two marks are the later one. -/
namespace Go.Rk
set_option linter.unusedSimpArgs false
set_option linter.unusedVariables false
theorem keepL_cons (late m : Int) (r : RowT) (l : List RowT) : keepL late m (r :: l) = if overB late m r = true then keepL late m l else markR m r :: keepL late m l := by
  unfold keepL
  rw [List.map_cons, List.filter_cons, overB_mark]
  cases overB late m r <;> simp
theorem tellL_cons (piece : Bool) (m : Int) (r : RowT) (l : List RowT) : tellL piece m (r :: l) = if dueB m r = true then paneP piece r 1 :: tellL piece m l else tellL piece m l := by
  unfold tellL
  rw [List.filter_cons]
  cases dueB m r <;> simp
theorem due_not {m : Int} {r : RowT} (h : dueB m r = true) (m' : Int) : dueB m' (markR m r) = false := by
  unfold markR; rw [if_pos h]; rfl
theorem mark_twice {j : JobT} (hj : JobOkP j) {mk m : Int} (hm : m < 1000) : ∀ {l : List RowT}, (∀ r, r ∈ l → RowOkP j r mk) → mk < m →
    keepL j.late (m + 1) (keepL j.late m l) = keepL j.late (m + 1) l ∧ (tellL j.piece m l ++ tellL j.piece (m + 1) (keepL j.late m l)).Perm (tellL j.piece (m + 1) l)
  | [], _, _ => ⟨rfl, .nil⟩
  | r :: l, h, hk => by
    have ih := mark_twice hj hm (fun q hq => h q (List.mem_cons_of_mem _ hq)) hk
    have hr := h r (by simp)
    have hw := winOk_d hr.2.1
    have hlw := late_w hj hr.2.1
    have hj2 : 0 ≤ j.late := by unfold JobOkP at hj; omega
    have hov : ∀ n, overB j.late n r = decide (r.win.e + j.late ≤ n) := fun n => by unfold overB; rw [hlw]
    cases hd : dueB m r with
    | true =>
      obtain ⟨d1, d2⟩ := due_iff.1 hd
      have hd2 : dueB (m + 1) r = true := due_iff.2 ⟨d1, by omega⟩
      have e1 : markR m r = toldR r := by unfold markR; rw [if_pos hd]
      have e2 : markR (m + 1) r = toldR r := by unfold markR; rw [if_pos hd2]
      have e3 : markR (m + 1) (toldR r) = toldR r := by rw [← e1]; unfold markR; rw [if_pos hd]; rfl
      have e4 : overB j.late (m + 1) (toldR r) = overB j.late (m + 1) r := rfl
      rw [keepL_cons, keepL_cons j.late (m + 1), tellL_cons, tellL_cons j.piece (m + 1), if_pos hd, if_pos hd2, e1, e2]
      by_cases ho : r.win.e + j.late ≤ m
      · rw [hov m, hov (m + 1), if_pos (decide_eq_true ho), if_pos (decide_eq_true (show r.win.e + j.late ≤ m + 1 by omega))]
        exact ⟨ih.1, .cons _ ih.2⟩
      · rw [hov m, if_neg (by rw [decide_eq_false ho]; simp), keepL_cons, tellL_cons, e4, hov (m + 1), e3, if_neg (show ¬ dueB (m + 1) (toldR r) = true by intro hc; cases hc)]
        refine ⟨?_, .cons _ ih.2⟩
        rw [ih.1]
    | false =>
      have e1 : markR m r = r := by unfold markR; rw [if_neg (by rw [hd]; simp)]
      rw [keepL_cons, keepL_cons j.late (m + 1), tellL_cons, tellL_cons j.piece (m + 1), e1, if_neg (show ¬ dueB m r = true by rw [hd]; simp)]
      by_cases ho : r.win.e + j.late ≤ m
      · have hd2 : dueB (m + 1) r = false := by
          cases hc : dueB (m + 1) r with
          | false => rfl
          | true =>
            obtain ⟨d1, d2⟩ := due_iff.1 hc
            rw [due_iff.2 ⟨d1, by omega⟩] at hd; cases hd
        rw [hov m, hov (m + 1), if_pos (decide_eq_true ho), if_pos (decide_eq_true (show r.win.e + j.late ≤ m + 1 by omega)), if_neg (show ¬ dueB (m + 1) r = true by rw [hd2]; simp)]
        exact ih
      · rw [hov m, if_neg (by rw [decide_eq_false ho]; simp), keepL_cons, tellL_cons]
        refine ⟨by rw [ih.1], ?_⟩
        cases dueB (m + 1) r with
        | true => exact List.perm_middle.trans (.cons _ ih.2)
        | false => exact ih.2
def paneSame (p q : PaneT) : Prop := p.key = q.key ∧ (p.win.s = q.win.s ∧ p.win.e = q.win.e)
theorem pane_sym {p q : PaneT} (h : ¬ paneSame p q) : ¬ paneSame q p := fun hc => h ⟨hc.1.symm, hc.2.1.symm, hc.2.2.symm⟩
def paneTab (p : PaneT) : TabT := ⟨p.key, p.win, p.agg⟩
/-- What panes of windows, each told once, tell. -/
theorem of_once (piece : Bool) : ∀ (l : List PaneT), (∀ p, p ∈ l → p.kind = 1) → l.Pairwise (fun p q => ¬ paneSame p q) → Rise (ofL piece l) ∧ ∀ t, t ∈ ofL piece l ↔ ∃ p, p ∈ l ∧ t = paneTab p := by
  refine snocInd (fun _ _ => ⟨List.Pairwise.nil, fun t => by simp [ofL]⟩) fun l p ih h1 h2 => ?_
  rw [List.pairwise_append] at h2
  obtain ⟨i1, i2⟩ := ih (fun q hq => h1 q (List.mem_append_left _ hq)) h2.1
  have hno : ∀ t, t ∈ ofL piece l → ¬ IsRow p.key p.win t := fun t ht hc => by
    obtain ⟨q, hq, rfl⟩ := (i2 t).1 ht
    exact h2.2.2 q hq p (by simp) hc
  have hk : ¬ p.kind = 3 := by rw [h1 p (by simp)]; decide
  have hf : tFind p.key p.win (ofL piece l) = none := by
    cases hc : tFind p.key p.win (ofL piece l) with
    | none => rfl
    | some a =>
      obtain ⟨r, hr, he, _⟩ := tFind_some hc
      exact absurd he (hno r hr)
  have ha : ofAgg piece (ofL piece l) p = p.agg := by
    unfold ofAgg
    split
    · rw [hf]; rfl
    · rfl
  have e : ofL piece (l ++ [p]) = tPut (paneTab p) (ofL piece l) := by
    rw [ofL_snoc]; unfold ofStep; rw [if_neg hk, ha]; rfl
  rw [e]
  refine ⟨rise_tPut i1, fun t => ?_⟩
  rw [mem_tPut]
  constructor
  · rintro (rfl | ⟨ht, _⟩)
    · exact ⟨p, by simp, rfl⟩
    · obtain ⟨q, hq, rfl⟩ := (i2 t).1 ht
      exact ⟨q, List.mem_append_left _ hq, rfl⟩
  · rintro ⟨q, hq, rfl⟩
    rcases List.mem_append.1 hq with hq | hq
    · exact .inr ⟨(i2 _).2 ⟨q, hq, rfl⟩, hno _ ((i2 _).2 ⟨q, hq, rfl⟩)⟩
    · rw [List.mem_singleton] at hq
      exact .inl (by rw [hq])
theorem of_perm {piece : Bool} {l l' : List PaneT} (hp : l.Perm l') (h1 : ∀ p, p ∈ l' → p.kind = 1) (h2 : l'.Pairwise (fun p q => ¬ paneSame p q)) : ofL piece l = ofL piece l' := by
  obtain ⟨a1, a2⟩ := of_once piece l (fun p hq => h1 p (hp.mem_iff.1 hq)) ((hp.pairwise_iff (fun {a b} h => pane_sym h)).2 h2)
  obtain ⟨b1, b2⟩ := of_once piece l' h1 h2
  refine sorted_ext ahead_irr ahead_tr a1 b1 fun t => ?_
  rw [a2, b2]
  exact ⟨fun ⟨p, hq, e⟩ => ⟨p, hp.mem_iff.1 hq, e⟩, fun ⟨p, hq, e⟩ => ⟨p, hp.mem_iff.2 hq, e⟩⟩
theorem tell_once {piece : Bool} {m : Int} {l : List RowT} (h : RiseR l) : (∀ p, p ∈ tellL piece m l → p.kind = 1) ∧ (tellL piece m l).Pairwise (fun p q => ¬ paneSame p q) := by
  refine ⟨fun p hp => ?_, ?_⟩
  · unfold tellL at hp
    obtain ⟨r, _, rfl⟩ := List.mem_map.1 hp
    rfl
  · unfold tellL
    rw [List.pairwise_map]
    refine List.Pairwise.imp (fun {a b} hab hc => ?_) (List.Pairwise.filter _ h)
    exact ra_ne hab ⟨rfl, rfl, rfl⟩ ⟨hc.1.symm, hc.2.1.symm, hc.2.2.symm⟩
/-- FnOpMarks in plain words. -/
theorem marks_two {j : JobT} {s : OpStT} {m : Int} {x z v : Int × List RowT × List PaneT} {k : Nat} {G : Nat → RowT} (hok : OpOkP j s) (hm : 0 ≤ m ∧ m < 1000) (hx : x = opMarkL j s m) (hG : Lst zRow x.2.1 k G) (hkL : k ≤ maxLen)
    (hz : z = opMarkL j ⟨x.1, ⟨k, G, hkL⟩⟩ (m + 1)) (hv : v = opMarkL j s (m + 1)) : z.1 = v.1 ∧ z.2.1 = v.2.1 ∧ x.2.2.length + z.2.2.length = v.2.2.length ∧ ofL j.piece (x.2.2 ++ z.2.2) = ofL j.piece v.2.2 := by
  have hol := okL_of hok
  have hb : ∀ r, r ∈ rowsL s → r.told ≤ 1500 := fun r hr => (hol.1 r hr).2.2.2.2.2.2.1.2
  have hmk := mark_ok (T := 1500) hok (show 0 ≤ m ∧ m ≤ 1000 by omega) (by decide) hb
  have hlen := (opMarkL_len j s m).1
  rw [← hx] at hmk hlen
  have h300 := hok.2.2.1
  have hmk0 := hok.2.1
  have hok2 : OpOkP j ⟨x.1, ⟨k, G, hkL⟩⟩ := ok_of hG hkL hok.1 (by omega) (by rw [hG.1]; omega) hmk.2.2.1
  rw [opMarkL_L hok2 (by omega), rowsL_lst hG hkL] at hz
  rw [opMarkL_L hok (by omega)] at hv hx
  have hz : z = markL j x.1 x.2.1 (m + 1) := hz
  by_cases hle : m ≤ s.mark
  · have e : x = (s.mark, rowsL s, []) := by rw [hx]; unfold markL; rw [if_pos hle]
    have ez : z = v := by rw [hz, e, hv]
    rw [ez, e]
    exact ⟨rfl, rfl, by simp, rfl⟩
  · have e : x = (m, keepL j.late m (rowsL s), tellL j.piece m (rowsL s)) := by rw [hx]; unfold markL; rw [if_neg hle]
    have ez : z = (m + 1, keepL j.late (m + 1) (keepL j.late m (rowsL s)), tellL j.piece (m + 1) (keepL j.late m (rowsL s))) := by rw [hz, e]; unfold markL; rw [if_neg (by show ¬ m + 1 ≤ m; omega)]
    have ev : v = (m + 1, keepL j.late (m + 1) (rowsL s), tellL j.piece (m + 1) (rowsL s)) := by rw [hv]; unfold markL; rw [if_neg (by omega)]
    obtain ⟨t1, t2⟩ := mark_twice hok.1 hm.2 hol.1 (show s.mark < m by omega)
    rw [ez, ev, e]
    obtain ⟨o1, o2⟩ := tell_once (piece := j.piece) (m := m + 1) hol.2.1
    refine ⟨rfl, t1, ?_, of_perm t2 o1 o2⟩
    have := t2.length_eq
    rw [List.length_append] at this
    exact this
end Go.Rk
/- Drawn operators know of few values. -/
namespace Go.Rk
set_option linter.unusedSimpArgs false
set_option linter.unusedVariables false
/-- Few values, seldom told. -/
def Bd (B : Int) (l : List RowT) : Prop := sumN l ≤ B ∧ ∀ r, r ∈ l → 0 ≤ r.all.n ∧ r.told ≤ B
theorem bd_nil {B : Int} (h : 0 ≤ B) : Bd B [] := ⟨h, fun r hr => absurd hr (by simp)⟩
theorem bd_mono {B C : Int} {l : List RowT} (h : Bd B l) (hc : B ≤ C) : Bd C l := ⟨Int.le_trans h.1 hc, fun r hr => ⟨(h.2 r hr).1, Int.le_trans (h.2 r hr).2 hc⟩⟩
theorem opTakeL_bad {j : JobT} {s : OpStT} {x : ItmT} (h : ¬ (OpOkP j s ∧ RecP x ∧ s.rows.n ≤ 280)) : opTakeL j s x = (0, [], [], []) := by
  unfold opTakeL; rw [if_neg h]
theorem bd_take {j : JobT} {s : OpStT} {x : ItmT} {B : Int} (h : Bd B (rowsL s)) (hB : 0 ≤ B ∧ B ≤ 880) : Bd (B + 4) (opTakeL j s x).2.1 := by
  by_cases hc : OpOkP j s ∧ RecP x ∧ s.rows.n ≤ 280
  · obtain ⟨h1, h2, h3, _⟩ := take_ok (T := B) hc.1 hc.2.1 hc.2.2 (by have := h.1; omega) (by omega) fun r hr => (h.2 r hr).2
    refine ⟨by have := h.1; omega, fun r hr => ⟨?_, h2 r hr⟩⟩
    have := rowOk_n (h1.1 r hr)
    omega
  · rw [opTakeL_bad hc]
    exact bd_nil (by omega)
theorem bd_mark {j : JobT} {s : OpStT} {m B : Int} (h : Bd B (rowsL s)) (hB : 0 ≤ B) : Bd (B + 4) (opMarkL j s m).2.1 := by
  by_cases hc : OpOkP j s ∧ (0 ≤ m ∧ m ≤ 1000)
  · obtain ⟨_, _, h1, h2, h3, _⟩ := mark_ok (T := B) hc.1 hc.2 hB fun r hr => (h.2 r hr).2
    refine ⟨by have := h.1; omega, fun r hr => ⟨?_, ?_⟩⟩
    · have := rowOk_n (h1.1 r hr); omega
    · have := h2 r hr; omega
  · rw [opMarkL_bad hc]
    exact bd_nil (by omega)
/-- As few rows as values. -/
theorem sumN_rows {j : JobT} {m : Int} : ∀ {l : List RowT}, (∀ r, r ∈ l → RowOkP j r m) → (l.length : Int) ≤ sumN l
  | [], _ => Int.le_refl _
  | r :: l, h => by
    have h1 := rowOk_n (h r (by simp))
    have h2 := sumN_rows fun q hq => h q (List.mem_cons_of_mem _ hq)
    rw [sumN_cons, List.length_cons]; omega
theorem bd_rows {j : JobT} {s : OpStT} {B : Int} (hok : OpOkP j s) (h : Bd B (rowsL s)) : (s.rows.n : Int) ≤ B := by
  have h1 := sumN_rows (okL_of hok).1
  have e : (rowsL s).length = s.rows.n := by unfold rowsL; simp
  rw [e] at h1
  have := h.1
  omega
theorem bd_lst {B : Int} {l : List RowT} {n : Nat} {G : Nat → RowT} {mk : Int} (h : Bd B l) (hL : Lst zRow l n G) (hn : n ≤ maxLen) : Bd B (rowsL ⟨mk, ⟨n, G, hn⟩⟩) := by
  rw [rowsL_lst hL hn]; exact h
theorem pre_upd {g R : Nat → RowT} {i : Nat} {r' : RowT} : ∀ n, (∀ q, q < n → R q = if q = i then r' else g q) → preN R n = preN g n + if i < n then r'.all.n - (g i).all.n else 0
  | 0, _ => by rw [if_neg (Nat.not_lt_zero i)]; rfl
  | n + 1, h => by
    rw [preN_succ, preN_succ, pre_upd n (fun q hq => h q (by omega)), h n (by omega)]
    by_cases e : n = i
    · subst e
      rw [if_pos rfl, if_neg (Nat.lt_irrefl n), if_pos (Nat.lt_succ_self n)]; omega
    · rw [if_neg e]
      by_cases e2 : i < n
      · rw [if_pos e2, if_pos (by omega)]; omega
      · rw [if_neg e2, if_neg (by omega)]; omega
theorem ok_row {j : JobT} {s : OpStT} (h : OpOkP j s) {i : Nat} (hi : i < s.rows.n) : (1 ≤ (s.rows.g i).all.n ∧ (s.rows.g i).all.n ≤ 1000) ∧ (s.rows.g i).told ≤ 1500 := by
  have hr := (h.2.2.2 i hi).1
  exact ⟨rowOk_n hr, hr.2.2.2.2.2.2.1.2⟩
/-- One row was spoilt. -/
theorem bd_bad {j : JobT} {mk B : Int} {n i : Nat} {g R : Nat → RowT} {r' : RowT} (hn : n ≤ maxLen) (hi : i < n) (hR : ∀ q, q < n → R q = if q = i then r' else g q) (h : Bd B ((List.range n).map g)) (hB : 0 ≤ B) (hok : OpOkP j ⟨mk, ⟨n, R, hn⟩⟩)
    (ha : r'.all = (g i).all ∨ r'.all.n ≤ 10 ∨ r'.all.n = 1001) (ht : r'.told = (g i).told ∨ r'.told ≤ 1 ∨ r'.told = 1501) : Bd (B + 10) (rowsL ⟨mk, ⟨n, R, hn⟩⟩) := by
  have hgi := h.2 (g i) (List.mem_map.2 ⟨i, List.mem_range.2 hi, rfl⟩)
  have hi2 : R i = r' := by rw [hR i hi, if_pos rfl]
  have hri := ok_row hok hi
  have hri : (1 ≤ (R i).all.n ∧ (R i).all.n ≤ 1000) ∧ (R i).told ≤ 1500 := hri
  rw [hi2] at hri
  have hsum := pre_upd n hR
  rw [if_pos hi] at hsum
  have h1 : preN g n ≤ B := h.1
  refine ⟨?_, fun r hr => ?_⟩
  · show preN R n ≤ B + 10
    rw [hsum]
    rcases ha with e | e | e
    · rw [e]; omega
    · omega
    · omega
  · obtain ⟨q, hq, rfl⟩ := List.mem_map.1 hr
    have hq := List.mem_range.1 hq
    have hqq := ok_row hok hq
    have hqq : (1 ≤ (R q).all.n ∧ (R q).all.n ≤ 1000) ∧ (R q).told ≤ 1500 := hqq
    refine ⟨by show 0 ≤ (R q).all.n; omega, ?_⟩
    show (R q).told ≤ B + 10
    rw [hR q hq]
    by_cases e : q = i
    · rw [if_pos e]
      rcases ht with e | e | e <;> omega
    · rw [if_neg e]
      have := h.2 (g q) (List.mem_map.2 ⟨q, List.mem_range.2 hq, rfl⟩)
      omega
theorem bd_app {j : JobT} {mk B : Int} {n i : Nat} {g R : Nat → RowT} (hn : n + 1 ≤ maxLen) (hi : i < n) (hR : ∀ q, R q = if q < n then g q else g i) (h : Bd B ((List.range n).map g)) (hB : 0 ≤ B) (hok : OpOkP j ⟨mk, ⟨n + 1, R, hn⟩⟩) : Bd (B + B) (rowsL ⟨mk, ⟨n + 1, R, hn⟩⟩) := by
  have hnn : ∀ r, r ∈ (List.range n).map g → 0 ≤ r.all.n := fun r hr => (h.2 r hr).1
  have hgi : g i ∈ (List.range n).map g := List.mem_map.2 ⟨i, List.mem_range.2 hi, rfl⟩
  have h2 := sumN_mem hnn hgi
  have e : rowsL ⟨mk, ⟨n + 1, R, hn⟩⟩ = (List.range n).map g ++ [g i] := by
    show (List.range (n + 1)).map R = _
    rw [List.range_succ, List.map_append]
    congr 1
    · refine List.map_congr_left fun q hq => ?_
      rw [hR, if_pos (List.mem_range.1 hq)]
    · show [R n] = _
      rw [hR, if_neg (Nat.lt_irrefl n)]
  rw [e]
  refine ⟨?_, fun r hr => ?_⟩
  · unfold sumN
    rw [List.map_append, sumI_app]
    have h1 : sumI (((List.range n).map g).map (·.all.n)) ≤ B := h.1
    have h3 : sumI (([g i]).map (·.all.n)) = (g i).all.n + 0 := rfl
    have h4 : (g i).all.n ≤ sumI (((List.range n).map g).map (·.all.n)) := h2
    rw [h3]; omega
  · rcases List.mem_append.1 hr with hr | hr
    · have := h.2 r hr; omega
    · rw [List.mem_singleton] at hr
      have := h.2 _ hgi
      rw [hr]; omega
end Go.Rk
/- Draws: agg. -/
namespace Go.Rk
set_option linter.unusedSimpArgs false
set_option linter.unusedVariables false
open Go.Proofs
set_option maxRecDepth 100000
set_option maxHeartbeats 1000000
theorem selN {A : Ar} (hA : real = A) {x : Int} (h0 : 0 ≤ x) (h1 : x < 6) : A.sel [-1, 0, 1, 10, 1001, -10] (A.add 0 (A.nat x)) ≤ 10 ∨ A.sel [-1, 0, 1, 10, 1001, -10] (A.add 0 (A.nat x)) = 1001 := by
  subst hA
  obtain ⟨i, rfl⟩ := Int.eq_ofNat_of_zero_le h0
  have hi : i < 6 := by omega
  have e : real.add 0 (real.nat (i : Int)) = i := Nat.zero_add i
  rw [e]
  show [-1, 0, 1, 10, 1001, -10].getD i (0 : Int) ≤ 10 ∨ [-1, 0, 1, 10, 1001, -10].getD i (0 : Int) = 1001
  rcases i with _ | _ | _ | _ | _ | _ | i <;> first | (exact .inl (by decide)) | (exact .inr rfl) | omega
theorem selT {A : Ar} (hA : real = A) {x : Int} (h0 : 0 ≤ x) (h1 : x < 4) : A.sel [-1, 0, 1, 1501] (A.add 0 (A.nat x)) ≤ 1 ∨ A.sel [-1, 0, 1, 1501] (A.add 0 (A.nat x)) = 1501 := by
  subst hA
  obtain ⟨i, rfl⟩ := Int.eq_ofNat_of_zero_le h0
  have hi : i < 4 := by omega
  have e : real.add 0 (real.nat (i : Int)) = i := Nat.zero_add i
  rw [e]
  show [-1, 0, 1, 1501].getD i (0 : Int) ≤ 1 ∨ [-1, 0, 1, 1501].getD i (0 : Int) = 1501
  rcases i with _ | _ | _ | _ | i <;> first | (exact .inl (by decide)) | (exact .inr rfl) | omega
def st_xa2 (m : Nat) (b : Nat → Int) (n : Int) (k q : Int) (a : AggT) : St := ⟨[(6, .c (.d (eI k))), (5, .c (.bp 320 1 0)), (4, .c (.bp 256 1 0)), (1, .c (.d (eI n))), (0, .c (.bp 0 1 0))], [(320, 1, .box ((eAgg a).map .d)), (256, 1, .box ((eAgg zAgg).map .d)), (0, 1, .box [.d (.sl 1 m fun i => [eU (b i)]), .d (eI q)])]⟩
theorem x2_add (a : AggT) (v : Int) (h : 0 ≤ a.n ∧ a.n ≤ 1000) : ∃ c : AggT, (c.n = a.n + 1) ∧ Meets Try.prog 157 [xd (eAgg a), .c (.d (eI v))] ⟨.one (xd (eAgg c)), [none, none]⟩ := ⟨_, add_n ⟨h.1, by omega⟩, c_sAggAdd a v _ rfl⟩
theorem x2_agg (m : Nat) (hm : m ≤ 2000) (b : Nat → Int) (hb : ∀ i, 0 ≤ b i ∧ b i ≤ 255) (p : Int) (hp : 0 ≤ p ∧ p ≤ 60000) (n : Int) (hn : 1 ≤ n ∧ n ≤ 100) : ∃ y : AggT × Int, (p ≤ y.2 ∧ y.2 ≤ p + 20 ∧ (y.1.n ≤ 10 ∨ y.1.n = 1001)) ∧ Meets Try.prog 148 [.c (.box [.d (.sl 1 m fun i => [eU (b i)]), .d (eI p)]), .c (.d (eI n))] ⟨.one (xd (eAgg y.1)), [some (.box [.d (.sl 1 m fun i => [eU (b i)]), .d (eI y.2)]), none]⟩ := by
  refine meets_ex (H := []) (EX := EXD) ttok mixed ([some (.box [.d (.sl 1 m fun i => [eU (b i)]), .d (eI 0)]), none]) Try.func148 rfl (by kernel_rfl) (by decide) (fun _ => rfl) ?_
  generalize hA : real = A
  generalize hM : MeetsB Try.prog = M
  cbv
  repeat' first
    | apply And.intro
    | exact True.intro
    | with_reducible rfl
    | exact same_of hA rfl
    | refine br_of hA (fun _ => ?_) (fun _ => ?_)
    | exact imp_of hA id
    | (refine imp_of hA ?_; subst hA; simp only [real, Bool.true_and]; exact id)
    | (refine ind_of hA ?_; decide +kernel)
    | (refine call_ex hA hM (x_pick m hm b hb _ (by omega) _ (by omega)) ?_; rintro ⟨x, q⟩ ⟨hx0, hx1, hq⟩; dsimp only at hx0 hx1 hq; cbv)
  refine loop_of hA (α := { y : Int × Int × AggT // 0 ≤ y.1 ∧ y.1 ≤ 5 ∧ p ≤ y.2.1 ∧ y.2.1 + y.1 ≤ p + 10 ∧ 0 ≤ y.2.2.n ∧ y.2.2.n + y.1 ≤ 5 }) (fun y => st_xa2 m b n y.1.1 y.1.2.1 y.1.2.2) (fun y => y.1.1.toNat) ⟨(x, q, zAgg), hx0, by simp only; omega, by simp only; omega, by simp only; omega, Int.le_refl _, by (show (0 : Int) + x ≤ 5); omega⟩ ?_ ?_
  · refine cov_of ?_ ?_ ?_
    · cbv; try (subst hA; repeat' first | apply And.intro | exact True.intro | rfl | fail)
    · cbv; try (subst hA; repeat' first | apply And.intro | exact True.intro | rfl | (intro _ _; rfl) | (intro k hk; exact absurd hk (Nat.not_lt_zero k)) | fail)
    · cbv; try (subst hA; repeat' first | apply And.intro | exact True.intro | rfl | exact .inr trivial | exact .inl trivial)
  rintro ⟨⟨k, q1, a⟩, hk0, hk1, hq0, hq1, ha0, ha1⟩
  have hk0 : 0 ≤ k := hk0
  have hk1 : k ≤ 5 := hk1
  have hq0 : p ≤ q1 := hq0
  have hq1 : q1 + k ≤ p + 10 := hq1
  have ha0 : 0 ≤ a.n := ha0
  have ha1 : a.n + k ≤ 5 := ha1
  have ha2 : a.n ≤ 10 := by omega
  cbv
  repeat' first
    | apply And.intro
    | exact True.intro
    | with_reducible rfl
    | exact same_of hA rfl
    | refine br_of hA (fun _ => ?_) (fun _ => ?_)
    | exact imp_of hA id
    | (refine imp_of hA ?_; subst hA; simp only [real, Bool.true_and]; exact id)
    | (refine ind_of hA ?_; decide +kernel)
    | (refine call_ex hA hM (x_pick m hm b hb _ (by omega) _ (by omega)) ?_; rintro ⟨x, q⟩ ⟨hx0, hx1, hq⟩; dsimp only at hx0 hx1 hq; cbv)
    | (refine call_ex hA hM (x2_add a _ ⟨ha0, by omega⟩) ?_; rintro c hc; cbv)
    | (refine inb_of hA (fun _ => ?_); (first | omega | (constructor <;> omega)))
    | (refine fin_of hA ⟨⟨⟨_, _, _, _⟩, _⟩, ?_, rfl, rfl⟩; exact ⟨by simp only; omega, by simp only; omega, by first | exact .inl ha2 | exact selN hA (by assumption) (by assumption)⟩)
  rename_i hgt
  have hgt : k > 0 := by subst hA; exact of_decide_eq_true hgt
  obtain ⟨k', hk'⟩ : ∃ z, z = k - 1 := ⟨_, rfl⟩
  refine ⟨⟨(k', q, c), show 0 ≤ k' by omega, show k' ≤ 5 by omega, show p ≤ q by omega, show q + k' ≤ p + 10 by omega, show 0 ≤ c.n by omega, show c.n + k' ≤ 5 by omega⟩, by simp only; omega, cov_of ?_ ?_ ?_⟩
  · cbv; subst hA
    have hw : IntKind.i64.wrap (k - 1) = k' := by rw [IntWalk.i64_in _ (by omega), hk']
    repeat' first | apply And.intro | exact True.intro | exact congrArg (fun x => DV.v (.int .i64 x)) hw | rfl
  · cbv; try (subst hA; repeat' first | apply And.intro | exact True.intro | rfl)
  · cbv; try (subst hA; repeat' first | apply And.intro | exact True.intro | rfl | exact .inr trivial | exact .inl trivial | exact .inr (Nat.le_refl _))
end Go.Rk
/- Draws: op. -/
namespace Go.Rk
set_option linter.unusedSimpArgs false
set_option linter.unusedVariables false
open Go.Proofs
set_option maxRecDepth 100000
set_option maxHeartbeats 1000000
theorem frz_mark2 {mk : Int} {k c : Nat} {G : Nat → RowT} {P : Nat → PaneT} : frzA (.tup [.agg [.d (eI mk), .own 13 k fun i => eRow (G i)], .c (.own 9 c fun i => ePane (P i))]) = .tup [.agg [.d (eI mk), .d (.sl 13 k fun i => eRow (G i))], .c (.d (.sl 9 c fun i => ePane (P i)))] := rfl
theorem x2_sMark (j : JobT) (s : OpStT) (hn : s.rows.n ≤ 400) (m : Int) : ∃ y : OpStT × Nat × (Nat → PaneT), (y.1.rows.n ≤ s.rows.n ∧ ∀ B, 0 ≤ B → Bd B (rowsL s) → Bd (B + 4) (rowsL y.1)) ∧ Meets Try.prog 23 [xd (eJob j), .agg [.d (eI s.mark), .d (.sl 13 s.rows.n fun i => eRow (s.rows.g i))], .c (.d (eI m))] ⟨.tup [.agg [.d (eI y.1.mark), .d (.sl 13 y.1.rows.n fun i => eRow (y.1.rows.g i))], .c (.d (.sl 9 y.2.1 fun i => ePane (y.2.2 i)))], [none, none, none]⟩ := by
  obtain ⟨x, hx⟩ : ∃ x, x = opMarkL j s m := ⟨_, rfl⟩
  have hl := opMarkL_len j s m
  rw [← hx] at hl
  obtain ⟨k, G, hG⟩ := lst_ex zRow x.2.1
  obtain ⟨c, P, hP⟩ := lst_ex zPan x.2.2
  have hk : k ≤ s.rows.n := by rw [hG.1]; exact hl.1
  have hI := meets_frz (c_sOpMark j s (by omega) m x hx k G hG c P hP) rfl
  exact ⟨(⟨x.1, ⟨k, G, Nat.le_trans hk s.rows.hn⟩⟩, c, P), ⟨hk, fun B hB h => bd_lst (by rw [hx]; exact bd_mark h hB) hG _⟩, hI⟩
theorem x2_sTake (j : JobT) (s : OpStT) (hn : s.rows.n ≤ 400) (m : ItmT) : ∃ y : OpStT × (Nat × (Nat → PaneT)) × Nat × (Nat → LatT), (y.1.rows.n ≤ s.rows.n + 20 ∧ ∀ B, 0 ≤ B ∧ B ≤ 880 → Bd B (rowsL s) → Bd (B + 4) (rowsL y.1)) ∧ Meets Try.prog 49 [xd (eJob j), .agg [.d (eI s.mark), .d (.sl 13 s.rows.n fun i => eRow (s.rows.g i))], xd (eItm m)] ⟨.tup [.agg [.d (eI y.1.mark), .d (.sl 13 y.1.rows.n fun i => eRow (y.1.rows.g i))], .c (.d (.sl 9 y.2.1.1 fun i => ePane (y.2.1.2 i))), .c (.d (.sl 7 y.2.2.1 fun i => eLat (y.2.2.2 i)))], [none, none, none]⟩ := by
  obtain ⟨x, hx⟩ : ∃ x, x = opTakeL j s m := ⟨_, rfl⟩
  have hl := opTakeL_rows j s m
  rw [← hx] at hl
  obtain ⟨k, G, hG⟩ := lst_ex zRow x.2.1
  obtain ⟨c, P, hP⟩ := lst_ex zPan x.2.2.1
  obtain ⟨d, Q, hQ⟩ := lst_ex zLat x.2.2.2
  have hk : k ≤ s.rows.n + 20 := by rw [hG.1]; exact hl
  exact ⟨(⟨x.1, ⟨k, G, Nat.le_trans (show k ≤ 420 by omega) (by decide)⟩⟩, (c, P), (d, Q)), ⟨hk, fun B hB h => bd_lst (by rw [hx]; exact bd_take h hB) hG _⟩, c_sOpTake j s (by omega) m x hx k G hG c P hP d Q hQ⟩
theorem bound_step2 {a b : Nat} {k k' : Int} (h : a ≤ b + 20) (h2 : (b : Int) + 20 * k ≤ 260) (h3 : k' = k - 1) : (a : Int) + 20 * k' ≤ 260 := by omega
theorem bound_end2 {a : Nat} {k : Int} (h : (a : Int) + 20 * k ≤ 260) (h2 : 0 ≤ k) : a ≤ 260 := by omega
def zOp2 : OpStT := ⟨0, ⟨0, fun _ => zRow, Nat.zero_le _⟩⟩
def st_x2op (m : Nat) (b : Nat → Int) (j : JobT) (k q mk : Int) (s : OpStT) : St := ⟨[(7, .c (.d (eI k))), (6, .c (.d (eI mk))), (5, .c (.bp 320 1 0)), (4, .c (.bp 256 1 0)), (3, .c (.bp 192 1 0)), (0, .c (.bp 0 1 0))], [(320, 1, .box [.d (eI s.mark), .d (.sl 13 s.rows.n fun i => eRow (s.rows.g i))]), (256, 1, .box [.d (eI 0), .d (.v nilS)]), (192, 1, .box ((eJob j).map .d)), (0, 1, .box [.d (.sl 1 m fun i => [eU (b i)]), .d (eI q)])]⟩
theorem x2_op (m : Nat) (hm : m ≤ 2000) (b : Nat → Int) (hb : ∀ i, 0 ≤ b i ∧ b i ≤ 255) (p : Int) (hp : 0 ≤ p ∧ p ≤ 60000) (j : JobT) : ∃ y : OpStT × Int, (p ≤ y.2 ∧ y.2 ≤ p + 200 ∧ y.1.rows.n ≤ 260 ∧ Bd 60 (rowsL y.1)) ∧ Meets Try.prog 116 [.c (.box [.d (.sl 1 m fun i => [eU (b i)]), .d (eI p)]), xd (eJob j)] ⟨.one (.agg [.d (eI y.1.mark), .d (.sl 13 y.1.rows.n fun i => eRow (y.1.rows.g i))]), [some (.box [.d (.sl 1 m fun i => [eU (b i)]), .d (eI y.2)]), none]⟩ := by
  obtain ⟨bj, _, cJ⟩ := c_sJobOkP j
  refine meets_ex (H := [14]) (EX := EXD) ttok mixed ([some (.box [.d (.sl 1 m fun i => [eU (b i)]), .d (eI 0)]), none]) Try.func116 rfl (by kernel_rfl) (by decide) (fun _ => rfl) ?_
  generalize hA : real = A
  generalize hM : MeetsB Try.prog = M
  cbv
  repeat' first
    | apply And.intro
    | exact True.intro
    | with_reducible rfl
    | exact same_of hA rfl
    | refine br_of hA (fun _ => ?_) (fun _ => ?_)
    | exact imp_of hA id
    | (refine imp_of hA ?_; subst hA; simp only [real, Bool.true_and]; exact id)
    | (refine ind_of hA ?_; decide +kernel)
    | (refine call_ex hA hM (x_pick m hm b hb _ (by omega) _ (by omega)) ?_; rintro ⟨x, q⟩ ⟨hx0, hx1, hq⟩; dsimp only at hx0 hx1 hq; cbv)
  refine loop_of hA (α := { y : Int × Int × Int × OpStT // 0 ≤ y.1 ∧ y.1 ≤ 13 ∧ p ≤ y.2.1 ∧ y.2.1 + 10 * y.1 ≤ p + 140 ∧ (y.2.2.2.rows.n : Int) + 20 * y.1 ≤ 260 ∧ Bd (60 - 4 * y.1) (rowsL y.2.2.2) }) (fun y => st_x2op m b j y.1.1 y.1.2.1 y.1.2.2.1 y.1.2.2.2) (fun y => y.1.1.toNat) ⟨(x, q, 0, zOp2), hx0, by simp only; omega, by simp only; omega, by simp only; omega, by (show ((0 : Nat) : Int) + 20 * x ≤ 260); omega, bd_nil (by simp only; omega)⟩ ?_ ?_
  · refine cov_nB 320 13 (fun i => eRow (zOp2.rows.g i)) [.d (eI 0)] [] rfl (cov_of ?_ ?_ ?_)
    · cbv; try (subst hA; repeat' first | apply And.intro | exact True.intro | rfl | fail)
    · cbv; try (subst hA; repeat' first | apply And.intro | exact True.intro | rfl | (intro _ _; rfl) | (intro k hk; exact absurd hk (Nat.not_lt_zero k)) | fail)
    · cbv; try (subst hA; repeat' first | apply And.intro | exact True.intro | rfl | exact .inr trivial | exact .inl trivial)
  rintro ⟨⟨k, q1, mk, s⟩, hk0, hk1, hq0, hq1, hs, hbd⟩
  have hk0 : 0 ≤ k := hk0
  have hk1 : k ≤ 13 := hk1
  have hq0 : p ≤ q1 := hq0
  have hq1 : q1 + 10 * k ≤ p + 140 := hq1
  have hs : (s.rows.n : Int) + 20 * k ≤ 260 := hs
  have hbd : Bd (60 - 4 * k) (rowsL s) := hbd
  have hs4 : s.rows.n ≤ 400 := by omega
  have hsI : (s.rows.n : Int) + 20 * k ≤ 260 := hs
  have hkk : ∀ {A : Ar}, real = A → A.bite (A.cmp .gtr k 0) bj false = true → 0 < k := fun hA h => by
    subst hA
    have h : (bif decide (k > 0) then bj else false) = true := h
    by_cases g : k > 0
    · exact g
    · rw [decide_eq_false g] at h; cases h
  cbv
  repeat' first
    | apply And.intro
    | exact True.intro
    | with_reducible rfl
    | exact same_of hA rfl
    | refine br_of hA (fun _ => ?_) (fun _ => ?_)
    | exact imp_of hA id
    | (refine imp_of hA ?_; subst hA; simp only [real, Bool.true_and]; exact id)
    | (refine ind_of hA ?_; decide +kernel)
    | (refine call_of hA hM _ cJ ?_; cbv)
    | (refine call_ex hA hM (c_l1In _ _ _) (fun _ _ => ?_); cbv)
    | (refine call_ex hA hM (x_pick m hm b hb _ (by omega) _ (by omega)) ?_; rintro ⟨x, q⟩ ⟨hx0, hx1, hq⟩; dsimp only at hx0 hx1 hq; cbv)
    | (refine call_ex hA hM (x_rec m hm b hb _ (by omega)) ?_; rintro ⟨it, q⟩ ⟨hr0, hr1⟩; dsimp only at hr0 hr1; cbv)
    | (refine call_ex hA hM (x2_sMark j s hs4 _) ?_; rintro ⟨s2, c, P⟩ ⟨hs2, hb2⟩; dsimp only at hs2 hb2; cbv)
    | (refine call_ex hA hM (x2_sTake j s hs4 ⟨_, _, _, _, _⟩) ?_; rintro ⟨s2, ⟨c, P⟩, d, Q⟩ ⟨hs2, hb2⟩; dsimp only at hs2 hb2; cbv)
  · obtain ⟨k', hk'⟩ : ∃ z, z = k - 1 := ⟨_, rfl⟩
    have hgt : 0 < k := hkk hA (by assumption)
    have hw : IntKind.i64.wrap (k - 1) = k' := by rw [IntWalk.i64_in _ (by omega), hk']
    refine ⟨⟨(k', q, real.ar .add .i64 mk x, s2), show 0 ≤ k' by omega, show k' ≤ 13 by omega, show p ≤ q by omega, show q + 10 * k' ≤ p + 140 by omega, (bound_step2 (Nat.le_trans hs2 (Nat.le_add_right s.rows.n 20)) hsI hk' : (s2.rows.n : Int) + 20 * k' ≤ 260), (bd_mono (hb2 (60 - 4 * k) (by omega) hbd) (by omega) : Bd (60 - 4 * k') (rowsL s2))⟩, by simp only; omega, cov_of ?_ ?_ ?_⟩
    · subst hA; repeat' first | exact True.intro | exact rfl | exact congrArg (fun x => DV.v (.int .i64 x)) hw | apply And.intro
    · subst hA; repeat' first | exact True.intro | exact rfl | apply And.intro | (intro _ _; first | rfl | trivial)
    · subst hA; repeat' first | exact True.intro | exact rfl | apply And.intro | exact .inl rfl | exact .inr (le_of_nble rfl)
  · obtain ⟨k', hk'⟩ : ∃ z, z = k - 1 := ⟨_, rfl⟩
    have hgt : 0 < k := hkk hA (by assumption)
    have hw : IntKind.i64.wrap (k - 1) = k' := by rw [IntWalk.i64_in _ (by omega), hk']
    refine ⟨⟨(k', q, mk, s2), show 0 ≤ k' by omega, show k' ≤ 13 by omega, show p ≤ q by omega, show q + 10 * k' ≤ p + 140 by omega, (bound_step2 hs2 hsI hk' : (s2.rows.n : Int) + 20 * k' ≤ 260), (bd_mono (hb2 (60 - 4 * k) (by omega) hbd) (by omega) : Bd (60 - 4 * k') (rowsL s2))⟩, by simp only; omega, cov_of ?_ ?_ ?_⟩
    · subst hA; repeat' first | exact True.intro | exact rfl | exact congrArg (fun x => DV.v (.int .i64 x)) hw | apply And.intro
    · subst hA; repeat' first | exact True.intro | exact rfl | apply And.intro | (intro _ _; first | rfl | trivial)
    · subst hA; repeat' first | exact True.intro | exact rfl | apply And.intro | exact .inl rfl | exact .inr (le_of_nble rfl)
  · obtain ⟨k', hk'⟩ : ∃ z, z = k - 1 := ⟨_, rfl⟩
    have hgt : 0 < k := hkk hA (by assumption)
    have hw : IntKind.i64.wrap (k - 1) = k' := by rw [IntWalk.i64_in _ (by omega), hk']
    refine ⟨⟨(k', q, mk, s), show 0 ≤ k' by omega, show k' ≤ 13 by omega, show p ≤ q by omega, show q + 10 * k' ≤ p + 140 by omega, (bound_step2 (Nat.le_add_right s.rows.n 20) hsI hk' : (s.rows.n : Int) + 20 * k' ≤ 260), (bd_mono (hbd) (by omega) : Bd (60 - 4 * k') (rowsL s))⟩, by simp only; omega, cov_of ?_ ?_ ?_⟩
    · subst hA; repeat' first | exact True.intro | exact rfl | exact congrArg (fun x => DV.v (.int .i64 x)) hw | apply And.intro
    · subst hA; repeat' first | exact True.intro | exact rfl | apply And.intro | (intro _ _; first | rfl | trivial)
    · subst hA; repeat' first | exact True.intro | exact rfl | apply And.intro | exact .inl rfl | exact .inr (le_of_nble rfl)
  · refine stop_of hA ⟨[(5, .c (.bp 320 1 0)), (4, .c (.bp 256 1 0)), (0, .c (.bp 0 1 0))], [(320, 1, .box [.d (eI s.mark), .d (.sl 13 s.rows.n fun i => eRow (s.rows.g i))]), (256, 1, .box [.d (eI 0), .d (.v nilS)]), (0, 1, .box [.d (.sl 1 m fun i => [eU (b i)]), .d (eI q1)])]⟩ (cov_of ?_ ?_ ?_) ?_
    · cbv; try (subst hA; repeat' first | apply And.intro | exact True.intro | rfl | fail)
    · cbv; try (subst hA; repeat' first | apply And.intro | exact True.intro | rfl | (intro _ _; rfl) | (intro k hk; exact absurd hk (Nat.not_lt_zero k)) | fail)
    · cbv; try (subst hA; repeat' first | apply And.intro | exact True.intro | rfl | exact .inr trivial | exact .inl trivial)
    cbv
    repeat' first
      | apply And.intro
      | exact True.intro
      | with_reducible rfl
      | exact same_of hA rfl
      | refine br_of hA (fun _ => ?_) (fun _ => ?_)
      | exact imp_of hA id
      | (refine imp_of hA ?_; subst hA; simp only [real, Bool.true_and]; exact id)
      | (refine ind_of hA ?_; decide +kernel)
      | (refine fin_of hA ⟨⟨s, _⟩, ?_, rfl, rfl⟩; exact ⟨hq0, by simp only; omega, bound_end2 hsI hk0, bd_mono hbd (by omega)⟩)
end Go.Rk
/- Draws: bad. -/
namespace Go.Rk
set_option linter.unusedSimpArgs false
set_option linter.unusedVariables false
open Go.Proofs
set_option maxRecDepth 100000
set_option maxHeartbeats 1000000
theorem x2_bad (m : Nat) (hm : m ≤ 2000) (b : Nat → Int) (hb : ∀ i, 0 ≤ b i ∧ b i ≤ 255) (p : Int) (hp : 0 ≤ p ∧ p ≤ 50000) (s : OpStT) (hs : s.rows.n ≤ 260) (hb0 : Bd 60 (rowsL s)) : ∃ y : OpStT × Int, (p ≤ y.2 ∧ y.2 ≤ p + 60 ∧ y.1.rows.n ≤ 261 ∧ ∀ j, OpOkP j y.1 → Bd 130 (rowsL y.1)) ∧ Meets Try.prog 118 [.c (.box [.d (.sl 1 m fun i => [eU (b i)]), .d (eI p)]), .agg [.d (eI s.mark), .d (.sl 13 s.rows.n fun i => eRow (s.rows.g i))]] ⟨.one (.agg [.d (eI y.1.mark), .own 13 y.1.rows.n fun i => eRow (y.1.rows.g i)]), [some (.box [.d (.sl 1 m fun i => [eU (b i)]), .d (eI y.2)]), none]⟩ := by
  obtain ⟨mk, n, g, hnL⟩ := s
  have hs : n ≤ 260 := hs
  have hb0 : Bd 60 ((List.range n).map g) := hb0
  have cC := c_sCopy mk n (by omega) g
  have hpos : ∀ {A : Ar} {v : Bool}, real = A → A.bite (A.cmp .eql (A.int n) 0) true v = false → (1 : Int) ≤ n ∧ (n : Int) ≤ 1000000 := fun {A v} hA h => by
    subst hA
    have h : (bif ((n : Int) == 0) then true else v) = false := h
    by_cases g : n = 0
    · subst g; cases h
    · omega
  refine meets_ex (H := [20]) (EX := EXD) ttok mixed ([some (.box [.d (.sl 1 m fun i => [eU (b i)]), .d (eI 0)]), none]) Try.func118 rfl (by kernel_rfl) (by decide) (fun _ => rfl) ?_
  generalize hA : real = A
  generalize hM : MeetsB Try.prog = M
  cbv
  repeat' first
    | apply And.intro
    | exact True.intro
    | with_reducible rfl
    | exact same_of hA rfl
    | refine br_of hA (fun _ => ?_) (fun _ => ?_)
    | exact imp_of hA id
    | (refine imp_of hA ?_; subst hA; simp only [real, Bool.true_and]; exact id)
    | (refine ind_of hA ?_; decide +kernel)
    | (refine call_of hA hM _ cC ?_; cbv)
    | (have hp9 := hpos hA (by assumption); refine call_ex2 hA hM (x_pick m hm b hb q (by omega) (n : Int) hp9) ?_ ?_; (focus (subst hA; rfl)); rintro ⟨ix, q⟩ ⟨hx0, hx1, hq⟩; dsimp only at hx0 hx1 hq; obtain ⟨i, rfl⟩ := Int.eq_ofNat_of_zero_le hx0; have hin : i < n := Int.ofNat_lt.1 hx1; cbv)
    | (have hp9 := hpos hA (by assumption); refine call_ex2 hA hM (x_pick m hm b hb p (by omega) (n : Int) hp9) ?_ ?_; (focus (subst hA; rfl)); rintro ⟨ix, q⟩ ⟨hx0, hx1, hq⟩; dsimp only at hx0 hx1 hq; obtain ⟨i, rfl⟩ := Int.eq_ofNat_of_zero_le hx0; have hin : i < n := Int.ofNat_lt.1 hx1; cbv)
    | (refine call_ex hA hM (x_pick m hm b hb _ (by omega) _ (by omega)) ?_; rintro ⟨x, q⟩ ⟨hx0, hx1, hq⟩; dsimp only at hx0 hx1 hq; cbv)
    | (refine call_ex hA hM (x2_agg m hm b hb _ (by omega) _ (by omega)) ?_; rintro ⟨ag, q⟩ ⟨hq0, hq1, hag⟩; dsimp only at hq0 hq1 hag; cbv)
    | (refine call_ex hA hM (x_win m hm b hb _ (by omega) _ (by omega)) ?_; rintro ⟨wi, q⟩ ⟨hq0, hq1⟩; dsimp only at hq0 hq1; cbv)
    | (refine inb_of hA (fun _ => ?_); first | exact ⟨Int.natCast_nonneg i, Int.ofNat_lt.2 hin⟩ | omega | (constructor <;> omega))
    | exact room_add2 hA (by omega) (by decide)
    | (refine fin_of hA ⟨⟨⟨_, ⟨n, g, hnL⟩⟩, _⟩, ?_, rfl, rfl⟩; exact ⟨by simp only; omega, by simp only; omega, show n ≤ 261 by omega, fun _ _ => bd_mono hb0 (by decide)⟩)
  · obtain ⟨R, hR⟩ : ∃ r : Nat → RowT, r = fun q => if q = i then { g i with key := real.sel [-1, 4] (real.add 0 (real.nat x)) } else g q := ⟨_, rfl⟩
    refine stop_of hA ⟨[(4, .c (.bp 256 1 0)), (3, .c (.bp 192 1 0)), (0, .c (.bp 0 1 0))], [(449, 1, .arr 13 n fun q => eRow (R q)), (256, 1, .box [.d (eI 0), .d (.v nilS)]), (192, 1, .box [.d (eI mk), .own 449 0 n 1]), (0, 1, .box [.d (.sl 1 m fun i => [eU (b i)]), .d (eI q)])]⟩ (cov_of ?_ ?_ ?_) ?_
    · subst hA; repeat' first | exact True.intro | exact rfl | apply And.intro
    · subst hA
      repeat' first | exact True.intro | exact rfl | apply And.intro | (intro _ _; first | rfl | trivial)
      all_goals
        intro q hq9
        subst hR
        by_cases e : q = i
        · subst e; simp [real]; try rfl
        · simp [real, e]
    · subst hA; repeat' first | exact True.intro | exact rfl | apply And.intro | exact .inl rfl | exact .inr (le_of_nble rfl)
    cbv
    repeat' first
      | apply And.intro
      | exact True.intro
      | with_reducible rfl
      | exact same_of hA rfl
      | refine br_of hA (fun _ => ?_) (fun _ => ?_)
      | exact imp_of hA id
      | (refine imp_of hA ?_; subst hA; simp only [real, Bool.true_and]; exact id)
      | (refine ind_of hA ?_; decide +kernel)
      | (refine fin_of hA ⟨⟨⟨_, ⟨n, R, hnL⟩⟩, _⟩, ?_, rfl, rfl⟩; exact ⟨by simp only; omega, by simp only; omega, show n ≤ 261 by omega, fun _ hok => bd_mono (bd_bad (r' := { g i with key := real.sel [-1, 4] (real.add 0 (real.nat x)) }) hnL hin (fun q _ => by subst hR; rfl) hb0 (by decide) hok (.inl rfl) (.inl rfl)) (by decide)⟩)
  · obtain ⟨R, hR⟩ : ∃ r : Nat → RowT, r = fun q => if q = i then { g i with win := wi } else g q := ⟨_, rfl⟩
    refine stop_of hA ⟨[(4, .c (.bp 256 1 0)), (3, .c (.bp 192 1 0)), (0, .c (.bp 0 1 0))], [(449, 1, .arr 13 n fun q => eRow (R q)), (256, 1, .box [.d (eI 0), .d (.v nilS)]), (192, 1, .box [.d (eI mk), .own 449 0 n 1]), (0, 1, .box [.d (.sl 1 m fun i => [eU (b i)]), .d (eI q)])]⟩ (cov_of ?_ ?_ ?_) ?_
    · subst hA; repeat' first | exact True.intro | exact rfl | apply And.intro
    · subst hA
      repeat' first | exact True.intro | exact rfl | apply And.intro | (intro _ _; first | rfl | trivial)
      all_goals
        intro q hq9
        subst hR
        by_cases e : q = i
        · subst e; simp [real]; try rfl
        · simp [real, e]
    · subst hA; repeat' first | exact True.intro | exact rfl | apply And.intro | exact .inl rfl | exact .inr (le_of_nble rfl)
    cbv
    repeat' first
      | apply And.intro
      | exact True.intro
      | with_reducible rfl
      | exact same_of hA rfl
      | refine br_of hA (fun _ => ?_) (fun _ => ?_)
      | exact imp_of hA id
      | (refine imp_of hA ?_; subst hA; simp only [real, Bool.true_and]; exact id)
      | (refine ind_of hA ?_; decide +kernel)
      | (refine fin_of hA ⟨⟨⟨_, ⟨n, R, hnL⟩⟩, _⟩, ?_, rfl, rfl⟩; exact ⟨by simp only; omega, by simp only; omega, show n ≤ 261 by omega, fun _ hok => bd_mono (bd_bad (r' := { g i with win := wi }) hnL hin (fun q _ => by subst hR; rfl) hb0 (by decide) hok (.inl rfl) (.inl rfl)) (by decide)⟩)
  · obtain ⟨R, hR⟩ : ∃ r : Nat → RowT, r = fun q => if q = i then { g i with all := ag } else g q := ⟨_, rfl⟩
    refine stop_of hA ⟨[(4, .c (.bp 256 1 0)), (3, .c (.bp 192 1 0)), (0, .c (.bp 0 1 0))], [(449, 1, .arr 13 n fun q => eRow (R q)), (256, 1, .box [.d (eI 0), .d (.v nilS)]), (192, 1, .box [.d (eI mk), .own 449 0 n 1]), (0, 1, .box [.d (.sl 1 m fun i => [eU (b i)]), .d (eI q)])]⟩ (cov_of ?_ ?_ ?_) ?_
    · subst hA; repeat' first | exact True.intro | exact rfl | apply And.intro
    · subst hA
      repeat' first | exact True.intro | exact rfl | apply And.intro | (intro _ _; first | rfl | trivial)
      all_goals
        intro q hq9
        subst hR
        by_cases e : q = i
        · subst e; simp [real]; try rfl
        · simp [real, e]
    · subst hA; repeat' first | exact True.intro | exact rfl | apply And.intro | exact .inl rfl | exact .inr (le_of_nble rfl)
    cbv
    repeat' first
      | apply And.intro
      | exact True.intro
      | with_reducible rfl
      | exact same_of hA rfl
      | refine br_of hA (fun _ => ?_) (fun _ => ?_)
      | exact imp_of hA id
      | (refine imp_of hA ?_; subst hA; simp only [real, Bool.true_and]; exact id)
      | (refine ind_of hA ?_; decide +kernel)
      | (refine fin_of hA ⟨⟨⟨_, ⟨n, R, hnL⟩⟩, _⟩, ?_, rfl, rfl⟩; exact ⟨by simp only; omega, by simp only; omega, show n ≤ 261 by omega, fun _ hok => bd_mono (bd_bad (r' := { g i with all := ag }) hnL hin (fun q _ => by subst hR; rfl) hb0 (by decide) hok (.inr hag) (.inl rfl)) (by decide)⟩)
  · obtain ⟨R, hR⟩ : ∃ r : Nat → RowT, r = fun q => if q = i then { g i with fresh := ag } else g q := ⟨_, rfl⟩
    refine stop_of hA ⟨[(4, .c (.bp 256 1 0)), (3, .c (.bp 192 1 0)), (0, .c (.bp 0 1 0))], [(449, 1, .arr 13 n fun q => eRow (R q)), (256, 1, .box [.d (eI 0), .d (.v nilS)]), (192, 1, .box [.d (eI mk), .own 449 0 n 1]), (0, 1, .box [.d (.sl 1 m fun i => [eU (b i)]), .d (eI q)])]⟩ (cov_of ?_ ?_ ?_) ?_
    · subst hA; repeat' first | exact True.intro | exact rfl | apply And.intro
    · subst hA
      repeat' first | exact True.intro | exact rfl | apply And.intro | (intro _ _; first | rfl | trivial)
      all_goals
        intro q hq9
        subst hR
        by_cases e : q = i
        · subst e; simp [real]; try rfl
        · simp [real, e]
    · subst hA; repeat' first | exact True.intro | exact rfl | apply And.intro | exact .inl rfl | exact .inr (le_of_nble rfl)
    cbv
    repeat' first
      | apply And.intro
      | exact True.intro
      | with_reducible rfl
      | exact same_of hA rfl
      | refine br_of hA (fun _ => ?_) (fun _ => ?_)
      | exact imp_of hA id
      | (refine imp_of hA ?_; subst hA; simp only [real, Bool.true_and]; exact id)
      | (refine ind_of hA ?_; decide +kernel)
      | (refine fin_of hA ⟨⟨⟨_, ⟨n, R, hnL⟩⟩, _⟩, ?_, rfl, rfl⟩; exact ⟨by simp only; omega, by simp only; omega, show n ≤ 261 by omega, fun _ hok => bd_mono (bd_bad (r' := { g i with fresh := ag }) hnL hin (fun q _ => by subst hR; rfl) hb0 (by decide) hok (.inl rfl) (.inl rfl)) (by decide)⟩)
  · obtain ⟨R, hR⟩ : ∃ r : Nat → RowT, r = fun q => if q = i then { g i with told := real.sel [-1, 0, 1, 1501] (real.add 0 (real.nat x)) } else g q := ⟨_, rfl⟩
    refine stop_of hA ⟨[(4, .c (.bp 256 1 0)), (3, .c (.bp 192 1 0)), (0, .c (.bp 0 1 0))], [(449, 1, .arr 13 n fun q => eRow (R q)), (256, 1, .box [.d (eI 0), .d (.v nilS)]), (192, 1, .box [.d (eI mk), .own 449 0 n 1]), (0, 1, .box [.d (.sl 1 m fun i => [eU (b i)]), .d (eI q)])]⟩ (cov_of ?_ ?_ ?_) ?_
    · subst hA; repeat' first | exact True.intro | exact rfl | apply And.intro
    · subst hA
      repeat' first | exact True.intro | exact rfl | apply And.intro | (intro _ _; first | rfl | trivial)
      all_goals
        intro q hq9
        subst hR
        by_cases e : q = i
        · subst e; simp [real]; try rfl
        · simp [real, e]
    · subst hA; repeat' first | exact True.intro | exact rfl | apply And.intro | exact .inl rfl | exact .inr (le_of_nble rfl)
    cbv
    repeat' first
      | apply And.intro
      | exact True.intro
      | with_reducible rfl
      | exact same_of hA rfl
      | refine br_of hA (fun _ => ?_) (fun _ => ?_)
      | exact imp_of hA id
      | (refine imp_of hA ?_; subst hA; simp only [real, Bool.true_and]; exact id)
      | (refine ind_of hA ?_; decide +kernel)
      | (refine fin_of hA ⟨⟨⟨_, ⟨n, R, hnL⟩⟩, _⟩, ?_, rfl, rfl⟩; exact ⟨by simp only; omega, by simp only; omega, show n ≤ 261 by omega, fun _ hok => bd_mono (bd_bad (r' := { g i with told := real.sel [-1, 0, 1, 1501] (real.add 0 (real.nat x)) }) hnL hin (fun q _ => by subst hR; rfl) hb0 (by decide) hok (.inl rfl) (.inr (selT rfl (by assumption) (by assumption)))) (by decide)⟩)
  · obtain ⟨R, hR⟩ : ∃ r : Nat → RowT, r = fun q => if q = i then { g i with timely := real.bnot (g i).timely } else g q := ⟨_, rfl⟩
    refine stop_of hA ⟨[(4, .c (.bp 256 1 0)), (3, .c (.bp 192 1 0)), (0, .c (.bp 0 1 0))], [(449, 1, .arr 13 n fun q => eRow (R q)), (256, 1, .box [.d (eI 0), .d (.v nilS)]), (192, 1, .box [.d (eI mk), .own 449 0 n 1]), (0, 1, .box [.d (.sl 1 m fun i => [eU (b i)]), .d (eI q)])]⟩ (cov_of ?_ ?_ ?_) ?_
    · subst hA; repeat' first | exact True.intro | exact rfl | apply And.intro
    · subst hA
      repeat' first | exact True.intro | exact rfl | apply And.intro | (intro _ _; first | rfl | trivial)
      all_goals
        intro q hq9
        subst hR
        by_cases e : q = i
        · subst e; simp [real]; try rfl
        · simp [real, e]
    · subst hA; repeat' first | exact True.intro | exact rfl | apply And.intro | exact .inl rfl | exact .inr (le_of_nble rfl)
    cbv
    repeat' first
      | apply And.intro
      | exact True.intro
      | with_reducible rfl
      | exact same_of hA rfl
      | refine br_of hA (fun _ => ?_) (fun _ => ?_)
      | exact imp_of hA id
      | (refine imp_of hA ?_; subst hA; simp only [real, Bool.true_and]; exact id)
      | (refine ind_of hA ?_; decide +kernel)
      | (refine fin_of hA ⟨⟨⟨_, ⟨n, R, hnL⟩⟩, _⟩, ?_, rfl, rfl⟩; exact ⟨by simp only; omega, by simp only; omega, show n ≤ 261 by omega, fun _ hok => bd_mono (bd_bad (r' := { g i with timely := real.bnot (g i).timely }) hnL hin (fun q _ => by subst hR; rfl) hb0 (by decide) hok (.inl rfl) (.inl rfl)) (by decide)⟩)
  · obtain ⟨R, hR⟩ : ∃ r : Nat → RowT, r = fun q => if q < n then g q else g i := ⟨_, rfl⟩
    refine stop_of hA ⟨[(4, .c (.bp 256 1 0)), (3, .c (.bp 192 1 0)), (0, .c (.bp 0 1 0))], [(449, 2, .arr 13 (n + 1) fun q => eRow (R q)), (256, 1, .box [.d (eI 0), .d (.v nilS)]), (192, 1, .box [.d (eI mk), .own 449 0 (n + 1) 2]), (0, 1, .box [.d (.sl 1 m fun i => [eU (b i)]), .d (eI q)])]⟩ (cov_of ?_ ?_ ?_) ?_
    · subst hA; repeat' first | exact True.intro | exact rfl | apply And.intro
    · subst hA
      repeat' first | exact True.intro | exact rfl | apply And.intro | (intro _ _; first | rfl | trivial)
      all_goals
        intro q hq9
        subst hR
        have e0 : real.add 0 (real.nat (Int.ofNat i)) = i := Nat.zero_add i
        refine (push_if eRow rfl n g (g (real.add 0 (real.nat (Int.ofNat i)))) _ q hq9).trans ?_
        rw [e0]
    · subst hA; repeat' first | exact True.intro | exact rfl | apply And.intro | exact .inl rfl | exact .inr (le_of_nble rfl)
    cbv
    repeat' first
      | apply And.intro
      | exact True.intro
      | with_reducible rfl
      | exact same_of hA rfl
      | refine br_of hA (fun _ => ?_) (fun _ => ?_)
      | exact imp_of hA id
      | (refine imp_of hA ?_; subst hA; simp only [real, Bool.true_and]; exact id)
      | (refine ind_of hA ?_; decide +kernel)
      | (refine fin_of hA ⟨⟨⟨_, ⟨n + 1, R, Nat.le_trans (show n + 1 ≤ 261 by omega) (by decide)⟩⟩, _⟩, ?_, rfl, rfl⟩; exact ⟨by simp only; omega, by simp only; omega, show n + 1 ≤ 261 by omega, fun _ hok => bd_mono (bd_app _ hin (fun q => by rw [hR]) hb0 (by decide) hok) (by decide)⟩)
  · obtain ⟨R, hR⟩ : ∃ r : Nat → RowT, r = fun q => if q = i then { g i with key := real.sel [-1, 4] (real.add 0 (real.nat x)) } else g q := ⟨_, rfl⟩
    refine stop_of hA ⟨[(4, .c (.bp 256 1 0)), (3, .c (.bp 192 1 0)), (0, .c (.bp 0 1 0))], [(449, 1, .arr 13 n fun q => eRow (R q)), (256, 1, .box [.d (eI 0), .d (.v nilS)]), (192, 1, .box [.d (eI mk), .own 449 0 n 1]), (0, 1, .box [.d (.sl 1 m fun i => [eU (b i)]), .d (eI q)])]⟩ (cov_of ?_ ?_ ?_) ?_
    · subst hA; repeat' first | exact True.intro | exact rfl | apply And.intro
    · subst hA
      repeat' first | exact True.intro | exact rfl | apply And.intro | (intro _ _; first | rfl | trivial)
      all_goals
        intro q hq9
        subst hR
        by_cases e : q = i
        · subst e; simp [real]; try rfl
        · simp [real, e]
    · subst hA; repeat' first | exact True.intro | exact rfl | apply And.intro | exact .inl rfl | exact .inr (le_of_nble rfl)
    cbv
    repeat' first
      | apply And.intro
      | exact True.intro
      | with_reducible rfl
      | exact same_of hA rfl
      | refine br_of hA (fun _ => ?_) (fun _ => ?_)
      | exact imp_of hA id
      | (refine imp_of hA ?_; subst hA; simp only [real, Bool.true_and]; exact id)
      | (refine ind_of hA ?_; decide +kernel)
      | (refine fin_of hA ⟨⟨⟨_, ⟨n, R, hnL⟩⟩, _⟩, ?_, rfl, rfl⟩; exact ⟨by simp only; omega, by simp only; omega, show n ≤ 261 by omega, fun _ hok => bd_mono (bd_bad (r' := { g i with key := real.sel [-1, 4] (real.add 0 (real.nat x)) }) hnL hin (fun q _ => by subst hR; rfl) hb0 (by decide) hok (.inl rfl) (.inl rfl)) (by decide)⟩)
  · obtain ⟨R, hR⟩ : ∃ r : Nat → RowT, r = fun q => if q = i then { g i with win := wi } else g q := ⟨_, rfl⟩
    refine stop_of hA ⟨[(4, .c (.bp 256 1 0)), (3, .c (.bp 192 1 0)), (0, .c (.bp 0 1 0))], [(449, 1, .arr 13 n fun q => eRow (R q)), (256, 1, .box [.d (eI 0), .d (.v nilS)]), (192, 1, .box [.d (eI mk), .own 449 0 n 1]), (0, 1, .box [.d (.sl 1 m fun i => [eU (b i)]), .d (eI q)])]⟩ (cov_of ?_ ?_ ?_) ?_
    · subst hA; repeat' first | exact True.intro | exact rfl | apply And.intro
    · subst hA
      repeat' first | exact True.intro | exact rfl | apply And.intro | (intro _ _; first | rfl | trivial)
      all_goals
        intro q hq9
        subst hR
        by_cases e : q = i
        · subst e; simp [real]; try rfl
        · simp [real, e]
    · subst hA; repeat' first | exact True.intro | exact rfl | apply And.intro | exact .inl rfl | exact .inr (le_of_nble rfl)
    cbv
    repeat' first
      | apply And.intro
      | exact True.intro
      | with_reducible rfl
      | exact same_of hA rfl
      | refine br_of hA (fun _ => ?_) (fun _ => ?_)
      | exact imp_of hA id
      | (refine imp_of hA ?_; subst hA; simp only [real, Bool.true_and]; exact id)
      | (refine ind_of hA ?_; decide +kernel)
      | (refine fin_of hA ⟨⟨⟨_, ⟨n, R, hnL⟩⟩, _⟩, ?_, rfl, rfl⟩; exact ⟨by simp only; omega, by simp only; omega, show n ≤ 261 by omega, fun _ hok => bd_mono (bd_bad (r' := { g i with win := wi }) hnL hin (fun q _ => by subst hR; rfl) hb0 (by decide) hok (.inl rfl) (.inl rfl)) (by decide)⟩)
  · obtain ⟨R, hR⟩ : ∃ r : Nat → RowT, r = fun q => if q = i then { g i with all := ag } else g q := ⟨_, rfl⟩
    refine stop_of hA ⟨[(4, .c (.bp 256 1 0)), (3, .c (.bp 192 1 0)), (0, .c (.bp 0 1 0))], [(449, 1, .arr 13 n fun q => eRow (R q)), (256, 1, .box [.d (eI 0), .d (.v nilS)]), (192, 1, .box [.d (eI mk), .own 449 0 n 1]), (0, 1, .box [.d (.sl 1 m fun i => [eU (b i)]), .d (eI q)])]⟩ (cov_of ?_ ?_ ?_) ?_
    · subst hA; repeat' first | exact True.intro | exact rfl | apply And.intro
    · subst hA
      repeat' first | exact True.intro | exact rfl | apply And.intro | (intro _ _; first | rfl | trivial)
      all_goals
        intro q hq9
        subst hR
        by_cases e : q = i
        · subst e; simp [real]; try rfl
        · simp [real, e]
    · subst hA; repeat' first | exact True.intro | exact rfl | apply And.intro | exact .inl rfl | exact .inr (le_of_nble rfl)
    cbv
    repeat' first
      | apply And.intro
      | exact True.intro
      | with_reducible rfl
      | exact same_of hA rfl
      | refine br_of hA (fun _ => ?_) (fun _ => ?_)
      | exact imp_of hA id
      | (refine imp_of hA ?_; subst hA; simp only [real, Bool.true_and]; exact id)
      | (refine ind_of hA ?_; decide +kernel)
      | (refine fin_of hA ⟨⟨⟨_, ⟨n, R, hnL⟩⟩, _⟩, ?_, rfl, rfl⟩; exact ⟨by simp only; omega, by simp only; omega, show n ≤ 261 by omega, fun _ hok => bd_mono (bd_bad (r' := { g i with all := ag }) hnL hin (fun q _ => by subst hR; rfl) hb0 (by decide) hok (.inr hag) (.inl rfl)) (by decide)⟩)
  · obtain ⟨R, hR⟩ : ∃ r : Nat → RowT, r = fun q => if q = i then { g i with fresh := ag } else g q := ⟨_, rfl⟩
    refine stop_of hA ⟨[(4, .c (.bp 256 1 0)), (3, .c (.bp 192 1 0)), (0, .c (.bp 0 1 0))], [(449, 1, .arr 13 n fun q => eRow (R q)), (256, 1, .box [.d (eI 0), .d (.v nilS)]), (192, 1, .box [.d (eI mk), .own 449 0 n 1]), (0, 1, .box [.d (.sl 1 m fun i => [eU (b i)]), .d (eI q)])]⟩ (cov_of ?_ ?_ ?_) ?_
    · subst hA; repeat' first | exact True.intro | exact rfl | apply And.intro
    · subst hA
      repeat' first | exact True.intro | exact rfl | apply And.intro | (intro _ _; first | rfl | trivial)
      all_goals
        intro q hq9
        subst hR
        by_cases e : q = i
        · subst e; simp [real]; try rfl
        · simp [real, e]
    · subst hA; repeat' first | exact True.intro | exact rfl | apply And.intro | exact .inl rfl | exact .inr (le_of_nble rfl)
    cbv
    repeat' first
      | apply And.intro
      | exact True.intro
      | with_reducible rfl
      | exact same_of hA rfl
      | refine br_of hA (fun _ => ?_) (fun _ => ?_)
      | exact imp_of hA id
      | (refine imp_of hA ?_; subst hA; simp only [real, Bool.true_and]; exact id)
      | (refine ind_of hA ?_; decide +kernel)
      | (refine fin_of hA ⟨⟨⟨_, ⟨n, R, hnL⟩⟩, _⟩, ?_, rfl, rfl⟩; exact ⟨by simp only; omega, by simp only; omega, show n ≤ 261 by omega, fun _ hok => bd_mono (bd_bad (r' := { g i with fresh := ag }) hnL hin (fun q _ => by subst hR; rfl) hb0 (by decide) hok (.inl rfl) (.inl rfl)) (by decide)⟩)
  · obtain ⟨R, hR⟩ : ∃ r : Nat → RowT, r = fun q => if q = i then { g i with told := real.sel [-1, 0, 1, 1501] (real.add 0 (real.nat x)) } else g q := ⟨_, rfl⟩
    refine stop_of hA ⟨[(4, .c (.bp 256 1 0)), (3, .c (.bp 192 1 0)), (0, .c (.bp 0 1 0))], [(449, 1, .arr 13 n fun q => eRow (R q)), (256, 1, .box [.d (eI 0), .d (.v nilS)]), (192, 1, .box [.d (eI mk), .own 449 0 n 1]), (0, 1, .box [.d (.sl 1 m fun i => [eU (b i)]), .d (eI q)])]⟩ (cov_of ?_ ?_ ?_) ?_
    · subst hA; repeat' first | exact True.intro | exact rfl | apply And.intro
    · subst hA
      repeat' first | exact True.intro | exact rfl | apply And.intro | (intro _ _; first | rfl | trivial)
      all_goals
        intro q hq9
        subst hR
        by_cases e : q = i
        · subst e; simp [real]; try rfl
        · simp [real, e]
    · subst hA; repeat' first | exact True.intro | exact rfl | apply And.intro | exact .inl rfl | exact .inr (le_of_nble rfl)
    cbv
    repeat' first
      | apply And.intro
      | exact True.intro
      | with_reducible rfl
      | exact same_of hA rfl
      | refine br_of hA (fun _ => ?_) (fun _ => ?_)
      | exact imp_of hA id
      | (refine imp_of hA ?_; subst hA; simp only [real, Bool.true_and]; exact id)
      | (refine ind_of hA ?_; decide +kernel)
      | (refine fin_of hA ⟨⟨⟨_, ⟨n, R, hnL⟩⟩, _⟩, ?_, rfl, rfl⟩; exact ⟨by simp only; omega, by simp only; omega, show n ≤ 261 by omega, fun _ hok => bd_mono (bd_bad (r' := { g i with told := real.sel [-1, 0, 1, 1501] (real.add 0 (real.nat x)) }) hnL hin (fun q _ => by subst hR; rfl) hb0 (by decide) hok (.inl rfl) (.inr (selT rfl (by assumption) (by assumption)))) (by decide)⟩)
  · obtain ⟨R, hR⟩ : ∃ r : Nat → RowT, r = fun q => if q = i then { g i with timely := real.bnot (g i).timely } else g q := ⟨_, rfl⟩
    refine stop_of hA ⟨[(4, .c (.bp 256 1 0)), (3, .c (.bp 192 1 0)), (0, .c (.bp 0 1 0))], [(449, 1, .arr 13 n fun q => eRow (R q)), (256, 1, .box [.d (eI 0), .d (.v nilS)]), (192, 1, .box [.d (eI mk), .own 449 0 n 1]), (0, 1, .box [.d (.sl 1 m fun i => [eU (b i)]), .d (eI q)])]⟩ (cov_of ?_ ?_ ?_) ?_
    · subst hA; repeat' first | exact True.intro | exact rfl | apply And.intro
    · subst hA
      repeat' first | exact True.intro | exact rfl | apply And.intro | (intro _ _; first | rfl | trivial)
      all_goals
        intro q hq9
        subst hR
        by_cases e : q = i
        · subst e; simp [real]; try rfl
        · simp [real, e]
    · subst hA; repeat' first | exact True.intro | exact rfl | apply And.intro | exact .inl rfl | exact .inr (le_of_nble rfl)
    cbv
    repeat' first
      | apply And.intro
      | exact True.intro
      | with_reducible rfl
      | exact same_of hA rfl
      | refine br_of hA (fun _ => ?_) (fun _ => ?_)
      | exact imp_of hA id
      | (refine imp_of hA ?_; subst hA; simp only [real, Bool.true_and]; exact id)
      | (refine ind_of hA ?_; decide +kernel)
      | (refine fin_of hA ⟨⟨⟨_, ⟨n, R, hnL⟩⟩, _⟩, ?_, rfl, rfl⟩; exact ⟨by simp only; omega, by simp only; omega, show n ≤ 261 by omega, fun _ hok => bd_mono (bd_bad (r' := { g i with timely := real.bnot (g i).timely }) hnL hin (fun q _ => by subst hR; rfl) hb0 (by decide) hok (.inl rfl) (.inl rfl)) (by decide)⟩)
  · obtain ⟨R, hR⟩ : ∃ r : Nat → RowT, r = fun q => if q < n then g q else g i := ⟨_, rfl⟩
    refine stop_of hA ⟨[(4, .c (.bp 256 1 0)), (3, .c (.bp 192 1 0)), (0, .c (.bp 0 1 0))], [(449, 2, .arr 13 (n + 1) fun q => eRow (R q)), (256, 1, .box [.d (eI 0), .d (.v nilS)]), (192, 1, .box [.d (eI mk), .own 449 0 (n + 1) 2]), (0, 1, .box [.d (.sl 1 m fun i => [eU (b i)]), .d (eI q)])]⟩ (cov_of ?_ ?_ ?_) ?_
    · subst hA; repeat' first | exact True.intro | exact rfl | apply And.intro
    · subst hA
      repeat' first | exact True.intro | exact rfl | apply And.intro | (intro _ _; first | rfl | trivial)
      all_goals
        intro q hq9
        subst hR
        have e0 : real.add 0 (real.nat (Int.ofNat i)) = i := Nat.zero_add i
        refine (push_if eRow rfl n g (g (real.add 0 (real.nat (Int.ofNat i)))) _ q hq9).trans ?_
        rw [e0]
    · subst hA; repeat' first | exact True.intro | exact rfl | apply And.intro | exact .inl rfl | exact .inr (le_of_nble rfl)
    cbv
    repeat' first
      | apply And.intro
      | exact True.intro
      | with_reducible rfl
      | exact same_of hA rfl
      | refine br_of hA (fun _ => ?_) (fun _ => ?_)
      | exact imp_of hA id
      | (refine imp_of hA ?_; subst hA; simp only [real, Bool.true_and]; exact id)
      | (refine ind_of hA ?_; decide +kernel)
      | (refine fin_of hA ⟨⟨⟨_, ⟨n + 1, R, Nat.le_trans (show n + 1 ≤ 261 by omega) (by decide)⟩⟩, _⟩, ?_, rfl, rfl⟩; exact ⟨by simp only; omega, by simp only; omega, show n + 1 ≤ 261 by omega, fun _ hok => bd_mono (bd_app _ hin (fun q => by rw [hR]) hb0 (by decide) hok) (by decide)⟩)
end Go.Rk
/- Draws: any. -/
namespace Go.Rk
set_option linter.unusedSimpArgs false
set_option linter.unusedVariables false
open Go.Proofs
set_option maxRecDepth 100000
set_option maxHeartbeats 1000000
theorem x2_badD (m : Nat) (hm : m ≤ 2000) (b : Nat → Int) (hb : ∀ i, 0 ≤ b i ∧ b i ≤ 255) (p : Int) (hp : 0 ≤ p ∧ p ≤ 50000) (s : OpStT) (hs : s.rows.n ≤ 260) (hb0 : Bd 60 (rowsL s)) : ∃ y : OpStT × Int, (p ≤ y.2 ∧ y.2 ≤ p + 60 ∧ y.1.rows.n ≤ 261 ∧ ∀ j, OpOkP j y.1 → Bd 130 (rowsL y.1)) ∧ Meets Try.prog 118 [.c (.box [.d (.sl 1 m fun i => [eU (b i)]), .d (eI p)]), .agg [.d (eI s.mark), .d (.sl 13 s.rows.n fun i => eRow (s.rows.g i))]] ⟨.one (.agg [.d (eI y.1.mark), .d (.sl 13 y.1.rows.n fun i => eRow (y.1.rows.g i))]), [some (.box [.d (.sl 1 m fun i => [eU (b i)]), .d (eI y.2)]), none]⟩ := by
  obtain ⟨y, hy, h⟩ := x2_bad m hm b hb p hp s hs hb0
  exact ⟨y, hy, meets_frz h rfl⟩
theorem x2_any (m : Nat) (hm : m ≤ 2000) (b : Nat → Int) (hb : ∀ i, 0 ≤ b i ∧ b i ≤ 255) (p : Int) (hp : 0 ≤ p ∧ p ≤ 30000) (n : Int) (hn : 1 ≤ n ∧ n ≤ 100) : ∃ y : (JobT × OpStT) × Int, (p ≤ y.2 ∧ y.2 ≤ p + 400 ∧ y.1.2.rows.n ≤ 261 ∧ (OpOkP y.1.1 y.1.2 → Bd 130 (rowsL y.1.2))) ∧ Meets Try.prog 62 [.c (.box [.d (.sl 1 m fun i => [eU (b i)]), .d (eI p)]), .c (.d (eI n))] ⟨.tup [xd (eJob y.1.1), .agg [.d (eI y.1.2.mark), .d (.sl 13 y.1.2.rows.n fun i => eRow (y.1.2.rows.g i))]], [some (.box [.d (.sl 1 m fun i => [eU (b i)]), .d (eI y.2)]), none]⟩ := by
  refine meets_ex (H := []) (EX := EXD) ttok mixed ([some (.box [.d (.sl 1 m fun i => [eU (b i)]), .d (eI 0)]), none]) Try.func62 rfl (by kernel_rfl) (by decide) (fun _ => rfl) ?_
  generalize hA : real = A
  generalize hM : MeetsB Try.prog = M
  cbv
  repeat' first
    | apply And.intro
    | exact True.intro
    | with_reducible rfl
    | exact same_of hA rfl
    | refine br_of hA (fun _ => ?_) (fun _ => ?_)
    | exact imp_of hA id
    | (refine imp_of hA ?_; subst hA; simp only [real, Bool.true_and]; exact id)
    | (refine ind_of hA ?_; decide +kernel)
    | (refine call_ex hA hM (x_job m hm b hb _ (by omega)) ?_; rintro ⟨j, q⟩ ⟨hq0, hq1⟩; dsimp only at hq0 hq1; cbv)
    | (refine call_ex hA hM (x2_op m hm b hb _ (by omega) ⟨_, _, _, _, _, _, _, _, _, _⟩) ?_; rintro ⟨s, q⟩ ⟨hq0, hq1, hs, hb0⟩; dsimp only at hq0 hq1 hs hb0; cbv)
    | (refine call_ex hA hM (x_pick m hm b hb _ (by omega) _ (by omega)) ?_; rintro ⟨x, q⟩ ⟨hx0, hx1, hq⟩; dsimp only at hx0 hx1 hq; cbv)
    | (refine call_ex hA hM (x_anyJob m hm b hb _ (by omega) _ (by omega)) ?_; rintro ⟨j, q⟩ ⟨hq0, hq1⟩; dsimp only at hq0 hq1; cbv)
    | (refine call_ex hA hM (x2_badD m hm b hb _ (by omega) s hs hb0) ?_; rintro ⟨s2, q⟩ ⟨hq0, hq1, hs2, hb2⟩; dsimp only at hq0 hq1 hs2 hb2; cbv)
    | (refine inb_of hA (fun _ => ?_); (first | omega | (constructor <;> omega)))
    | (refine fin_of hA ⟨⟨⟨⟨_, _, _, _, _, _, _, _, _, _⟩, s2⟩, _⟩, ?_, rfl, rfl⟩; exact ⟨by simp only; omega, by simp only; omega, hs2, fun h => hb2 _ h⟩)
    | (refine fin_of hA ⟨⟨⟨⟨_, _, _, _, _, _, _, _, _, _⟩, s⟩, _⟩, ?_, rfl, rfl⟩; exact ⟨by simp only; omega, by simp only; omega, Nat.le_succ_of_le hs, fun _ => bd_mono hb0 (by decide)⟩)
theorem x2_drawTake (M0 : Nat) (b : Nat → Int) (hb : ∀ i, 0 ≤ b i ∧ b i ≤ 255) : ∃ y : JobT × OpStT × ItmT, (y.2.1.rows.n ≤ 261 ∧ (OpOkP y.1 y.2.1 → Bd 130 (rowsL y.2.1))) ∧ Meets Try.prog 47 [.c (.d (.sl 1 M0 fun i => [eU (b i)]))] ⟨.tup [xd (eJob y.1), .agg [.d (eI y.2.1.mark), .d (.sl 13 y.2.1.rows.n fun i => eRow (y.2.1.rows.g i))], xd (eItm y.2.2)], [none]⟩ := by
  obtain ⟨m, hmm⟩ : ∃ m : Nat, m = if 2000 < M0 then 2000 else M0 := ⟨_, rfl⟩
  have hm : m ≤ 2000 := by rw [hmm]; split <;> omega
  have ho := m_open M0 b m hmm
  refine meets_ex (H := []) (EX := EXD) ttok mixed ([none]) Try.func47 rfl (by kernel_rfl) (by decide) (fun _ => rfl) ?_
  generalize hA : real = A
  generalize hM : MeetsB Try.prog = M
  cbv
  repeat' first
    | apply And.intro
    | exact True.intro
    | with_reducible rfl
    | exact same_of hA rfl
    | refine br_of hA (fun _ => ?_) (fun _ => ?_)
    | exact imp_of hA id
    | (refine imp_of hA ?_; subst hA; simp only [real, Bool.true_and]; exact id)
    | (refine ind_of hA ?_; decide +kernel)
    | (refine call_of hA hM _ ho ?_; cbv)
    | (refine call_ex hA hM (c_l1In _ _ _) (fun _ _ => ?_); cbv)
    | (refine call_ex hA hM (x2_any m hm b hb _ (by omega) _ (by omega)) ?_; rintro ⟨⟨j, s⟩, q⟩ ⟨hq0, hq1, hs, hb0⟩; dsimp only at hq0 hq1 hs hb0; cbv)
    | (refine call_ex hA hM (x_rec m hm b hb _ (by omega)) ?_; rintro ⟨it, q⟩ ⟨hq0, hq1⟩; dsimp only at hq0 hq1; cbv)
    | (refine call_ex hA hM (x_item m hm b hb _ (by omega) _ (by omega)) ?_; rintro ⟨it, q⟩ ⟨hq0, hq1⟩; dsimp only at hq0 hq1; cbv)
    | (refine call_ex hA hM (x_pick m hm b hb _ (by omega) _ (by omega)) ?_; rintro ⟨x, q⟩ ⟨hx0, hx1, hq⟩; dsimp only at hx0 hx1 hq; cbv)
    | (refine inb_of hA (fun _ => ?_); (first | omega | (constructor <;> omega)))
    | (refine fin_of hA ⟨⟨j, s, ⟨_, _, _, _, _⟩⟩, ?_, rfl, rfl⟩; exact ⟨hs, hb0⟩)
theorem x2_drawMark (M0 : Nat) (b : Nat → Int) (hb : ∀ i, 0 ≤ b i ∧ b i ≤ 255) : ∃ y : JobT × OpStT × Int, (y.2.1.rows.n ≤ 261 ∧ (OpOkP y.1 y.2.1 → Bd 130 (rowsL y.2.1))) ∧ Meets Try.prog 21 [.c (.d (.sl 1 M0 fun i => [eU (b i)]))] ⟨.tup [xd (eJob y.1), .agg [.d (eI y.2.1.mark), .d (.sl 13 y.2.1.rows.n fun i => eRow (y.2.1.rows.g i))], .c (.d (eI y.2.2))], [none]⟩ := by
  obtain ⟨m, hmm⟩ : ∃ m : Nat, m = if 2000 < M0 then 2000 else M0 := ⟨_, rfl⟩
  have hm : m ≤ 2000 := by rw [hmm]; split <;> omega
  have ho := m_open M0 b m hmm
  refine meets_ex (H := []) (EX := EXD) ttok mixed ([none]) Try.func21 rfl (by kernel_rfl) (by decide) (fun _ => rfl) ?_
  generalize hA : real = A
  generalize hM : MeetsB Try.prog = M
  cbv
  repeat' first
    | apply And.intro
    | exact True.intro
    | with_reducible rfl
    | exact same_of hA rfl
    | refine br_of hA (fun _ => ?_) (fun _ => ?_)
    | exact imp_of hA id
    | (refine imp_of hA ?_; subst hA; simp only [real, Bool.true_and]; exact id)
    | (refine ind_of hA ?_; decide +kernel)
    | (refine call_of hA hM _ ho ?_; cbv)
    | (refine call_ex hA hM (c_l1In _ _ _) (fun _ _ => ?_); cbv)
    | (refine call_ex hA hM (x2_any m hm b hb _ (by omega) _ (by omega)) ?_; rintro ⟨⟨j, s⟩, q⟩ ⟨hq0, hq1, hs, hb0⟩; dsimp only at hq0 hq1 hs hb0; cbv)
    | (refine call_ex hA hM (x_rec m hm b hb _ (by omega)) ?_; rintro ⟨it, q⟩ ⟨hq0, hq1⟩; dsimp only at hq0 hq1; cbv)
    | (refine call_ex hA hM (x_item m hm b hb _ (by omega) _ (by omega)) ?_; rintro ⟨it, q⟩ ⟨hq0, hq1⟩; dsimp only at hq0 hq1; cbv)
    | (refine call_ex hA hM (x_pick m hm b hb _ (by omega) _ (by omega)) ?_; rintro ⟨x, q⟩ ⟨hx0, hx1, hq⟩; dsimp only at hx0 hx1 hq; cbv)
    | (refine inb_of hA (fun _ => ?_); (first | omega | (constructor <;> omega)))
    | (refine fin_of hA ⟨⟨j, s, _⟩, ?_, rfl, rfl⟩; exact ⟨hs, hb0⟩)
end Go.Rk
/- What is found of an operator. -/
namespace Go.Rk
set_option linter.unusedSimpArgs false
set_option linter.unusedVariables false
open Go.Proofs
set_option maxRecDepth 100000
set_option maxHeartbeats 1000000
theorem c_OpFindR (mk : Int) (l : List RowT) (n : Nat) (g : Nat → RowT) (hl : Lst zRow l n g) (hn : n ≤ 1080000) (k : Int) (w : WinT) (r : RowT) (hr : r = (rFind k w l).getD zRow) (b : Bool) (hb : b = (rFind k w l).isSome) : Meets Try.prog 27 [.agg [.d (eI mk), .d (.sl 13 n fun i => eRow (g i))], .c (.d (eI k)), xd (eWin w)] ⟨.tup [xd (eRow r), .c (.d (eB b))], [none, none, none]⟩ := by
  obtain ⟨x, hx, cF⟩ := c_find mk n hn g k w
  cases hx with
  | «at» i hi hp hb' =>
    have e := rfind_some hl hi hp hb'
    rw [e] at hr hb
    have hr : r = g i := hr
    have hb : b = true := hb
    subst hr hb
    refine meets_of (H := []) (EX := EXA) ttok mixed Try.func27 rfl (by kernel_rfl) (by decide) ?_
    generalize hA : real = A
    generalize hM : MeetsB Try.prog = M
    cbv
    repeat' first
      | apply And.intro
      | exact True.intro
      | with_reducible rfl
      | exact same_of hA rfl
      | refine br_of hA (fun _ => ?_) (fun _ => ?_)
      | exact imp_of hA id
      | (refine imp_of hA ?_; subst hA; simp only [real, Bool.true_and]; exact id)
      | (refine ind_of hA ?_; decide +kernel)
      | (refine call_of hA hM _ cF ?_; cbv)
      | (exfalso; rename_i h; subst hA; have h9 : decide ((i : Int) < 0) = true := h; rw [decide_eq_true_eq] at h9; exact absurd h9 (by omega))
      | (refine inb_of hA (fun _ => ?_); exact ⟨Int.natCast_nonneg i, Int.ofNat_lt.2 hi⟩)
    all_goals
      subst hA
      have e0 : real.add 0 (real.nat (Int.ofNat i)) = i := Nat.zero_add i
      first
        | rfl
        | (rw [e0]; rfl)
  | none hb' =>
    have e := rfind_none hl hb'
    rw [e] at hr hb
    have hr : r = zRow := hr
    have hb : b = false := hb
    subst hr hb
    refine meets_of (H := []) (EX := EXA) ttok mixed Try.func27 rfl (by kernel_rfl) (by decide) ?_
    generalize hA : real = A
    generalize hM : MeetsB Try.prog = M
    cbv
    repeat' first
      | apply And.intro
      | exact True.intro
      | with_reducible rfl
      | exact same_of hA rfl
      | refine br_of hA (fun _ => ?_) (fun _ => ?_)
      | exact imp_of hA id
      | (refine imp_of hA ?_; subst hA; simp only [real, Bool.true_and]; exact id)
      | (refine ind_of hA ?_; decide +kernel)
      | (refine call_of hA hM _ cF ?_; cbv)
      | (exfalso; rename_i h; subst hA; have h9 : decide ((-1 : Int) < 0) = false := h; exact absurd h9 (by decide))
    all_goals
      subst hA
      rfl
end Go.Rk
/- Draws: comparisons. -/
namespace Go.Rk
set_option linter.unusedSimpArgs false
set_option linter.unusedVariables false
open Go.Proofs
set_option maxRecDepth 100000
set_option maxHeartbeats 1000000
def st_frPanes (n : Nat) (g : Nat → PaneT) (i : Nat) : St := ⟨[(5, .c (.d (eI i))), (0, .c (.d (.sl 9 n fun i => ePane (g i)))), (1, .c (.d (.sl 9 n fun i => ePane (g i))))], []⟩
theorem c_frPanes (n : Nat) (hn : n ≤ maxLen) (g : Nat → PaneT) : Meets Try.prog 25 [.c (.d (.sl 9 n fun i => ePane (g i))), .c (.d (.sl 9 n fun i => ePane (g i)))] ⟨.one (.c (.d (eB true))), [none, none]⟩ := by
  refine meets_of (H := []) (EX := EXA) ttok mixed Try.func25 rfl (by kernel_rfl) (by decide) ?_
  generalize hA : real = A
  generalize hM : MeetsB Try.prog = M
  cbv
  repeat' first
    | (refine br_f hA ?_ ?_; focus (subst hA; simp [real]; done))
    | apply And.intro
    | exact True.intro
    | with_reducible rfl
    | exact same_of hA rfl
    | refine br_of hA (fun _ => ?_) (fun _ => ?_)
    | exact imp_of hA id
    | (refine imp_of hA ?_; subst hA; simp only [real, Bool.true_and]; exact id)
    | (refine ind_of hA ?_; decide +kernel)
  refine loop_of hA (α := { i : Nat // i ≤ n }) (fun x => st_frPanes n g x.1) (fun x => n - x.1) ⟨0, Nat.zero_le _⟩ ?_ ?_
  · refine cov_of ?_ ?_ ?_
    · cbv; try (subst hA; repeat' first | apply And.intro | exact True.intro | rfl)
    · cbv; try (subst hA; repeat' first | apply And.intro | exact True.intro | rfl)
    · cbv
  rintro ⟨i, hi⟩
  cbv
  repeat' first
    | (refine br_f hA ?_ ?_; focus (subst hA; simp [real]; done))
    | apply And.intro
    | exact True.intro
    | with_reducible rfl
    | exact same_of hA rfl
    | refine br_of hA (fun _ => ?_) (fun _ => ?_)
    | exact imp_of hA id
    | (refine imp_of hA ?_; subst hA; simp only [real, Bool.true_and]; exact id)
    | (refine ind_of hA ?_; decide +kernel)
    | (refine inb_of hA fun _ => ?_; subst hA; simp only [real, Bool.and_eq_true, Bool.not_eq_true', Bool.not_eq_false', decide_eq_true_eq, Int.ofNat_eq_natCast, IntKind.wrap_i64] at *; omega)
  rename_i hlt
  have hlt' : i < n := by subst hA; simp only [real, decide_eq_true_eq, Int.ofNat_eq_natCast] at hlt; omega
  refine ⟨⟨i + 1, by omega⟩, by simp only; omega, cov_of ?_ ?_ ?_⟩
  · cbv
    subst hA
    repeat' first | apply And.intro | exact True.intro | exact congrArg (fun x => DV.v (.int .i64 x)) (up64 hlt' hn) | rfl | (intro k hk; exact push_at rfl _ _ _ _ k hk)
  · cbv; try (subst hA; repeat' first | apply And.intro | exact True.intro | rfl)
  · cbv
def st_frLates (n : Nat) (g : Nat → LatT) (i : Nat) : St := ⟨[(5, .c (.d (eI i))), (0, .c (.d (.sl 7 n fun i => eLat (g i)))), (1, .c (.d (.sl 7 n fun i => eLat (g i))))], []⟩
theorem c_frLates (n : Nat) (hn : n ≤ maxLen) (g : Nat → LatT) : Meets Try.prog 17 [.c (.d (.sl 7 n fun i => eLat (g i))), .c (.d (.sl 7 n fun i => eLat (g i)))] ⟨.one (.c (.d (eB true))), [none, none]⟩ := by
  refine meets_of (H := []) (EX := EXA) ttok mixed Try.func17 rfl (by kernel_rfl) (by decide) ?_
  generalize hA : real = A
  generalize hM : MeetsB Try.prog = M
  cbv
  repeat' first
    | (refine br_f hA ?_ ?_; focus (subst hA; simp [real]; done))
    | apply And.intro
    | exact True.intro
    | with_reducible rfl
    | exact same_of hA rfl
    | refine br_of hA (fun _ => ?_) (fun _ => ?_)
    | exact imp_of hA id
    | (refine imp_of hA ?_; subst hA; simp only [real, Bool.true_and]; exact id)
    | (refine ind_of hA ?_; decide +kernel)
  refine loop_of hA (α := { i : Nat // i ≤ n }) (fun x => st_frLates n g x.1) (fun x => n - x.1) ⟨0, Nat.zero_le _⟩ ?_ ?_
  · refine cov_of ?_ ?_ ?_
    · cbv; try (subst hA; repeat' first | apply And.intro | exact True.intro | rfl)
    · cbv; try (subst hA; repeat' first | apply And.intro | exact True.intro | rfl)
    · cbv
  rintro ⟨i, hi⟩
  cbv
  repeat' first
    | (refine br_f hA ?_ ?_; focus (subst hA; simp [real]; done))
    | apply And.intro
    | exact True.intro
    | with_reducible rfl
    | exact same_of hA rfl
    | refine br_of hA (fun _ => ?_) (fun _ => ?_)
    | exact imp_of hA id
    | (refine imp_of hA ?_; subst hA; simp only [real, Bool.true_and]; exact id)
    | (refine ind_of hA ?_; decide +kernel)
    | (refine inb_of hA fun _ => ?_; subst hA; simp only [real, Bool.and_eq_true, Bool.not_eq_true', Bool.not_eq_false', decide_eq_true_eq, Int.ofNat_eq_natCast, IntKind.wrap_i64] at *; omega)
  rename_i hlt
  have hlt' : i < n := by subst hA; simp only [real, decide_eq_true_eq, Int.ofNat_eq_natCast] at hlt; omega
  refine ⟨⟨i + 1, by omega⟩, by simp only; omega, cov_of ?_ ?_ ?_⟩
  · cbv
    subst hA
    repeat' first | apply And.intro | exact True.intro | exact congrArg (fun x => DV.v (.int .i64 x)) (up64 hlt' hn) | rfl | (intro k hk; exact push_at rfl _ _ _ _ k hk)
  · cbv; try (subst hA; repeat' first | apply And.intro | exact True.intro | rfl)
  · cbv
def st_frOp (mk : Int) (n : Nat) (g : Nat → RowT) (i : Nat) : St := ⟨[(5, .c (.d (eI i))), (3, .c (.bp 192 1 0)), (2, .c (.bp 128 1 0))], [(192, 1, .box [.d (eI mk), .d (.sl 13 n fun i => eRow (g i))]), (128, 1, .box [.d (eI mk), .d (.sl 13 n fun i => eRow (g i))])]⟩
theorem c_frOp (mk : Int) (n : Nat) (hn : n ≤ maxLen) (g : Nat → RowT) : Meets Try.prog 24 [.agg [.d (eI mk), .d (.sl 13 n fun i => eRow (g i))], .agg [.d (eI mk), .d (.sl 13 n fun i => eRow (g i))]] ⟨.one (.c (.d (eB true))), [none, none]⟩ := by
  refine meets_of (H := []) (EX := EXA) ttok mixed Try.func24 rfl (by kernel_rfl) (by decide) ?_
  generalize hA : real = A
  generalize hM : MeetsB Try.prog = M
  cbv
  repeat' first
    | (refine br_f hA ?_ ?_; focus (subst hA; simp [real]; done))
    | apply And.intro
    | exact True.intro
    | with_reducible rfl
    | exact same_of hA rfl
    | refine br_of hA (fun _ => ?_) (fun _ => ?_)
    | exact imp_of hA id
    | (refine imp_of hA ?_; subst hA; simp only [real, Bool.true_and]; exact id)
    | (refine ind_of hA ?_; decide +kernel)
  refine loop_of hA (α := { i : Nat // i ≤ n }) (fun x => st_frOp mk n g x.1) (fun x => n - x.1) ⟨0, Nat.zero_le _⟩ ?_ ?_
  · refine cov_of ?_ ?_ ?_
    · cbv; try (subst hA; repeat' first | apply And.intro | exact True.intro | rfl)
    · cbv; try (subst hA; repeat' first | apply And.intro | exact True.intro | rfl)
    · cbv
  rintro ⟨i, hi⟩
  cbv
  repeat' first
    | (refine br_f hA ?_ ?_; focus (subst hA; simp [real]; done))
    | apply And.intro
    | exact True.intro
    | with_reducible rfl
    | exact same_of hA rfl
    | refine br_of hA (fun _ => ?_) (fun _ => ?_)
    | exact imp_of hA id
    | (refine imp_of hA ?_; subst hA; simp only [real, Bool.true_and]; exact id)
    | (refine ind_of hA ?_; decide +kernel)
    | (refine inb_of hA fun _ => ?_; subst hA; simp only [real, Bool.and_eq_true, Bool.not_eq_true', Bool.not_eq_false', decide_eq_true_eq, Int.ofNat_eq_natCast, IntKind.wrap_i64] at *; omega)
  rename_i hlt
  have hlt' : i < n := by subst hA; simp only [real, decide_eq_true_eq, Int.ofNat_eq_natCast] at hlt; omega
  refine ⟨⟨i + 1, by omega⟩, by simp only; omega, cov_of ?_ ?_ ?_⟩
  · cbv
    subst hA
    repeat' first | apply And.intro | exact True.intro | exact congrArg (fun x => DV.v (.int .i64 x)) (up64 hlt' hn) | rfl | (intro k hk; exact push_at rfl _ _ _ _ k hk)
  · cbv; try (subst hA; repeat' first | apply And.intro | exact True.intro | rfl)
  · cbv; try (subst hA; repeat' first | apply And.intro | exact True.intro | rfl | exact .inr trivial | exact .inl trivial)
theorem c_frOk : Meets Try.prog 20 [] ⟨.one (.c (.d (eB true))), []⟩ := by
  have h : Meets Try.prog 61 [.agg [.d (eI 0), .d (eI 1)]] ⟨.one (.c (.d (eB true))), [none]⟩ := by
    obtain ⟨b, hb, h⟩ := c_WinOk 0 1
    have e : b = true := by rw [hb]; decide
    rw [e] at h; exact h
  refine meets_of (H := []) (EX := EXA) ttok mixed Try.func20 rfl (by kernel_rfl) (by decide) ?_
  generalize hA : real = A
  generalize hM : MeetsB Try.prog = M
  cbv
  repeat' first
    | apply And.intro
    | exact True.intro
    | with_reducible rfl
    | exact same_of hA rfl
    | refine br_of hA (fun _ => ?_) (fun _ => ?_)
    | exact imp_of hA id
    | (refine imp_of hA ?_; subst hA; simp only [real, Bool.true_and]; exact id)
    | (refine ind_of hA ?_; decide +kernel)
    | (refine call_of hA hM _ h ?_; cbv)
end Go.Rk
/- Draws: the empty operator. -/
namespace Go.Rk
set_option linter.unusedSimpArgs false
set_option linter.unusedVariables false
open Go.Proofs
set_option maxRecDepth 100000
set_option maxHeartbeats 1000000
theorem c_frOp0 (g : Nat → RowT) : Meets Try.prog 24 [.agg [.d (eI 0), .d (.sl 13 0 fun i => eRow (g i))], .agg [.d (eI 0), .d (.v nilS)]] ⟨.one (.c (.d (eB true))), [none, none]⟩ := by
  refine meets_of (H := []) (EX := EXA) ttok mixed Try.func24 rfl (by kernel_rfl) (by decide) ?_
  generalize hA : real = A
  generalize hM : MeetsB Try.prog = M
  cbv
  repeat' first
    | (refine br_f hA ?_ ?_; focus (subst hA; simp [real]; done))
    | apply And.intro
    | exact True.intro
    | with_reducible rfl
    | exact same_of hA rfl
    | refine br_of hA (fun _ => ?_) (fun _ => ?_)
    | exact imp_of hA id
    | (refine imp_of hA ?_; subst hA; simp only [real, Bool.true_and]; exact id)
    | (refine ind_of hA ?_; decide +kernel)
  refine loop_of hA (α := Unit) (fun _ => ⟨[(5, .c (.d (eI 0))), (3, .c (.bp 192 1 0)), (2, .c (.bp 128 1 0))], [(192, 1, .box [.d (eI 0), .d (.v nilS)]), (128, 1, .box [.d (eI 0), .d (.sl 13 0 fun i => eRow (g i))])]⟩) (fun _ => 0) () ?_ ?_
  · refine cov_of ?_ ?_ ?_
    · cbv; try (subst hA; repeat' first | apply And.intro | exact True.intro | rfl)
    · cbv; try (subst hA; repeat' first | apply And.intro | exact True.intro | rfl)
    · cbv
  rintro ⟨⟩
  cbv
  repeat' first
    | (refine br_f hA ?_ ?_; focus (subst hA; simp [real]; done))
    | apply And.intro
    | exact True.intro
    | with_reducible rfl
    | exact same_of hA rfl
    | refine br_of hA (fun _ => ?_) (fun _ => ?_)
    | exact imp_of hA id
    | (refine imp_of hA ?_; subst hA; simp only [real, Bool.true_and]; exact id)
    | (refine ind_of hA ?_; decide +kernel)
    | (refine inb_of hA fun _ => ?_; subst hA; simp only [real, Bool.and_eq_true, Bool.not_eq_true', Bool.not_eq_false', decide_eq_true_eq, Int.ofNat_eq_natCast, IntKind.wrap_i64] at *; omega)
end Go.Rk
/- An operator stays one. -/
namespace Go.Rk
set_option linter.unusedSimpArgs false
set_option linter.unusedVariables false
theorem take_stays {j : JobT} {s : OpStT} {m : ItmT} {x : Int × List RowT × List PaneT × List LatT} {B : Int} (hx : x = opTakeL j s m) (hok : OpOkP j s) (hr : RecP m) (hB : 0 ≤ B ∧ B ≤ 270) (hb : Bd B (rowsL s)) {k : Nat} {G : Nat → RowT} (hG : Lst zRow x.2.1 k G) (hkL : k ≤ maxLen) :
    OpOkP j ⟨x.1, ⟨k, G, hkL⟩⟩ ∧ x.1 = s.mark ∧ Bd (B + 4) (rowsL ⟨x.1, ⟨k, G, hkL⟩⟩) ∧ (∀ p, p ∈ x.2.2.1 → PaneOkP p ∧ p.key = m.key) ∧ x.2 = takeL j s.mark m (winsL j m.t) (rowsL s) := by
  have hrows := bd_rows hok hb
  have h280 : s.rows.n ≤ 280 := by omega
  obtain ⟨h1, h2, h3, h4⟩ := take_ok (T := B) hok hr h280 (by have := hb.1; omega) (by omega) fun r hr => (hb.2 r hr).2
  have e1 : x.1 = s.mark := by rw [hx]; unfold opTakeL; rw [if_pos ⟨hok, hr, h280⟩]
  have e2 : x.2 = takeL j s.mark m (winsL j m.t) (rowsL s) := by rw [hx]; unfold opTakeL; rw [if_pos ⟨hok, hr, h280⟩]
  have hbd : Bd (B + 4) x.2.1 := by rw [hx]; exact bd_take hb (by omega)
  rw [← hx] at h1 h4
  have hlen : (x.2.1.length : Int) ≤ B + 4 := Int.le_trans (sumN_rows h1.1) hbd.1
  have hk : k ≤ 300 := by have := hG.1; omega
  refine ⟨?_, e1, bd_lst hbd hG hkL, h4, e2⟩
  have := ok_of (mk := x.1) hG hkL hok.1 (by rw [e1]; exact hok.2.1) hk (by rw [e1]; exact h1)
  exact this
theorem mark_stays {j : JobT} {s : OpStT} {m : Int} {x : Int × List RowT × List PaneT} (hx : x = opMarkL j s m) (hok : OpOkP j s) (hm : 0 ≤ m ∧ m ≤ 1000) {k : Nat} {G : Nat → RowT} (hG : Lst zRow x.2.1 k G) (hkL : k ≤ maxLen) :
    OpOkP j ⟨x.1, ⟨k, G, hkL⟩⟩ ∧ s.mark ≤ x.1 ∧ (∀ p, p ∈ x.2.2 → PaneOkP p) := by
  have hol := okL_of hok
  obtain ⟨h1, h2, h3, _, _, h4⟩ := mark_ok (T := 1500) hok hm (by decide) fun r hr => (hol.1 r hr).2.2.2.2.2.2.1.2
  have hlen := (opMarkL_len j s m).1
  rw [← hx] at h1 h2 h3 h4 hlen
  have h0 := hok.2.1
  have h300 := hok.2.2.1
  exact ⟨ok_of hG hkL hok.1 (by omega) (by rw [hG.1]; omega) h3, h1, h4⟩
end Go.Rk
/- Keys do not see each other. -/
namespace Go.Rk
set_option linter.unusedSimpArgs false
set_option linter.unusedVariables false
def restK (k : Int) (l : List RowT) : List RowT := l.filter fun r => decide (r.key = k)
theorem mem_restK {k : Int} {l : List RowT} {r : RowT} : r ∈ restK k l ↔ r ∈ l ∧ r.key = k := by
  unfold restK; rw [List.mem_filter]; simp
theorem rise_restK {k : Int} {l : List RowT} (h : RiseR l) : RiseR (restK k l) := List.Pairwise.filter _ h
theorem rise_eq {l m : List RowT} (hl : RiseR l) (hm : RiseR m) (h : ∀ x, x ∈ l ↔ x ∈ m) : l = m := sorted_ext ra_irr (fun _ _ _ => ra_tr) hl hm h
theorem rfind_no {k : Int} {w : WinT} {l : List RowT} (h : rFind k w l = none) {q : RowT} (hq : q ∈ l) : ¬ IsR k w q := by
  unfold rFind at h
  rw [List.find?_eq_none] at h
  have := h q hq
  simpa using this
theorem rfind_restK {k : Int} {w : WinT} {l : List RowT} (h : RiseR l) : rFind k w (restK k l) = rFind k w l := by
  cases hf : rFind k w l with
  | some r =>
    obtain ⟨h1, h2⟩ := rfind_mem hf
    exact rfind_in (rise_restK h) (mem_restK.2 ⟨h1, h2.1⟩) h2
  | none => exact sumN_none fun q hq => rfind_no hf (mem_restK.1 hq).1
theorem rput_restK {r : RowT} {k : Int} {l : List RowT} (h : RiseR l) (hk : r.key = k) : restK k (rPut r l) = rPut r (restK k l) := by
  refine rise_eq (rise_restK (rise_rPut h)) (rise_rPut (rise_restK h)) fun x => ?_
  rw [mem_restK, mem_rPut, mem_rPut, mem_restK]
  constructor
  · rintro ⟨rfl | ⟨h1, h2⟩, h3⟩
    · exact .inl rfl
    · exact .inr ⟨⟨h1, h3⟩, h2⟩
  · rintro (rfl | ⟨⟨h1, h3⟩, h2⟩)
    · exact ⟨.inl rfl, hk⟩
    · exact ⟨.inr ⟨h1, h2⟩, h3⟩
theorem rput_other {r : RowT} {k : Int} {l : List RowT} (h : RiseR l) (hk : r.key ≠ k) : restK k (rPut r l) = restK k l := by
  refine rise_eq (rise_restK (rise_rPut h)) (rise_restK h) fun x => ?_
  rw [mem_restK, mem_rPut, mem_restK]
  constructor
  · rintro ⟨rfl | ⟨h1, h2⟩, h3⟩
    · exact absurd h3 hk
    · exact ⟨h1, h3⟩
  · rintro ⟨h1, h3⟩
    exact ⟨.inr ⟨h1, fun hc => hk (hc.1.symm.trans h3)⟩, h3⟩
theorem tell_key {j : JobT} {m k v : Int} {w : WinT} {l : List RowT} : (tellS j m (addR ((rFind k w l).getD (nrow k w)) v)).1.key = k := ((tellS_all j m _).2.1).trans (isR_eq getD_is).1
theorem into_restK {j : JobT} {m k v : Int} {w : WinT} {l : List RowT} (h : RiseR l) : intoL j m k v w (restK k l) = (intoL j m k v w l).map fun q => (restK k q.1, q.2) := by
  unfold intoL
  split
  · rfl
  · rw [rfind_restK h]
    refine congrArg some (Prod.ext ?_ rfl)
    exact (rput_restK h tell_key).symm
theorem into_other {j : JobT} {m k k' v : Int} {w : WinT} {l : List RowT} {q : List RowT × List PaneT} (h : RiseR l) (hk : k ≠ k') (he : intoL j m k v w l = some q) : restK k' q.1 = restK k' l := by
  unfold intoL at he
  split at he
  · cases he
  · cases he
    exact rput_other h (by rw [tell_key]; exact hk)
theorem old_restK (k : Int) (w : WinT) (l : List RowT) : oldL k w (restK k l) = oldL k w l := by
  unfold oldL restK
  rw [List.filter_filter]
  refine List.filter_congr fun r _ => ?_
  unfold tchR
  by_cases h : r.key = k
  · simp [h]
  · simp [h]
theorem rest_restK (k : Int) (w : WinT) (l : List RowT) : restL k w (restK k l) = restK k (restL k w l) := by
  unfold restL restK
  rw [List.filter_filter, List.filter_filter]
  refine List.filter_congr fun r _ => ?_
  exact Bool.and_comm _ _
theorem rest_other {k k' : Int} (w : WinT) (l : List RowT) (hk : k ≠ k') : restK k' (restL k w l) = restK k' l := by
  unfold restL restK
  rw [List.filter_filter]
  refine List.filter_congr fun r _ => ?_
  by_cases h : r.key = k'
  · have : ¬ r.key = k := fun e => hk (e.symm.trans h)
    have e2 : tchR k w r = false := by show decide (r.key = k ∧ (r.win.s < w.e ∧ w.s < r.win.e)) = false; exact decide_eq_false (fun hc => this hc.1)
    rw [e2]; simp
  · simp [h]
theorem sess_restK {j : JobT} {m k v : Int} {w : WinT} {l : List RowT} (h : RiseR l) : sessL j m k v w (restK k l) = (sessL j m k v w l).map fun q => (restK k q.1, q.2) := by
  unfold sessL
  rw [old_restK]
  split
  · rfl
  · split
    · exact into_restK h
    · refine congrArg some (Prod.ext ?_ rfl)
      rw [rest_restK]
      exact (rput_restK (rest_rise h) ((tellS_all j m _).2.1)).symm
theorem sess_other {j : JobT} {m k k' v : Int} {w : WinT} {l : List RowT} {q : List RowT × List PaneT} (h : RiseR l) (hk : k ≠ k') (he : sessL j m k v w l = some q) : restK k' q.1 = restK k' l := by
  unfold sessL at he
  split at he
  · cases he
  · split at he
    · exact into_other h hk he
    · cases he
      rw [rput_other (rest_rise h) (by rw [(tellS_all j m _).2.1]; exact hk), rest_other w l hk]
theorem step_restK {j : JobT} {m : Int} {x : ItmT} {w : WinT} {l : List RowT} (h : RiseR l) : stepT j m x w (restK x.key l) = (stepT j m x w l).map fun q => (restK x.key q.1, q.2) := by
  unfold stepT
  split
  · exact sess_restK h
  · exact into_restK h
theorem step_other {j : JobT} {m k' : Int} {x : ItmT} {w : WinT} {l : List RowT} {q : List RowT × List PaneT} (h : RiseR l) (hk : x.key ≠ k') (he : stepT j m x w l = some q) : restK k' q.1 = restK k' l := by
  unfold stepT at he
  split at he
  · exact sess_other h hk he
  · exact into_other h hk he
theorem step_rise {j : JobT} {m : Int} {x : ItmT} {w : WinT} {l : List RowT} {q : List RowT × List PaneT} (h : RiseR l) (he : stepT j m x w l = some q) : RiseR q.1 := by
  unfold stepT at he
  split at he
  · exact rise_sess h he
  · exact rise_into h he
theorem fold_restK {j : JobT} {m : Int} {x : ItmT} : ∀ (ws : List WinT) (l : List RowT) (a : List PaneT) (c : List LatT), RiseR l →
    ws.foldl (takeS j m x) (restK x.key l, a, c) = (restK x.key (ws.foldl (takeS j m x) (l, a, c)).1, (ws.foldl (takeS j m x) (l, a, c)).2) ∧ ∀ k', x.key ≠ k' → restK k' (ws.foldl (takeS j m x) (l, a, c)).1 = restK k' l
  | [], l, a, c, _ => ⟨rfl, fun _ _ => rfl⟩
  | w :: ws, l, a, c, h => by
    rw [List.foldl_cons, List.foldl_cons]
    cases hq : stepT j m x w l with
    | none =>
      have h2 := step_restK (j := j) (m := m) (x := x) (w := w) h
      rw [hq] at h2
      rw [takeS_none (a := (l, a, c)) hq, takeS_none (a := (restK x.key l, a, c)) h2]
      exact fold_restK ws l a (c ++ [(⟨x, w⟩ : LatT)]) h
    | some q =>
      have h2 := step_restK (j := j) (m := m) (x := x) (w := w) h
      rw [hq] at h2
      have h2 : stepT j m x w (restK x.key l) = some (restK x.key q.1, q.2) := h2
      rw [takeS_some (a := (l, a, c)) hq, takeS_some (a := (restK x.key l, a, c)) h2]
      obtain ⟨i1, i2⟩ := fold_restK (j := j) (m := m) (x := x) ws q.1 (a ++ q.2) c (step_rise h hq)
      exact ⟨i1, fun k' hk => (i2 k' hk).trans (step_other h hk hq)⟩
theorem takeL_restK {j : JobT} {m : Int} {x : ItmT} {ws : List WinT} {l : List RowT} (h : RiseR l) : (takeL j m x ws (restK x.key l)).1 = restK x.key (takeL j m x ws l).1 ∧ (takeL j m x ws (restK x.key l)).2 = (takeL j m x ws l).2 ∧ ∀ k', x.key ≠ k' → restK k' (takeL j m x ws l).1 = restK k' l := by
  obtain ⟨h1, h2⟩ := fold_restK (j := j) (m := m) (x := x) ws l [] [] h
  unfold takeL
  rw [h1]
  exact ⟨rfl, rfl, h2⟩
/-- Records of two keys, in either order. -/
theorem take_comm {j : JobT} {m : Int} {x z : ItmT} {wx wz : List WinT} {l : List RowT} (h : RiseR l) (hne : x.key ≠ z.key) :
    (takeL j m z wz (takeL j m x wx l).1).1 = (takeL j m x wx (takeL j m z wz l).1).1 ∧ (takeL j m z wz (takeL j m x wx l).1).2 = (takeL j m z wz l).2 ∧ (takeL j m x wx (takeL j m z wz l).1).2 = (takeL j m x wx l).2 := by
  have rx := rise_takeL (j := j) (m := m) (x := x) h wx
  have rz := rise_takeL (j := j) (m := m) (x := z) h wz
  obtain ⟨a1, a2, a3⟩ := takeL_restK (j := j) (m := m) (x := x) (ws := wx) h
  obtain ⟨b1, b2, b3⟩ := takeL_restK (j := j) (m := m) (x := z) (ws := wz) h
  obtain ⟨c1, c2, c3⟩ := takeL_restK (j := j) (m := m) (x := z) (ws := wz) rx
  obtain ⟨d1, d2, d3⟩ := takeL_restK (j := j) (m := m) (x := x) (ws := wx) rz
  have e1 := a3 z.key hne
  have e2 := b3 x.key (fun e => hne e.symm)
  refine ⟨?_, ?_, ?_⟩
  · have key : ∀ k, restK k (takeL j m z wz (takeL j m x wx l).1).1 = restK k (takeL j m x wx (takeL j m z wz l).1).1 := fun k => by
      by_cases hx : x.key = k
      · subst hx
        rw [c3 x.key (fun e => hne e.symm), ← a1, ← d1, e2]
      · by_cases hz : z.key = k
        · subst hz
          rw [← c1, e1, b1, d3 z.key hne]
        · rw [c3 k hz, d3 k hx, a3 k hx, b3 k hz]
    refine rise_eq (rise_takeL rx wz) (rise_takeL rz wx) fun r => ?_
    have hr := key r.key
    constructor
    · intro hm
      have : r ∈ restK r.key (takeL j m z wz (takeL j m x wx l).1).1 := mem_restK.2 ⟨hm, rfl⟩
      rw [hr] at this
      exact (mem_restK.1 this).1
    · intro hm
      have : r ∈ restK r.key (takeL j m x wx (takeL j m z wz l).1).1 := mem_restK.2 ⟨hm, rfl⟩
      rw [← hr] at this
      exact (mem_restK.1 this).1
  · rw [← c2, e1, b2]
  · rw [← d2, e2, a2]
/-- A record turns no window of another key. -/
theorem take_keeps {j : JobT} {m : Int} {x : ItmT} {ws : List WinT} {l : List RowT} (h : RiseR l) {r : RowT} (hr : r ∈ l) (hk : r.key ≠ x.key) : rFind r.key r.win (takeL j m x ws l).1 = some r := by
  have h3 := (takeL_restK (j := j) (m := m) (x := x) (ws := ws) h).2.2 r.key (fun e => hk e.symm)
  have hm : r ∈ restK r.key l := mem_restK.2 ⟨hr, rfl⟩
  rw [← h3] at hm
  exact rfind_in (rise_takeL h ws) (mem_restK.1 hm).1 ⟨rfl, rfl, rfl⟩
end Go.Rk
/- Tables of records hang on no order. -/
namespace Go.Rk
set_option linter.unusedSimpArgs false
set_option linter.unusedVariables false
def gl (m : Nat) (g : Nat → ItmT) : List ItmT := (List.range m).map g
def pairsOf (j : JobT) (l : List ItmT) : List LatT := l.flatMap fun x => (winsL j x.t).map fun w => ⟨x, w⟩
theorem pairs_gl (j : JobT) (g : Nat → ItmT) : ∀ m, pairsL j g m = pairsOf j (gl m g)
  | 0 => rfl
  | m + 1 => by
    unfold pairsL gl pairsOf
    rw [List.range_succ, List.map_append, List.flatMap_append, pairs_gl j g m]
    simp [pairsOf, gl]
theorem mem_gl {m : Nat} {g : Nat → ItmT} {x : ItmT} : x ∈ gl m g ↔ ∃ i, i < m ∧ g i = x := by unfold gl; rw [List.mem_map]; simp only [List.mem_range]
theorem spcOk_gl {j : JobT} {m : Nat} {g : Nat → ItmT} : SpcOkP j m g ↔ JobOkP j ∧ m ≤ 120 ∧ ∀ x, x ∈ gl m g → RecP x :=
  ⟨fun h => ⟨h.1, h.2.1, fun x hx => by obtain ⟨i, hi, rfl⟩ := mem_gl.1 hx; exact h.2.2 i hi⟩, fun h => ⟨h.1, h.2.1, fun i hi => h.2.2 _ (mem_gl.2 ⟨i, hi, rfl⟩)⟩⟩
theorem spcL_perm {j : JobT} {m : Nat} {g g' : Nat → ItmT} (h : (gl m g).Perm (gl m g')) : (spcL j m g).Perm (spcL j m g') := by
  have e : SpcOkP j m g ↔ SpcOkP j m g' := by
    rw [spcOk_gl, spcOk_gl]
    exact ⟨fun h' => ⟨h'.1, h'.2.1, fun x hx => h'.2.2 x (h.mem_iff.2 hx)⟩, fun h' => ⟨h'.1, h'.2.1, fun x hx => h'.2.2 x (h.mem_iff.1 hx)⟩⟩
  unfold spcL
  by_cases hc : SpcOkP j m g
  · rw [if_pos hc, if_pos (e.1 hc), pairs_gl, pairs_gl]
    exact h.flatMap_right _
  · rw [if_neg hc, if_neg fun h => hc (e.2 h)]
theorem spcT_gl {k : Int} {j : JobT} {m : Nat} {g g' : Nat → ItmT} (h : (gl m g).Perm (gl m g')) : spcT k (spcL j m g') = spcT k (spcL j m g) := spcT_perm (fine_spc j m g') (spcL_perm h.symm)
theorem gl_turned (m : Nat) (g : Nat → ItmT) : (gl m g).Perm (gl m fun i => g (m - 1 - i)) := by
  have e : gl m (fun i => g (m - 1 - i)) = (gl m g).reverse := by
    refine List.ext_getElem (by simp [gl]) fun i h1 h2 => ?_
    simp [gl, List.getElem_reverse]
  rw [e]; exact (List.reverse_perm _).symm
def rotG (m k : Nat) (g : Nat → ItmT) (i : Nat) : ItmT := if i < m - k then g (k + i) else g (i - (m - k))
theorem gl_rot {m k : Nat} (g : Nat → ItmT) (hk : k ≤ m) : (gl m g).Perm (gl m (rotG m k g)) := by
  have e : gl m (rotG m k g) = (gl m g).drop k ++ (gl m g).take k := by
    refine List.ext_getElem (by simp [gl]; omega) fun i h1 h2 => ?_
    have hi : i < m := by simpa [gl] using h1
    rw [List.getElem_append]
    by_cases h : i < m - k
    · rw [dif_pos (by simp [gl]; exact h)]
      simp [gl, rotG, h]
    · rw [dif_neg (by simp [gl]; omega)]
      simp [gl, rotG, h]
  rw [e]
  have h := List.perm_append_comm (l₁ := (gl m g).drop k) (l₂ := (gl m g).take k)
  rw [List.take_append_drop] at h
  exact h.symm
end Go.Rk
/- What the rows of a table of records say. -/
namespace Go.Rk
set_option linter.unusedSimpArgs false
set_option linter.unusedVariables false
def inRw (r : TabT) (x : ItmT) : Bool := decide (x.key = r.key ∧ r.win.s ≤ x.t ∧ x.t < r.win.e)
def valsR (r : TabT) (l : List ItmT) : List Int := (l.filter (inRw r)).map (·.v)
theorem slideF_rise {size step t : Int} (hs : 1 ≤ step) : ∀ (k : Nat) (f : Int), (slideF size step t k f).Pairwise (fun a b => a.s < b.s) ∧ ∀ w, w ∈ slideF size step t k f → f ≤ w.s
  | 0, f => ⟨List.Pairwise.nil, fun w h => by simp [slideF] at h⟩
  | k + 1, f => by
    obtain ⟨h1, h2⟩ := slideF_rise (size := size) (t := t) hs k (f + step)
    unfold slideF
    split
    · split
      · refine ⟨?_, fun w hw => ?_⟩
        · rw [List.singleton_append, List.pairwise_cons]
          exact ⟨fun w hw => by have := h2 w hw; show f < w.s; omega, h1⟩
        · rw [List.singleton_append, List.mem_cons] at hw
          rcases hw with rfl | hw
          · exact Int.le_refl _
          · have := h2 w hw; omega
      · rw [List.nil_append]
        exact ⟨h1, fun w hw => by have := h2 w hw; omega⟩
    · exact ⟨List.Pairwise.nil, fun w h => by simp at h⟩
theorem slideF_has {size step t : Int} {w : WinT} : ∀ (k : Nat) (f : Int) (i : Nat), i < k → 1 ≤ step → w.s = f + step * (i : Int) → w.s ≤ t → t < w.s + size → w.e = w.s + size → w ∈ slideF size step t k f
  | 0, _, _, h, _, _, _, _, _ => absurd h (Nat.not_lt_zero _)
  | k + 1, f, i, hi, hs, h1, h2, h3, h4 => by
    unfold slideF
    have hfi : 0 ≤ step * (i : Int) := Int.mul_nonneg (by omega) (Int.natCast_nonneg _)
    rw [if_pos (by omega)]
    cases i with
    | zero =>
      have e : f = w.s := by simp at h1; omega
      refine List.mem_append_left _ ?_
      rw [if_pos (by omega), List.mem_singleton]
      obtain ⟨s, e'⟩ := w
      simp only at *
      subst e h4; rfl
    | succ i =>
      refine List.mem_append_right _ (slideF_has k (f + step) i (by omega) hs ?_ h2 h3 h4)
      rw [h1]; push_cast; rw [Int.mul_add]; omega
open Classical in
theorem filter_one {l : List WinT} {w : WinT} (h : l.Pairwise (fun a b => a.s < b.s)) : l.filter (fun x => decide (x.s = w.s ∧ x.e = w.e)) = if w ∈ l then [w] else [] := by
  induction l with
  | nil => simp
  | cons a l ih =>
    rw [List.pairwise_cons] at h
    have ih := ih h.2
    rw [List.filter_cons]
    by_cases ha : a.s = w.s ∧ a.e = w.e
    · have e : a = w := by
        obtain ⟨s, e⟩ := a; obtain ⟨s', e'⟩ := w
        simp only at ha
        obtain ⟨rfl, rfl⟩ := ha
        rfl
      subst e
      have hn : a ∉ l := fun hm => by have := h.1 a hm; omega
      rw [if_neg hn] at ih
      rw [if_pos (by simp), ih, if_pos (by simp)]
    · rw [if_neg (by simpa using ha), ih]
      have hne : w ≠ a := fun e => ha (by rw [e]; exact ⟨rfl, rfl⟩)
      simp [hne]
/-- Where windows do not grow, a window that is one's is that of all times within it. -/
theorem winsL_same {j : JobT} (hj : JobOkP j) (hk : j.kind ≠ 3) {t0 t : Int} (h0 : 0 ≤ t0 ∧ t0 ≤ 60) (ht : 0 ≤ t ∧ t ≤ 60) {w : WinT} (hw : w ∈ winsL j t0) : w ∈ winsL j t ↔ w.s ≤ t ∧ t < w.e := by
  obtain ⟨a1, a2, a3, i, a4⟩ := winsL_mem hw
  have hsz := hj.2.2.2.1
  have hst := hj.2.2.2.2.1
  have hkk := hj.2.2.1
  refine ⟨fun h => by have := winsL_mem h; omega, fun ⟨h1, h2⟩ => ?_⟩
  unfold winsL
  by_cases k1 : j.kind = 1
  · have eF : ∀ t, winFrom j t = t - t.tmod j.size := fun t => by unfold winFrom; rw [if_pos k1]
    have eS : winStep j = j.size := by unfold winStep; rw [if_pos k1]
    rw [eF, eS] at a4
    rw [eF, eS]
    have b1 := Int.tmod_nonneg j.size h0.1
    have b2 := Int.tmod_lt_of_pos t0 (show 0 < j.size by omega)
    have i0 : i = 0 := by
      rcases Nat.eq_zero_or_pos i with h | h
      · exact h
      · exfalso
        have : j.size * 1 ≤ j.size * (i : Int) := Int.mul_le_mul_of_nonneg_left (by omega) (by omega)
        omega
    subst i0
    simp at a4
    refine slideF_has 100 _ 0 (by omega) (by omega) ?_ h1 (by omega) a3
    have c1 : t.tmod j.size = t - w.s := by
      rw [Int.tmod_eq_emod_of_nonneg ht.1]
      have d1 : t0.tmod j.size = t0 % j.size := Int.tmod_eq_emod_of_nonneg h0.1
      have d2 : w.s % j.size = 0 := by
        rw [a4, d1, Int.sub_emod, Int.emod_emod, Int.sub_self, Int.zero_emod]
      have d3 : t % j.size = (t - w.s) % j.size := by
        rw [Int.sub_emod, d2, Int.sub_zero, Int.emod_emod]
      rw [d3, Int.emod_eq_of_lt (by omega) (by omega)]
    simp; omega
  · have k2 : j.kind = 2 := by omega
    have eF : ∀ t, winFrom j t = 0 := fun t => by unfold winFrom; rw [if_neg k1, if_pos k2]
    have eS : winStep j = j.step := by unfold winStep; rw [if_neg k1, if_pos k2]
    rw [eF, eS] at a4
    rw [eF, eS]
    have hp : 1 ≤ j.step := by omega
    have hi : i < 100 := by
      have : 1 * (i : Int) ≤ j.step * (i : Int) := Int.mul_le_mul_of_nonneg_right hp (Int.natCast_nonneg _)
      omega
    exact slideF_has 100 0 i hi hp a4 h1 (by omega) a3
theorem winStep_pos {j : JobT} (hj : JobOkP j) : 1 ≤ winStep j := by
  have hsz := hj.2.2.2.1
  have hst := hj.2.2.2.2.1
  unfold winStep
  split
  · omega
  · split <;> omega
theorem valsW_recs {j : JobT} (hj : JobOkP j) (hk : j.kind ≠ 3) {t0 : Int} (h0 : 0 ≤ t0 ∧ t0 ≤ 60) {r : TabT} (hw : r.win ∈ winsL j t0) : ∀ (l : List ItmT), (∀ x, x ∈ l → RecP x) → valsW r.key r.win (pairsOf j l) = valsR r l
  | [], _ => rfl
  | x :: l, h => by
    have ih := valsW_recs hj hk h0 hw l fun y hy => h y (List.mem_cons_of_mem _ hy)
    have hx := recP_t (h x (by simp))
    have hs := winsL_same hj hk h0 hx hw
    obtain ⟨_, _, e3, _⟩ := winsL_mem hw
    have e1 : valsW r.key r.win (pairsOf j (x :: l)) = (((winsL j x.t).map fun w => (⟨x, w⟩ : LatT)).filter fun l => decide (l.itm.key = r.key ∧ l.win.s = r.win.s ∧ l.win.e = r.win.e)).map (·.itm.v) ++ valsW r.key r.win (pairsOf j l) := by
      unfold valsW pairsOf
      rw [List.flatMap_cons, List.filter_append, List.map_append]
    have e2 : valsR r (x :: l) = (if inRw r x = true then [x.v] else []) ++ valsR r l := by
      unfold valsR
      rw [List.filter_cons]
      split <;> simp
    rw [e1, e2, ih]
    congr 1
    rw [List.filter_map, List.map_map]
    by_cases hkey : x.key = r.key
    · have f1 : ((fun l : LatT => decide (l.itm.key = r.key ∧ l.win.s = r.win.s ∧ l.win.e = r.win.e)) ∘ fun w => (⟨x, w⟩ : LatT)) = fun w : WinT => decide (w.s = r.win.s ∧ w.e = r.win.e) := by
        funext w; simp [hkey]
      rw [f1, filter_one (l := winsL j x.t) (w := r.win) (slideF_rise (winStep_pos hj) 100 _).1]
      by_cases hm : r.win ∈ winsL j x.t
      · have := hs.1 hm
        rw [if_pos hm, if_pos (by unfold inRw; rw [decide_eq_true_eq]; exact ⟨hkey, this⟩)]
        rfl
      · have h2 : ¬ (r.win.s ≤ x.t ∧ x.t < r.win.e) := fun h => hm (hs.2 h)
        rw [if_neg hm, if_neg (by unfold inRw; rw [decide_eq_true_eq]; exact fun h => h2 h.2)]
        rfl
    · have f1 : ((fun l : LatT => decide (l.itm.key = r.key ∧ l.win.s = r.win.s ∧ l.win.e = r.win.e)) ∘ fun w => (⟨x, w⟩ : LatT)) = fun w : WinT => false := by
        funext w; simp [hkey]
      rw [f1, if_neg (by unfold inRw; rw [decide_eq_true_eq]; exact fun h => hkey h.1)]
      simp
theorem valsS_recs {j : JobT} (hj : JobOkP j) (hk : j.kind = 3) {r : TabT} : ∀ (l : List ItmT), (∀ x, x ∈ l → RecP x) → valsS r.key r.win (pairsOf j l) = valsR r l
  | [], _ => rfl
  | x :: l, h => by
    have ih := valsS_recs hj hk (r := r) l fun y hy => h y (List.mem_cons_of_mem _ hy)
    have hx := recP_t (h x (by simp))
    have hw := winsL_sess (j := j) (t := x.t) hk hj.2.2.2.1.1 hx.1 hx.2
    have e1 : valsS r.key r.win (pairsOf j (x :: l)) = (([(⟨x, ⟨x.t, x.t + j.size⟩⟩ : LatT)]).filter fun l => decide (l.itm.key = r.key ∧ r.win.s ≤ l.win.s ∧ l.win.s < r.win.e)).map (·.itm.v) ++ valsS r.key r.win (pairsOf j l) := by
      unfold valsS pairsOf
      rw [List.flatMap_cons, hw, List.filter_append, List.map_append]
      rfl
    have e2 : valsR r (x :: l) = (if inRw r x = true then [x.v] else []) ++ valsR r l := by
      unfold valsR
      rw [List.filter_cons]
      split <;> simp
    rw [e1, e2, ih]
    congr 1
    rw [List.filter_cons]
    show List.map _ (if inRw r x = true then _ else _) = _
    split <;> rfl
theorem rec_gl {j : JobT} {m : Nat} {g : Nat → ItmT} (h : SpcOkP j m g) : ∀ x, x ∈ gl m g → RecP x := (spcOk_gl.1 h).2.2
structure RowFacts (j : JobT) (l : List ItmT) (r : TabT) : Prop where
  agg : AggIs r.agg (valsR r l)
  low : 0 ≤ r.win.s ∧ r.win.s ≤ 60
  len : r.win.s < r.win.e ∧ r.win.e ≤ 80
  fix : j.kind ≠ 3 → r.win.e = r.win.s + j.size
theorem pair_rec {j : JobT} {m : Nat} {g : Nat → ItmT} {l : LatT} (h : SpcOkP j m g) (hl : l ∈ pairsL j g m) : RecP l.itm ∧ l.itm ∈ gl m g ∧ l.win ∈ winsL j l.itm.t := by
  obtain ⟨i, hi, e, hw⟩ := mem_pairsL.1 hl
  rw [e]
  exact ⟨h.2.2 i hi, mem_gl.2 ⟨i, hi, rfl⟩, hw⟩
theorem row_facts {j : JobT} {m : Nat} {g : Nat → ItmT} (h : SpcOkP j m g) {r : TabT} (hr : r ∈ spcT j.kind (pairsL j g m)) : RowFacts j (gl m g) r := by
  have hf := fine_pairs h
  have hsz := h.1.2.2.2.1
  by_cases hk : j.kind = 3
  · rw [hk] at hr
    have hs := (spcT_S hf).row r hr
    obtain ⟨l1, m1, k1, e1⟩ := hs.fst
    obtain ⟨l2, m2, k2, e2⟩ := hs.lst
    obtain ⟨r1, _, w1⟩ := pair_rec h m1
    obtain ⟨r2, _, w2⟩ := pair_rec h m2
    have t1 := recP_t r1
    have t2 := recP_t r2
    rw [winsL_sess hk hsz.1 t1.1 t1.2, List.mem_singleton] at w1
    rw [winsL_sess hk hsz.1 t2.1 t2.2, List.mem_singleton] at w2
    have ha := hs.agg
    rw [pairs_gl, valsS_recs h.1 hk _ (rec_gl h)] at ha
    have x1 : l1.win.s = l1.itm.t := by rw [w1]
    have x2 : l2.win.e = l2.itm.t + j.size := by rw [w2]
    exact ⟨ha, by omega, ⟨hs.lt, by omega⟩, fun hn => absurd hk hn⟩
  · obtain ⟨hne, ha⟩ := (spcT_W hk hf).row r hr
    obtain ⟨v, hv⟩ := List.exists_mem_of_ne_nil _ hne
    obtain ⟨l, hl, _⟩ := List.mem_map.1 hv
    obtain ⟨hl, hc⟩ := List.mem_filter.1 hl
    rw [decide_eq_true_eq] at hc
    obtain ⟨r1, _, w1⟩ := pair_rec h hl
    have t1 := recP_t r1
    have ew : l.win = r.win := by
      obtain ⟨s, e⟩ := l; obtain ⟨k, ⟨a, b⟩, c⟩ := r
      obtain ⟨w1, w2⟩ := e
      simp only at hc; rw [hc.2.1, hc.2.2]
    rw [ew] at w1
    have hww := winsL_mem w1
    rw [pairs_gl, valsW_recs h.1 hk t1 w1 _ (rec_gl h)] at ha
    have hlow : 0 ≤ r.win.s := by
      obtain ⟨_, _, _, i, h4⟩ := hww
      have hF : 0 ≤ winFrom j l.itm.t := by
        unfold winFrom
        split
        · have b2 : l.itm.t.tmod j.size ≤ l.itm.t := by
            rw [Int.tmod_eq_emod_of_nonneg t1.1]
            have := Int.emod_add_mul_ediv l.itm.t j.size
            have := Int.mul_nonneg (show 0 ≤ j.size by omega) (Int.ediv_nonneg t1.1 (show 0 ≤ j.size by omega))
            omega
          omega
        · split <;> omega
      have := Int.mul_nonneg (show 0 ≤ winStep j by have := winStep_pos h.1; omega) (Int.natCast_nonneg i)
      omega
    exact ⟨ha, ⟨hlow, by omega⟩, ⟨by omega, by omega⟩, fun _ => by omega⟩
/-- What is known of values, one by one. -/
def aggF (l : List Int) : AggT := l.foldl aggAdd zAgg
theorem aggF_snoc (l : List Int) (v : Int) : aggF (l ++ [v]) = aggAdd (aggF l) v := by unfold aggF; rw [List.foldl_append]; rfl
theorem aggF_is {L : List Int} (hv : ∀ x, x ∈ L → -9 ≤ x ∧ x ≤ 9) (hn : L.length ≤ 1000000) : AggIs (aggF L) L := by
  have key : ∀ (M L0 : List Int) (a : AggT), AggIs a L0 → (∀ x, x ∈ L0 ++ M → -9 ≤ x ∧ x ≤ 9) → (L0 ++ M).length ≤ 1000000 → AggIs (M.foldl aggAdd a) (L0 ++ M) := by
    intro M
    induction M with
    | nil => intro L0 a h _ _; simpa using h
    | cons v M ih =>
      intro L0 a h hv hn
      rw [show L0 ++ v :: M = (L0 ++ [v]) ++ M by simp] at hv hn ⊢
      refine ih (L0 ++ [v]) _ (aggB_is h (aggIs_one v) (fun x hx => hv x (List.mem_append_left _ hx)) ?_) hv hn
      rw [List.length_append] at hn; omega
  exact key L [] zAgg aggIs_nil (by simpa using hv) (by simpa using hn)
theorem valsR_bd {l : List ItmT} (h : ∀ x, x ∈ l → RecP x) (r : TabT) : ∀ v, v ∈ valsR r l → -9 ≤ v ∧ v ≤ 9 := by
  intro v hv
  obtain ⟨x, hx, rfl⟩ := List.mem_map.1 hv
  exact recP_v (h x (List.mem_filter.1 hx).1)
theorem row_agg {j : JobT} {m : Nat} {g : Nat → ItmT} (h : SpcOkP j m g) {r : TabT} (hr : r ∈ spcT j.kind (pairsL j g m)) : aggF (valsR r (gl m g)) = r.agg := by
  refine aggIs_uniq (aggF_is (valsR_bd (rec_gl h) r) ?_) (row_facts h hr).agg (List.Perm.refl _)
  unfold valsR
  rw [List.length_map]
  refine Nat.le_trans (List.length_filter_le _ _) ?_
  have := h.2.1
  simp [gl]; omega
theorem spcL_ok {j : JobT} {m : Nat} {g : Nat → ItmT} {r : TabT} (hr : r ∈ spcT j.kind (spcL j m g)) : SpcOkP j m g ∧ spcL j m g = pairsL j g m := by
  by_cases h : SpcOkP j m g
  · exact ⟨h, by unfold spcL; rw [if_pos h]⟩
  · exfalso
    have e : spcL j m g = [] := by unfold spcL; rw [if_neg h]
    rw [e] at hr
    simp [spcT] at hr
theorem rise_atT {T : List TabT} {n : Nat} {G : Nat → TabT} (h : Lst zTab T n G) (hr : Rise T) {i k : Nat} (hik : i < k) (hk : k < n) : Ahead (G i) (G k) := by
  have hT := h.1
  rw [h.2 i (by omega), h.2 k hk, List.getD_eq_getElem?_getD, List.getD_eq_getElem?_getD, List.getElem?_eq_getElem (by omega), List.getElem?_eq_getElem (by omega)]
  exact List.pairwise_iff_getElem.1 hr i k (by omega) (by omega) hik
theorem lst_inT {T : List TabT} {n : Nat} {G : Nat → TabT} (h : Lst zTab T n G) {i : Nat} (hi : i < n) : G i ∈ T := by
  have hT := h.1
  rw [h.2 i hi, List.getD_eq_getElem?_getD, List.getElem?_eq_getElem (by omega)]
  exact List.getElem_mem _
theorem tCnt_bd : ∀ {T : List TabT}, (∀ r, r ∈ T → 0 ≤ r.agg.n) → 0 ≤ tCnt T
  | [], _ => Int.le_refl _
  | r :: T, h => by
    have := tCnt_bd (T := T) fun q hq => h q (List.mem_cons_of_mem _ hq)
    have := h r (by simp)
    simp only [tCnt]; omega
theorem tCnt_take {T : List TabT} (h : ∀ r, r ∈ T → 0 ≤ r.agg.n) (i : Nat) : 0 ≤ tCnt (T.take i) ∧ tCnt (T.take i) ≤ tCnt T := by
  have e : tCnt T = tCnt (T.take i) + tCnt (T.drop i) := by rw [← tCnt_app, List.take_append_drop]
  have h1 := tCnt_bd (T := T.take i) fun r hr => h r (List.mem_of_mem_take hr)
  have h2 := tCnt_bd (T := T.drop i) fun r hr => h r (List.mem_of_mem_drop hr)
  omega
theorem spcT_nn {j : JobT} {m : Nat} {g : Nat → ItmT} : ∀ r, r ∈ spcT j.kind (spcL j m g) → 0 ≤ r.agg.n := by
  intro r hr
  obtain ⟨h1, h2⟩ := spcL_ok hr
  rw [h2] at hr
  rw [(row_facts h1 hr).agg.n]
  exact Int.natCast_nonneg _
theorem spcT_tk {j : JobT} {m : Nat} {g : Nat → ItmT} (i : Nat) : 0 ≤ tCnt ((spcT j.kind (spcL j m g)).take i) ∧ tCnt ((spcT j.kind (spcL j m g)).take i) ≤ 12000 := by
  have h1 := tCnt_take (T := spcT j.kind (spcL j m g)) spcT_nn i
  have h2 := spcT_cnt (kind := j.kind) (fine_spc j m g)
  have h3 := spcL_len j m g
  omega
def zItm : ItmT := ⟨0, 0, 0, 0, 0⟩
theorem gl_lst (m : Nat) (g : Nat → ItmT) : Lst zItm (gl m g) m g := lst_of zItm m g
theorem valsR_snoc (r : TabT) (l : List ItmT) (x : ItmT) : valsR r (l ++ [x]) = valsR r l ++ if inRw r x = true then [x.v] else [] := by
  unfold valsR
  rw [List.filter_append, List.map_append, List.filter_cons]
  split <;> simp
end Go.Rk
/- Between marks the order does not matter. -/
namespace Go.Rk
set_option linter.unusedSimpArgs false
set_option linter.unusedVariables false
theorem rise_ext {l m : List RowT} (hl : RiseR l) (hm : RiseR m) (h : ∀ k w, rFind k w l = rFind k w m) : l = m := by
  refine rise_eq hl hm fun x => ⟨fun hx => ?_, fun hx => ?_⟩
  · have := rfind_in hl hx ⟨rfl, rfl, rfl⟩
    rw [h] at this
    exact (rfind_mem this).1
  · have := rfind_in hm hx ⟨rfl, rfl, rfl⟩
    rw [← h] at this
    exact (rfind_mem this).1
theorem isR_both {k : Int} {w : WinT} {r q : RowT} (h : IsR k w r) : IsR r.key r.win q ↔ IsR k w q := by
  unfold IsR at *; omega
theorem rfind_rPut {r : RowT} {k : Int} {w : WinT} {l : List RowT} (h : RiseR l) : rFind k w (rPut r l) = if IsR k w r then some r else rFind k w l := by
  by_cases hr : IsR k w r
  · rw [if_pos hr]
    exact rfind_in (rise_rPut h) (mem_rPut.2 (.inl rfl)) hr
  · rw [if_neg hr]
    cases hf : rFind k w l with
    | some q =>
      obtain ⟨h1, h2⟩ := rfind_mem hf
      refine rfind_in (rise_rPut h) (mem_rPut.2 (.inr ⟨h1, fun hc => hr ?_⟩)) h2
      unfold IsR at *; omega
    | none =>
      refine sumN_none fun q hq hc => ?_
      rcases mem_rPut.1 hq with rfl | ⟨hq, _⟩
      · exact hr hc
      · exact rfind_no hf hq hc
def updR (j : JobT) (m v k : Int) (w : WinT) (o : Option RowT) : RowT := (tellS j m (addR (o.getD (nrow k w)) v)).1
def lateB (j : JobT) (m : Int) (w : WinT) : Bool := decide (w64 (w.e + j.late) ≤ m)
theorem into_some {j : JobT} {m k v : Int} {w : WinT} {l : List RowT} (h : lateB j m w = false) : intoL j m k v w l = some (rPut (updR j m v k w (rFind k w l)) l, (tellS j m (addR ((rFind k w l).getD (nrow k w)) v)).2) := by
  unfold intoL
  rw [if_neg (of_decide_eq_false h)]
  rfl
theorem into_none {j : JobT} {m k v : Int} {w : WinT} {l : List RowT} (h : lateB j m w = true) : intoL j m k v w l = none := by
  unfold intoL
  rw [if_pos (of_decide_eq_true h)]
theorem upd_is {j : JobT} {m v k : Int} {w : WinT} {l : List RowT} : IsR k w (updR j m v k w (rFind k w l)) := tellS_is (addR_is getD_is)
theorem getD_win {k : Int} {w : WinT} {l : List RowT} : ((rFind k w l).getD (nrow k w)).win = w := (isR_eq getD_is).2
theorem isR_win {k : Int} {w : WinT} {r : RowT} {k2 : Int} {w2 : WinT} (h : IsR k w r) : IsR k2 w2 r ↔ k2 = k ∧ w2 = w := by
  obtain ⟨h1, h2⟩ := isR_eq h
  constructor
  · intro hc
    obtain ⟨h3, h4⟩ := isR_eq hc
    exact ⟨h3.symm.trans h1, h4.symm.trans h2⟩
  · rintro ⟨rfl, rfl⟩; exact h
open Classical in
/-- What a record does, window by window. -/
theorem fold_into {j : JobT} {m : Int} {x : ItmT} (hk : ¬ j.kind = 3) : ∀ (ws : List WinT) (l : List RowT) (a : List PaneT) (c : List LatT), RiseR l → ws.Nodup →
    (∀ k w, (k = x.key ∧ w ∈ ws ∧ lateB j m w = false → rFind k w (ws.foldl (takeS j m x) (l, a, c)).1 = some (updR j m x.v k w (rFind k w l))) ∧ (¬ (k = x.key ∧ w ∈ ws ∧ lateB j m w = false) → rFind k w (ws.foldl (takeS j m x) (l, a, c)).1 = rFind k w l)) ∧
    (ws.foldl (takeS j m x) (l, a, c)).2.2 = c ++ (ws.filter (lateB j m)).map (fun w => ⟨x, w⟩) ∧
    (ws.foldl (takeS j m x) (l, a, c)).2.1.length = a.length + (ws.filter fun w => !lateB j m w && decide (w.e ≤ m)).length
  | [], l, a, c, _, _ => ⟨fun k w => ⟨fun h => absurd h.2.1 (by simp), fun _ => rfl⟩, by simp, by simp⟩
  | w0 :: ws, l, a, c, h, hnd => by
    rw [List.nodup_cons] at hnd
    rw [List.foldl_cons, List.filter_cons, List.filter_cons]
    cases hl : lateB j m w0 with
    | true =>
      have hq : stepT j m x w0 l = none := by unfold stepT; rw [if_neg hk]; exact into_none hl
      rw [takeS_none (a := (l, a, c)) hq]
      obtain ⟨i1, i2, i3⟩ := fold_into hk ws l a (c ++ [(⟨x, w0⟩ : LatT)]) h hnd.2
      refine ⟨fun k w => ⟨fun hc => ?_, fun hc => ?_⟩, ?_, ?_⟩
      · refine (i1 k w).1 ⟨hc.1, ?_, hc.2.2⟩
        rcases List.mem_cons.1 hc.2.1 with e | e
        · rw [e, hl] at hc; exact absurd hc.2.2 (by simp)
        · exact e
      · exact (i1 k w).2 fun h9 => hc ⟨h9.1, List.mem_cons_of_mem _ h9.2.1, h9.2.2⟩
      · rw [i2]; simp
      · rw [i3]; simp
    | false =>
      have hq : stepT j m x w0 l = some (rPut (updR j m x.v x.key w0 (rFind x.key w0 l)) l, (tellS j m (addR ((rFind x.key w0 l).getD (nrow x.key w0)) x.v)).2) := by unfold stepT; rw [if_neg hk]; exact into_some hl
      rw [takeS_some (a := (l, a, c)) hq]
      obtain ⟨i1, i2, i3⟩ := fold_into hk ws (rPut (updR j m x.v x.key w0 (rFind x.key w0 l)) l) (a ++ (tellS j m (addR ((rFind x.key w0 l).getD (nrow x.key w0)) x.v)).2) c (rise_rPut h) hnd.2
      have hput : ∀ k w, rFind k w (rPut (updR j m x.v x.key w0 (rFind x.key w0 l)) l) = if k = x.key ∧ w = w0 then some (updR j m x.v x.key w0 (rFind x.key w0 l)) else rFind k w l := fun k w => by
        rw [rfind_rPut h]
        by_cases e : k = x.key ∧ w = w0
        · rw [if_pos e, if_pos ((isR_win upd_is).2 e)]
        · rw [if_neg e, if_neg fun hc => e ((isR_win upd_is).1 hc)]
      refine ⟨fun k w => ⟨fun hc => ?_, fun hc => ?_⟩, ?_, ?_⟩
      · rcases List.mem_cons.1 hc.2.1 with e | e
        · rw [(i1 k w).2 (fun h9 => hnd.1 (e ▸ h9.2.1)), hput, if_pos ⟨hc.1, e⟩, hc.1, e]
        · rw [(i1 k w).1 ⟨hc.1, e, hc.2.2⟩, hput, if_neg (fun h9 : k = x.key ∧ w = w0 => hnd.1 (h9.2 ▸ e))]
      · rw [(i1 k w).2 (fun h9 => hc ⟨h9.1, List.mem_cons_of_mem _ h9.2.1, h9.2.2⟩), hput, if_neg]
        rintro ⟨rfl, rfl⟩
        exact hc ⟨rfl, by simp, hl⟩
      · rw [i2]; simp
      · rw [i3, List.length_append]
        have ht : (tellS j m (addR ((rFind x.key w0 l).getD (nrow x.key w0)) x.v)).2.length = if w0.e ≤ m then 1 else 0 := by
          unfold tellS
          have e : (addR ((rFind x.key w0 l).getD (nrow x.key w0)) x.v).win.e = w0.e := by
            show ((rFind x.key w0 l).getD (nrow x.key w0)).win.e = _
            rw [getD_win]
          rw [e]
          by_cases h9 : w0.e ≤ m
          · rw [if_pos h9, if_neg (by omega)]; rfl
          · rw [if_neg h9, if_pos (by omega)]; rfl
        rw [ht]
        by_cases h9 : w0.e ≤ m
        · rw [if_pos h9, decide_eq_true h9]; simp; omega
        · rw [if_neg h9, decide_eq_false h9]; simp
theorem upd_comm {j : JobT} {m v v' k : Int} {w : WinT} {o : Option RowT} (h : ∀ r, o = some r → (0 ≤ r.all.n ∧ r.all.n ≤ 1000) ∧ (0 ≤ r.fresh.n ∧ r.fresh.n ≤ 1000)) : updR j m v' k w (some (updR j m v k w o)) = updR j m v k w (some (updR j m v' k w o)) := by
  obtain ⟨r, hr⟩ : ∃ r, r = o.getD (nrow k w) := ⟨_, rfl⟩
  have hb : (0 ≤ r.all.n ∧ r.all.n ≤ 1000) ∧ (0 ≤ r.fresh.n ∧ r.fresh.n ≤ 1000) := by
    cases o with
    | none => rw [hr]; exact ⟨⟨Int.le_refl _, (by decide : (0 : Int) ≤ 1000)⟩, Int.le_refl _, (by decide : (0 : Int) ≤ 1000)⟩
    | some q => rw [hr]; exact h q rfl
  have c1 : ∀ a : AggT, (0 ≤ a.n ∧ a.n ≤ 1000) → aggAdd (aggAdd a v) v' = aggAdd (aggAdd a v') v := fun a ha => by
    unfold aggAdd
    exact aggB_rc (b := agg1 v) (c := agg1 v') ⟨ha.1, by omega⟩ ⟨by show (1 : Int) ≤ 1; decide, by show (1 : Int) ≤ 1000; decide⟩ ⟨by show (1 : Int) ≤ 1; decide, by show (1 : Int) ≤ 1000; decide⟩
  have e1 := c1 r.all hb.1
  have e2 := c1 r.fresh hb.2
  show (tellS j m (addR (tellS j m (addR (o.getD (nrow k w)) v)).1 v')).1 = (tellS j m (addR (tellS j m (addR (o.getD (nrow k w)) v')).1 v)).1
  rw [← hr]
  by_cases hm : m < r.win.e
  · have t : ∀ u, tellS j m (addR r u) = (addR r u, []) := fun u => by unfold tellS; rw [if_pos (show m < (addR r u).win.e from hm)]
    rw [t, t]
    have t2 : ∀ u u', tellS j m (addR (addR r u) u') = (addR (addR r u) u', []) := fun u u' => by unfold tellS; rw [if_pos (show m < (addR (addR r u) u').win.e from hm)]
    show (tellS j m (addR (addR r v) v')).1 = (tellS j m (addR (addR r v') v)).1
    rw [t2, t2]
    show ({ r with all := aggAdd (aggAdd r.all v) v', fresh := aggAdd (aggAdd r.fresh v) v' } : RowT) = { r with all := aggAdd (aggAdd r.all v') v, fresh := aggAdd (aggAdd r.fresh v') v }
    rw [e1, e2]
  · have t : ∀ u, (tellS j m (addR r u)).1 = toldR (addR r u) := fun u => by unfold tellS; rw [if_neg (show ¬ m < (addR r u).win.e from hm)]
    rw [t, t]
    have t2 : ∀ u u', (tellS j m (addR (toldR (addR r u)) u')).1 = toldR (addR (toldR (addR r u)) u') := fun u u' => by unfold tellS; rw [if_neg (show ¬ m < (addR (toldR (addR r u)) u').win.e from hm)]
    rw [t2, t2]
    show (⟨r.key, r.win, aggAdd (aggAdd r.all v) v', zAgg, w64 (w64 (r.told + 1) + 1), true⟩ : RowT) = ⟨r.key, r.win, aggAdd (aggAdd r.all v') v, zAgg, w64 (w64 (r.told + 1) + 1), true⟩
    rw [e1]
theorem winsL_nodup {j : JobT} (hj : JobOkP j) (t : Int) : (winsL j t).Nodup := by
  refine List.Pairwise.imp (fun {a b} hab e => ?_) (slideF_rise (winStep_pos hj) 100 _).1
  rw [e] at hab
  exact absurd hab (by omega)
/-- Two records of one key, in either order. -/
theorem take_swap {j : JobT} {m : Int} {x z : ItmT} {l : List RowT} (hk : ¬ j.kind = 3) (hj : JobOkP j) (h : RiseR l) (he : x.key = z.key) (hb : ∀ r, r ∈ l → (0 ≤ r.all.n ∧ r.all.n ≤ 1000) ∧ (0 ≤ r.fresh.n ∧ r.fresh.n ≤ 1000)) :
    (takeL j m z (winsL j z.t) (takeL j m x (winsL j x.t) l).1).1 = (takeL j m x (winsL j x.t) (takeL j m z (winsL j z.t) l).1).1 ∧
    (takeL j m z (winsL j z.t) (takeL j m x (winsL j x.t) l).1).2.2 = (takeL j m z (winsL j z.t) l).2.2 ∧
    (takeL j m x (winsL j x.t) (takeL j m z (winsL j z.t) l).1).2.2 = (takeL j m x (winsL j x.t) l).2.2 ∧
    (takeL j m x (winsL j x.t) l).2.1.length + (takeL j m z (winsL j z.t) (takeL j m x (winsL j x.t) l).1).2.1.length = (takeL j m z (winsL j z.t) l).2.1.length + (takeL j m x (winsL j x.t) (takeL j m z (winsL j z.t) l).1).2.1.length := by
  have rx := rise_takeL (j := j) (m := m) (x := x) h (winsL j x.t)
  have rz := rise_takeL (j := j) (m := m) (x := z) h (winsL j z.t)
  obtain ⟨x1, x2, x3⟩ := fold_into (m := m) (x := x) hk (winsL j x.t) l [] [] h (winsL_nodup hj _)
  obtain ⟨z1, z2, z3⟩ := fold_into (m := m) (x := z) hk (winsL j z.t) l [] [] h (winsL_nodup hj _)
  obtain ⟨y1, y2, y3⟩ := fold_into (m := m) (x := z) hk (winsL j z.t) (takeL j m x (winsL j x.t) l).1 [] [] rx (winsL_nodup hj _)
  obtain ⟨u1, u2, u3⟩ := fold_into (m := m) (x := x) hk (winsL j x.t) (takeL j m z (winsL j z.t) l).1 [] [] rz (winsL_nodup hj _)
  refine ⟨rise_ext (rise_takeL rx _) (rise_takeL rz _) fun k w => ?_, ?_, ?_, ?_⟩
  · by_cases hx : k = x.key ∧ w ∈ winsL j x.t ∧ lateB j m w = false
    · have f1 : rFind k w (takeL j m x (winsL j x.t) l).1 = some (updR j m x.v k w (rFind k w l)) := (x1 k w).1 hx
      have f2 : rFind k w (takeL j m x (winsL j x.t) (takeL j m z (winsL j z.t) l).1).1 = some (updR j m x.v k w (rFind k w (takeL j m z (winsL j z.t) l).1)) := (u1 k w).1 hx
      rw [f2]
      by_cases hz : k = z.key ∧ w ∈ winsL j z.t ∧ lateB j m w = false
      · have f3 : rFind k w (takeL j m z (winsL j z.t) l).1 = some (updR j m z.v k w (rFind k w l)) := (z1 k w).1 hz
        have f4 : rFind k w (takeL j m z (winsL j z.t) (takeL j m x (winsL j x.t) l).1).1 = some (updR j m z.v k w (rFind k w (takeL j m x (winsL j x.t) l).1)) := (y1 k w).1 hz
        rw [f4, f3, f1]
        exact congrArg some (upd_comm fun r hr => hb r (rfind_mem hr).1)
      · have f3 : rFind k w (takeL j m z (winsL j z.t) l).1 = rFind k w l := (z1 k w).2 hz
        have f4 : rFind k w (takeL j m z (winsL j z.t) (takeL j m x (winsL j x.t) l).1).1 = rFind k w (takeL j m x (winsL j x.t) l).1 := (y1 k w).2 hz
        rw [f4, f3, f1]
    · have f1 : rFind k w (takeL j m x (winsL j x.t) l).1 = rFind k w l := (x1 k w).2 hx
      have f2 : rFind k w (takeL j m x (winsL j x.t) (takeL j m z (winsL j z.t) l).1).1 = rFind k w (takeL j m z (winsL j z.t) l).1 := (u1 k w).2 hx
      rw [f2]
      by_cases hz : k = z.key ∧ w ∈ winsL j z.t ∧ lateB j m w = false
      · have f3 : rFind k w (takeL j m z (winsL j z.t) l).1 = some (updR j m z.v k w (rFind k w l)) := (z1 k w).1 hz
        have f4 : rFind k w (takeL j m z (winsL j z.t) (takeL j m x (winsL j x.t) l).1).1 = some (updR j m z.v k w (rFind k w (takeL j m x (winsL j x.t) l).1)) := (y1 k w).1 hz
        rw [f4, f3, f1]
      · have f3 : rFind k w (takeL j m z (winsL j z.t) l).1 = rFind k w l := (z1 k w).2 hz
        have f4 : rFind k w (takeL j m z (winsL j z.t) (takeL j m x (winsL j x.t) l).1).1 = rFind k w (takeL j m x (winsL j x.t) l).1 := (y1 k w).2 hz
        rw [f4, f3, f1]
  · exact y2.trans z2.symm
  · exact u2.trans x2.symm
  · have a1 : (takeL j m x (winsL j x.t) l).2.1.length = _ := x3
    have a2 : (takeL j m z (winsL j z.t) l).2.1.length = _ := z3
    have a3 : (takeL j m z (winsL j z.t) (takeL j m x (winsL j x.t) l).1).2.1.length = _ := y3
    have a4 : (takeL j m x (winsL j x.t) (takeL j m z (winsL j z.t) l).1).2.1.length = _ := u3
    rw [a1, a2, a3, a4]
    omega
end Go.Rk
