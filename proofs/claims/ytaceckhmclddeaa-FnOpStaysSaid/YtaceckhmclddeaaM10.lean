/- The walk over this seat's functions, part 10: what each of them answers, at all data. -/
import Derived.Test.YtaceckhmclddeaaM1
import Derived.Test.YtaceckhmclddeaaM2
import Derived.Test.YtaceckhmclddeaaM3
import Derived.Test.YtaceckhmclddeaaM4
import Derived.Test.YtaceckhmclddeaaM5
import Derived.Test.YtaceckhmclddeaaM6
import Derived.Test.YtaceckhmclddeaaM7
import Derived.Test.YtaceckhmclddeaaM8
import Derived.Test.YtaceckhmclddeaaM9
/- Sessions, records and marks leave an operator ok. -/
namespace Go.Rk
set_option linter.unusedSimpArgs false
set_option linter.unusedVariables false
theorem span_s : ∀ (l : List RowT) (w : WinT), (spanL w l).s = w.s ∨ ∃ r, r ∈ l ∧ (spanL w l).s = r.win.s
  | [], w => .inl rfl
  | r :: l, w => by
    have e : spanL w (r :: l) = spanL (winSpan w r.win) l := rfl
    rw [e]
    rcases span_s l (winSpan w r.win) with h | ⟨q, hq, h⟩
    · rw [h]
      by_cases c : (winSpan w r.win).s = w.s
      · exact .inl c
      · refine .inr ⟨r, by simp, ?_⟩
        unfold winSpan at c ⊢
        simp only at c ⊢
        split at c <;> (try split) <;> first | omega | (exfalso; omega)
    · exact .inr ⟨q, List.mem_cons_of_mem _ hq, h⟩
theorem span_e : ∀ (l : List RowT) (w : WinT), (spanL w l).e = w.e ∨ ∃ r, r ∈ l ∧ (spanL w l).e = r.win.e
  | [], w => .inl rfl
  | r :: l, w => by
    have e : spanL w (r :: l) = spanL (winSpan w r.win) l := rfl
    rw [e]
    rcases span_e l (winSpan w r.win) with h | ⟨q, hq, h⟩
    · rw [h]
      by_cases c : (winSpan w r.win).e = w.e
      · exact .inl c
      · refine .inr ⟨r, by simp, ?_⟩
        unfold winSpan at c ⊢
        simp only at c ⊢
        split at c <;> (try split) <;> first | omega | (exfalso; omega)
    · exact .inr ⟨q, List.mem_cons_of_mem _ hq, h⟩
theorem pw_all {α : Type} {R : α → α → Prop} (hs : ∀ x y, R x y → R y x) (hr : ∀ x, R x x) : ∀ {l : List α}, l.Pairwise R → ∀ x, x ∈ l → ∀ y, y ∈ l → R x y
  | [], _, x, hx, _, _ => absurd hx (by simp)
  | a :: l, h, x, hx, y, hy => by
    rw [List.pairwise_cons] at h
    rcases List.mem_cons.1 hx with e | hx <;> rcases List.mem_cons.1 hy with f | hy
    · rw [e, f]; exact hr a
    · rw [e]; exact h.1 y hy
    · rw [f]; exact hs _ _ (h.1 x hx)
    · exact pw_all hs hr h.2 x hx y hy
theorem old_mem {k : Int} {w : WinT} {l : List RowT} {r : RowT} (h : r ∈ oldL k w l) : r ∈ l ∧ r.key = k ∧ TouchP r.win w := by
  unfold oldL at h
  rw [List.mem_filter] at h
  have h2 : decide (r.key = k ∧ (r.win.s < w.e ∧ w.s < r.win.e)) = true := h.2
  have h3 := of_decide_eq_true h2
  exact ⟨h.1, h3⟩
theorem rest_mem {k : Int} {w : WinT} {l : List RowT} {r : RowT} (h : r ∈ restL k w l) : r ∈ l ∧ ¬ (r.key = k ∧ TouchP r.win w) := by
  unfold restL at h
  rw [List.mem_filter] at h
  have h2 : (!decide (r.key = k ∧ (r.win.s < w.e ∧ w.s < r.win.e))) = true := h.2
  simp only [Bool.not_eq_true', decide_eq_false_iff_not] at h2
  exact ⟨h.1, h2⟩
theorem old_in {k : Int} {w : WinT} {l : List RowT} {r : RowT} (h : r ∈ l) (hk : r.key = k) (ht : TouchP r.win w) : r ∈ oldL k w l := by
  unfold oldL
  rw [List.mem_filter]
  exact ⟨h, by show decide (r.key = k ∧ (r.win.s < w.e ∧ w.s < r.win.e)) = true; exact decide_eq_true (show r.key = k ∧ (r.win.s < w.e ∧ w.s < r.win.e) from ⟨hk, ht⟩)⟩
theorem span_ok {j : JobT} {m k : Int} {w : WinT} {l : List RowT} (h : ∀ r, r ∈ l → RowOkP j r m) (hw : WinOkP w) : WinOkP (spanL w (oldL k w l)) := by
  have hi := span_in w (oldL k w l) w ⟨Int.le_refl _, Int.le_refl _⟩
  have hd := winOk_d hw
  have h1 : 0 ≤ (spanL w (oldL k w l)).s := by
    rcases span_s (oldL k w l) w with e | ⟨r, hr, e⟩
    · omega
    · have := winOk_d (h r (old_mem hr).1).2.1; omega
  have h2 : (spanL w (oldL k w l)).e ≤ 120 := by
    rcases span_e (oldL k w l) w with e | ⟨r, hr, e⟩
    · omega
    · have := winOk_d (h r (old_mem hr).1).2.1; omega
  exact winOk_of ⟨h1, by omega, by omega, h2⟩
/-- What did not touch a record touches not what became of it. -/
theorem rest_touch {j : JobT} {m k : Int} {w : WinT} {l : List RowT} (h : OkL j m l) (h3 : j.kind = 3) (hw : WinOkP w) {q : RowT} (hq : q ∈ l) (hqk : q.key = k) (hn : ¬ TouchP q.win w) : ¬ TouchP q.win (spanL w (oldL k w l)) := by
  intro ht
  have hall : ∀ x, x ∈ l → ∀ y, y ∈ l → (tchR k w x ≠ tchR k w y → ¬ (x.key = y.key ∧ TouchP x.win y.win)) := by
    refine pw_all (R := fun x y => tchR k w x ≠ tchR k w y → ¬ (x.key = y.key ∧ TouchP x.win y.win)) ?_ ?_ ?_
    · intro x y hxy hne hc
      exact hxy (fun e => hne e.symm) ⟨hc.1.symm, touch_sym hc.2⟩
    · intro x hne
      exact absurd rfl hne
    · exact List.Pairwise.imp (fun {a b} hxy (_ : tchR k w a ≠ tchR k w b) => hxy) (h.2.2 h3)
  have hno : ∀ o, o ∈ oldL k w l → ¬ TouchP q.win o.win := fun o ho hc => by
    obtain ⟨o1, o2, o3⟩ := old_mem ho
    refine hall q hq o o1 ?_ ⟨hqk.trans o2.symm, hc⟩
    have e1 : tchR k w q = false := by show decide (q.key = k ∧ (q.win.s < w.e ∧ w.s < q.win.e)) = false; exact decide_eq_false (fun hc : q.key = k ∧ (q.win.s < w.e ∧ w.s < q.win.e) => hn hc.2)
    have e2 : tchR k w o = true := by show decide (o.key = k ∧ (o.win.s < w.e ∧ w.s < o.win.e)) = true; exact decide_eq_true (show o.key = k ∧ (o.win.s < w.e ∧ w.s < o.win.e) from ⟨o2, o3⟩)
    rw [e1, e2]; simp
  have hd := winOk_d hw
  have hqd := winOk_d (h.1 q hq).2.1
  unfold TouchP at ht hn
  have hc : q.win.e ≤ w.s ∨ w.e ≤ q.win.s := by omega
  rcases hc with hc | hc
  · rcases span_s (oldL k w l) w with e | ⟨o, ho, e⟩
    · omega
    · have := (old_mem ho).2.2
      refine hno o ho ?_
      unfold TouchP at *
      omega
  · rcases span_e (oldL k w l) w with e | ⟨o, ho, e⟩
    · omega
    · have := (old_mem ho).2.2
      refine hno o ho ?_
      unfold TouchP at *
      omega
theorem sumN_nn {l : List RowT} (h : ∀ r, r ∈ l → 0 ≤ r.all.n) : 0 ≤ sumN l := by
  induction l with
  | nil => exact Int.le_refl _
  | cons r l ih =>
    have h1 := h r (by simp)
    have h2 := ih fun q hq => h q (List.mem_cons_of_mem _ hq)
    rw [sumN_cons]; omega
theorem sumN_mem {l : List RowT} (h : ∀ r, r ∈ l → 0 ≤ r.all.n) {r : RowT} (hr : r ∈ l) : r.all.n ≤ sumN l := by
  induction l with
  | nil => simp at hr
  | cons q l ih =>
    have h1 := h q (by simp)
    have h2 : ∀ x, x ∈ l → 0 ≤ x.all.n := fun x hx => h x (List.mem_cons_of_mem _ hx)
    have h3 := sumN_nn h2
    rw [sumN_cons]
    rcases List.mem_cons.1 hr with e | hr
    · rw [e]; omega
    · have := ih h2 hr; omega
theorem rowOk_n {j : JobT} {m : Int} {r : RowT} (h : RowOkP j r m) : 1 ≤ r.all.n ∧ r.all.n ≤ 1000 := by
  have h1 := aggOk_n h.2.2.1
  have h2 := h.2.2.2.2.1
  omega
theorem sess_ok {j : JobT} {m k v : Int} {w : WinT} {l : List RowT} {q : List RowT × List PaneT} {T : Int} (h : OkL j m l) (h3 : j.kind = 3) (hk : 0 ≤ k ∧ k ≤ 3) (hv : -9 ≤ v ∧ v ≤ 9) (hw : WinOkP w) (hS : sumN l ≤ 990) (hT : 0 ≤ T ∧ T ≤ 1499) (hb : ∀ r, r ∈ l → r.told ≤ T)
    (he : sessL j m k v w l = some q) : OkL j m q.1 ∧ (∀ r, r ∈ q.1 → r.told ≤ T + 1) ∧ ∀ p, p ∈ q.2 → PaneOkP p ∧ p.key = k := by
  have hnn : ∀ r, r ∈ l → 0 ≤ r.all.n := fun r hr => by have := rowOk_n (h.1 r hr); omega
  have hsp := span_ok (k := k) h.1 hw
  unfold sessL at he
  split at he
  · cases he
  · rename_i hm
    split at he
    · rename_i h1
      obtain ⟨o, ho⟩ : ∃ o, oldL k w l = [o] := by
        cases h : oldL k w l with
        | nil => rw [h] at h1; cases h1
        | cons a r => cases r with
          | nil => exact ⟨a, rfl⟩
          | cons _ _ => rw [h] at h1; cases h1
      have hno : j.kind = 3 → ∀ q, q ∈ l → ¬ IsR k (spanL w (oldL k w l)) q → q.key = k → ¬ TouchP q.win (spanL w (oldL k w l)) := fun _ q hq hn hqk => by
        by_cases ht : TouchP q.win w
        · have hq2 := old_in hq hqk ht
          rw [ho, List.mem_singleton] at hq2
          exfalso
          refine hn ⟨hqk, ?_⟩
          have h2 := h1
          rw [show oneB (spanL w (oldL k w l)) (oldL k w l) = oneB (spanL w (oldL k w l)) [o] by rw [ho]] at h2
          rw [hq2]
          exact of_decide_eq_true h2
        · exact rest_touch h h3 hw hq hqk ht
      obtain ⟨c1, c2, c3⟩ := into_ok (B := 990) h hk hv hsp (by omega) hT (fun r hr => ⟨Int.le_trans (sumN_mem hnn hr) hS, hb r hr⟩) hno he
      exact ⟨c1, fun r hr => (c2 r hr).2, c3⟩
    · cases he
      obtain ⟨a0, ha0⟩ : ∃ a0 : AggT, a0 = ((oldL k w l).map (·.all)).foldl aggB (agg1 v) := ⟨_, rfl⟩
      rw [← ha0]
      obtain ⟨r0, hr0⟩ : ∃ r0 : RowT, r0 = ⟨k, spanL w (oldL k w l), a0, a0, 0, false⟩ := ⟨_, rfl⟩
      rw [← hr0]
      have hsplit := sumN_split k w l
      have hrn : 0 ≤ sumN (restL k w l) := sumN_nn fun r hr => hnn r (rest_mem hr).1
      have hon : 0 ≤ sumN (oldL k w l) := sumN_nn fun r hr => hnn r (old_mem hr).1
      have hsum : sumI (((oldL k w l).map (·.all)).map (·.n)) = sumN (oldL k w l) := by rw [List.map_map]; rfl
      have hf := aggOk_fold ((oldL k w l).map (·.all)) (agg1 v) (aggOk_one hv) (fun b hb => by
        obtain ⟨r, hr, rfl⟩ := List.mem_map.1 hb
        exact (h.1 r (old_mem hr).1).2.2.1) (by rw [hsum]; show (1 : Int) + _ ≤ _; omega)
      rw [hsum, ← ha0] at hf
      have hn0 : a0.n = 1 + sumN (oldL k w l) := hf.2
      have hmm : m < w64 ((spanL w (oldL k w l)).e + j.late) := Int.not_le.1 hm
      have hr := tell_ok (j := j) (m := m) (r := r0) (by rw [hr0]; exact hk) (by rw [hr0]; exact hsp) (by rw [hr0]; exact hf.1) (by rw [hr0]; exact hf.1) (by rw [hr0]; show 1 ≤ a0.n; omega) (by rw [hr0]; exact Int.le_refl _) (by rw [hr0]; show (0 : Int) ≤ 0 ∧ (0 : Int) ≤ 1499; decide) (by rw [hr0]; exact hmm)
        (fun h => by rw [hr0] at h; cases h) (fun _ => by rw [hr0])
      obtain ⟨t1, t2, t3⟩ := tellS_all j m r0
      have ek : (tellS j m r0).1.key = k := by rw [t2, hr0]
      have ew : (tellS j m r0).1.win = spanL w (oldL k w l) := by rw [t3, hr0]
      have hrest : OkL j m (restL k w l) := ⟨fun r hr => h.1 r (rest_mem hr).1, rest_rise h.2.1, fun h3 => List.Pairwise.filter _ (h.2.2 h3)⟩
      refine ⟨put_ok hrest hr.1 fun _ q hq _ hqk => ?_, fun r hr => ?_, fun p hp => ?_⟩
      · rw [ew]
        rw [ek] at hqk
        exact rest_touch h h3 hw (rest_mem hq).1 hqk fun hc => (rest_mem hq).2 ⟨hqk, hc⟩
      · rcases mem_rPut.1 hr with rfl | ⟨hr, _⟩
        · unfold tellS
          split
          · rw [hr0]; show (0 : Int) ≤ T + 1; omega
          · rw [hr0]; show w64 (0 + 1) ≤ T + 1
            rw [w64_id (by omega)]; omega
        · have := hb r (rest_mem hr).1; omega
      · rcases List.mem_append.1 hp with hp | hp
        · unfold goneL at hp
          obtain ⟨r, hr, rfl⟩ := List.mem_map.1 hp
          rw [List.mem_filter] at hr
          have hto : 0 < r.told := of_decide_eq_true hr.2
          obtain ⟨o1, o2, _⟩ := old_mem hr.1
          have hro := h.1 r o1
          exact ⟨⟨hro.1, hro.2.1, hro.2.2.2.2.2.2.1, aggOk_z, .inr (.inr ⟨rfl, hto, rfl⟩)⟩, o2⟩
        · have := hr.2 p hp
          exact ⟨this.1, by rw [this.2, hr0]⟩
theorem takeW_ok {j : JobT} {m : Int} {x : ItmT} (hk : ¬ j.kind = 3) (hj : JobOkP j) (hx : RecP x) : ∀ (ws : List WinT) (l : List RowT) (a : List PaneT) (c : List LatT) (B T : Int), OkL j m l → (∀ w, w ∈ ws → WinOkP w) → 0 ≤ B → B + (ws.length : Int) ≤ 1000 → 0 ≤ T → T + (ws.length : Int) ≤ 1500 →
    (∀ r, r ∈ l → r.all.n ≤ B ∧ r.told ≤ T) → (∀ p, p ∈ a → PaneOkP p ∧ p.key = x.key) →
    OkL j m (ws.foldl (takeS j m x) (l, a, c)).1 ∧ (∀ r, r ∈ (ws.foldl (takeS j m x) (l, a, c)).1 → r.told ≤ T + (ws.length : Int)) ∧ ∀ p, p ∈ (ws.foldl (takeS j m x) (l, a, c)).2.1 → PaneOkP p ∧ p.key = x.key := by
  intro ws
  induction ws with
  | nil => intro l a c B T h _ _ _ _ _ hb hp; exact ⟨h, fun r hr => by have := (hb r hr).2; show r.told ≤ T + 0; omega, hp⟩
  | cons w ws ih =>
    intro l a c B T h hw hB hB2 hT hT2 hb hp
    have hg : ((w :: ws).length : Int) = (ws.length : Int) + 1 := rfl
    rw [hg] at hB2 hT2 ⊢
    rw [List.foldl_cons]
    have hws := fun u hu => hw u (List.mem_cons_of_mem _ hu)
    cases hq : stepT j m x w l with
    | none =>
      rw [takeS_none (a := (l, a, c)) hq]
      obtain ⟨c1, c2, c3⟩ := ih l a (c ++ [(⟨x, w⟩ : LatT)]) B T h hws hB (by omega) hT (by omega) hb hp
      exact ⟨c1, fun r hr => by have := c2 r hr; omega, c3⟩
    | some q =>
      rw [takeS_some (a := (l, a, c)) hq]
      have he := hq
      unfold stepT at he
      rw [if_neg hk] at he
      have hx2 := hx.2
      have hx1 := hx.1
      unfold ItmOkP at hx2
      obtain ⟨c1, c2, c3⟩ := into_ok (B := B) (T := T) h (by omega) (by omega) (hw w (by simp)) (by omega) (by omega) hb (fun h3 => absurd h3 hk) he
      obtain ⟨d1, d2, d3⟩ := ih q.1 (a ++ q.2) c (B + 1) (T + 1) c1 hws (by omega) (by omega) (by omega) (by omega) c2 (fun p hp' => by
        rcases List.mem_append.1 hp' with hp' | hp'
        · exact hp p hp'
        · exact c3 p hp')
      exact ⟨d1, fun r hr => by have := d2 r hr; omega, d3⟩
/-- Behind a record. -/
theorem take_ok {j : JobT} {s : OpStT} {x : ItmT} {T : Int} (hok : OpOkP j s) (hx : RecP x) (h280 : s.rows.n ≤ 280) (hS : sumN (rowsL s) ≤ 900) (hT : 0 ≤ T ∧ T ≤ 1400) (hb : ∀ r, r ∈ rowsL s → r.told ≤ T) :
    OkL j s.mark (opTakeL j s x).2.1 ∧ (∀ r, r ∈ (opTakeL j s x).2.1 → r.told ≤ T + 4) ∧ sumN (opTakeL j s x).2.1 ≤ sumN (rowsL s) + 4 ∧ ∀ p, p ∈ (opTakeL j s x).2.2.1 → PaneOkP p ∧ p.key = x.key := by
  have hsum := take_sum hok hx h280
  have hlen := winsL_len4 hok.1 (recP_t hx)
  have hol := okL_of hok
  have ht := recP_t hx
  have hxk : (0 ≤ x.key ∧ x.key ≤ 3) ∧ (-9 ≤ x.v ∧ x.v ≤ 9) := by
    have hx2 := hx.2
    have hx1 := hx.1
    unfold ItmOkP at hx2
    omega
  have hnn : ∀ r, r ∈ rowsL s → 0 ≤ r.all.n := fun r hr => by have := rowOk_n (hol.1 r hr); omega
  have key : OkL j s.mark (opTakeL j s x).2.1 ∧ (∀ r, r ∈ (opTakeL j s x).2.1 → r.told ≤ T + 4) ∧ ∀ p, p ∈ (opTakeL j s x).2.2.1 → PaneOkP p ∧ p.key = x.key := by
    unfold opTakeL
    rw [if_pos ⟨hok, hx, h280⟩]
    show OkL j s.mark (takeL j s.mark x (winsL j x.t) (rowsL s)).1 ∧ (∀ r, r ∈ (takeL j s.mark x (winsL j x.t) (rowsL s)).1 → r.told ≤ T + 4) ∧ ∀ p, p ∈ (takeL j s.mark x (winsL j x.t) (rowsL s)).2.1 → PaneOkP p ∧ p.key = x.key
    unfold takeL
    by_cases hk : j.kind = 3
    · have hj := hok.1
      have hwo := fun w hw => winsL_ok hj ht (w := w) hw
      have hj' := hj
      unfold JobOkP at hj
      rw [winsL_sess hk (by omega) ht.1 ht.2] at hwo ⊢
      rw [List.foldl_cons, List.foldl_nil]
      cases hq : stepT j s.mark x ⟨x.t, x.t + j.size⟩ (rowsL s) with
      | none =>
        rw [takeS_none (a := (rowsL s, [], [])) hq]
        exact ⟨hol, fun r hr => by have := hb r hr; omega, fun p hp => absurd hp (by simp)⟩
      | some q =>
        rw [takeS_some (a := (rowsL s, [], [])) hq]
        have he := hq
        unfold stepT at he
        rw [if_pos hk] at he
        obtain ⟨c1, c2, c3⟩ := sess_ok (T := T) hol hk hxk.1 hxk.2 (hwo _ (by simp)) (by omega) (by omega) hb he
        exact ⟨c1, fun r hr => by have := c2 r hr; omega, fun p hp => c3 p (by simpa using hp)⟩
    · have h := takeW_ok hk hok.1 hx (m := s.mark) (winsL j x.t) (rowsL s) [] [] 900 T hol (fun w hw => winsL_ok hok.1 ht hw) (by omega) (by omega) hT.1 (by omega) (fun r hr => ⟨Int.le_trans (sumN_mem hnn hr) hS, hb r hr⟩) (fun p hp => absurd hp (by simp))
      exact ⟨h.1, fun r hr => by have := h.2.1 r hr; omega, h.2.2⟩
  exact ⟨key.1, key.2.1, by omega, key.2.2⟩
end Go.Rk
/- A mark leaves an operator ok; what a mark tells; two marks. -/
namespace Go.Rk
set_option linter.unusedSimpArgs false
set_option linter.unusedVariables false
theorem markR_all (m : Int) (r : RowT) : (markR m r).all = r.all ∧ (markR m r).key = r.key ∧ (markR m r).win = r.win := by
  unfold markR; split <;> exact ⟨rfl, rfl, rfl⟩
def markL (j : JobT) (mk : Int) (l : List RowT) (m : Int) : Int × List RowT × List PaneT :=
  if m ≤ mk then (mk, l, []) else (m, keepL j.late m l, tellL j.piece m l)
theorem opMarkL_L {j : JobT} {s : OpStT} {m : Int} (hok : OpOkP j s) (hm : 0 ≤ m ∧ m ≤ 1000) : opMarkL j s m = markL j s.mark (rowsL s) m := by
  unfold opMarkL markL
  rw [if_neg (fun h => h ⟨hok, hm⟩)]
  split
  · rfl
  · have e : keepN (fun i => markR m (s.rows.g i)) (overB j.late m) s.rows.n = keepL j.late m (rowsL s) := by
      unfold keepN keepL rowsL
      rw [List.map_map]; rfl
    rw [e]; rfl
theorem opMarkL_bad {j : JobT} {s : OpStT} {m : Int} (h : ¬ (OpOkP j s ∧ (0 ≤ m ∧ m ≤ 1000))) : opMarkL j s m = (0, [], []) := by
  unfold opMarkL; rw [if_pos h]
theorem untold_zero {j : JobT} {r : RowT} {m : Int} (h : RowOkP j r m) (ht : r.timely = false) : r.told = 0 := by
  obtain ⟨_, _, _, _, _, _, a4, _, a5, a6, _⟩ := h
  have h9 : ¬ r.win.e ≤ m := fun h2 => by have := a5.2 h2; rw [ht] at this; cases this
  have : ¬ 0 < r.told := fun h2 => h9 (a6.1 h2)
  omega
theorem due_iff {m : Int} {r : RowT} : dueB m r = true ↔ r.timely = false ∧ r.win.e ≤ m := by
  unfold dueB
  simp
theorem mark_row_ok {j : JobT} {r : RowT} {m0 m : Int} (h : RowOkP j r m0) (hm : m0 < m) (ho : overB j.late m r = false) : RowOkP j (markR m r) m ∧ (markR m r).told ≤ r.told + 1 := by
  have ho' : m < w64 (r.win.e + j.late) := by
    unfold overB at ho
    have := of_decide_eq_false ho
    omega
  have h' := h
  obtain ⟨b1, b2, b3, b4, b5, b6, a4, a7, a5, a6, a8⟩ := h
  unfold markR
  cases hd : dueB m r with
  | true =>
    rw [if_pos rfl]
    obtain ⟨d1, d2⟩ := due_iff.1 hd
    have h0 := untold_zero h' d1
    have et : w64 (r.told + 1) = 1 := by rw [h0]; exact w64_id (by omega)
    refine ⟨⟨b1, b2, b3, aggOk_z, b5, ?_, ?_, ho', ?_, ?_, ?_⟩, ?_⟩
    · show (0 : Int) ≤ r.all.n
      exact (aggOk_n b3).1
    · show 0 ≤ w64 (r.told + 1) ∧ w64 (r.told + 1) ≤ 1500
      rw [et]; omega
    · show true = true ↔ r.win.e ≤ m
      exact ⟨fun _ => d2, fun _ => rfl⟩
    · show 0 < w64 (r.told + 1) ↔ r.win.e ≤ m
      rw [et]; exact ⟨fun _ => d2, fun _ => by decide⟩
    · show (0 : Int) = 0 ↔ r.win.e ≤ m
      exact ⟨fun _ => d2, fun _ => rfl⟩
    · show w64 (r.told + 1) ≤ r.told + 1
      rw [et]; omega
  | false =>
    rw [if_neg (by simp)]
    have hn : r.win.e ≤ m0 ↔ r.win.e ≤ m := by
      constructor
      · intro h; omega
      · intro h
        refine a5.1 ?_
        cases ht : r.timely with
        | true => rfl
        | false => rw [due_iff.2 ⟨ht, h⟩] at hd; cases hd
    refine ⟨⟨b1, b2, b3, b4, b5, b6, a4, ho', a5.trans hn, a6.trans hn, a8.trans hn⟩, by omega⟩
theorem keepL_mem {late m : Int} {l : List RowT} {r : RowT} : r ∈ keepL late m l ↔ ∃ q, q ∈ l ∧ overB late m q = false ∧ r = markR m q := by
  unfold keepL
  rw [List.mem_filter, List.mem_map]
  constructor
  · rintro ⟨⟨q, hq, rfl⟩, h2⟩
    rw [overB_mark] at h2
    exact ⟨q, hq, by simpa using h2, rfl⟩
  · rintro ⟨q, hq, h, rfl⟩
    exact ⟨⟨q, hq, rfl⟩, by rw [overB_mark, h]; rfl⟩
theorem mark_okL {j : JobT} {mk m T : Int} {l : List RowT} (h : OkL j mk l) (hm : mk < m) (hb : ∀ r, r ∈ l → r.told ≤ T) : OkL j m (keepL j.late m l) ∧ (∀ r, r ∈ keepL j.late m l → r.told ≤ T + 1) := by
  have hpw : ∀ {S : RowT → RowT → Prop}, (∀ a b, S a b → S (markR m a) (markR m b)) → l.Pairwise S → (keepL j.late m l).Pairwise S := fun {S} hs hp => by
    unfold keepL
    refine List.Pairwise.filter _ ?_
    rw [List.pairwise_map]
    exact List.Pairwise.imp (fun {a b} hab => hs a b hab) hp
  refine ⟨⟨fun r hr => ?_, ?_, fun h3 => ?_⟩, fun r hr => ?_⟩
  · obtain ⟨q, hq, ho, rfl⟩ := keepL_mem.1 hr
    exact (mark_row_ok (h.1 q hq) hm ho).1
  · refine hpw (fun a b hab => ?_) h.2.1
    unfold RA at *
    rw [(markR_all m a).2.1, (markR_all m a).2.2, (markR_all m b).2.1, (markR_all m b).2.2]
    exact hab
  · refine hpw (fun a b hab => ?_) (h.2.2 h3)
    rw [(markR_all m a).2.1, (markR_all m a).2.2, (markR_all m b).2.1, (markR_all m b).2.2]
    exact hab
  · obtain ⟨q, hq, ho, rfl⟩ := keepL_mem.1 hr
    have := (mark_row_ok (h.1 q hq) hm ho).2
    have := hb q hq
    omega
theorem tell_pane_ok {j : JobT} {mk m : Int} {l : List RowT} (h : ∀ r, r ∈ l → RowOkP j r mk) {p : PaneT} (hp : p ∈ tellL j.piece m l) : PaneOkP p := by
  unfold tellL at hp
  obtain ⟨r, hr, rfl⟩ := List.mem_map.1 hp
  rw [List.mem_filter] at hr
  have hro := h r hr.1
  obtain ⟨d1, d2⟩ := due_iff.1 hr.2
  have h0 := untold_zero hro d1
  obtain ⟨b1, b2, b3, b4, b5, b6, a4, a7, a5, a6, a8⟩ := hro
  have n3 := aggOk_n b3
  have n4 := aggOk_n b4
  have hne : ¬ r.win.e ≤ mk := fun h2 => by have := a5.2 h2; rw [d1] at this; cases this
  have hf : r.fresh.n ≠ 0 := fun h2 => hne (a8.1 h2)
  refine ⟨b1, b2, a4, ?_, .inl ⟨rfl, h0, ?_⟩⟩
  · show AggOkP (if j.piece = true then r.fresh else r.all)
    split
    · exact b4
    · exact b3
  · show 0 < (if j.piece = true then r.fresh else r.all).n
    split <;> omega
theorem sumN_keep (late m : Int) : ∀ (l : List RowT), (∀ r, r ∈ l → 0 ≤ r.all.n) → sumN (keepL late m l) ≤ sumN l
  | [], _ => Int.le_refl _
  | r :: l, h => by
    have h1 := h r (by simp)
    have ih := sumN_keep late m l fun q hq => h q (List.mem_cons_of_mem _ hq)
    have e : keepL late m (r :: l) = if overB late m r = true then keepL late m l else markR m r :: keepL late m l := by
      unfold keepL
      rw [List.map_cons, List.filter_cons, overB_mark]
      cases overB late m r <;> simp
    rw [e, sumN_cons]
    split
    · omega
    · rw [sumN_cons, (markR_all m r).1]; omega
/-- Behind a mark. -/
theorem mark_ok {j : JobT} {s : OpStT} {m T : Int} (hok : OpOkP j s) (hm : 0 ≤ m ∧ m ≤ 1000) (hT : 0 ≤ T) (hb : ∀ r, r ∈ rowsL s → r.told ≤ T) :
    s.mark ≤ (opMarkL j s m).1 ∧ (opMarkL j s m).1 ≤ 1000 ∧ OkL j (opMarkL j s m).1 (opMarkL j s m).2.1 ∧ (∀ r, r ∈ (opMarkL j s m).2.1 → r.told ≤ T + 1) ∧ sumN (opMarkL j s m).2.1 ≤ sumN (rowsL s) ∧ ∀ p, p ∈ (opMarkL j s m).2.2 → PaneOkP p := by
  rw [opMarkL_L hok hm]
  have hol := okL_of hok
  have hmk := hok.2.1
  unfold markL
  split
  · exact ⟨Int.le_refl _, hmk.2, hol, fun r hr => by have := hb r hr; omega, Int.le_refl _, fun p hp => absurd hp (by simp)⟩
  · have h := mark_okL hol (m := m) (by omega) hb
    refine ⟨by show s.mark ≤ m; omega, hm.2, h.1, h.2, sumN_keep _ _ _ fun r hr => ?_, fun p hp => tell_pane_ok hol.1 hp⟩
    have := rowOk_n (hol.1 r hr); omega
theorem rfind_in {k : Int} {w : WinT} {l : List RowT} {r : RowT} (h : RiseR l) (hr : r ∈ l) (hk : IsR k w r) : rFind k w l = some r := by
  induction l with
  | nil => simp at hr
  | cons q l ih =>
    rw [RiseR, List.pairwise_cons] at h
    have e : rFind k w (q :: l) = if IsR k w q then some q else rFind k w l := by
      unfold rFind
      rw [List.find?_cons]
      by_cases hq : IsR k w q
      · rw [decide_eq_true hq, if_pos hq]
      · rw [decide_eq_false hq, if_neg hq]
    rw [e]
    rcases List.mem_cons.1 hr with e1 | hr
    · rw [← e1, if_pos hk]
    · rw [if_neg (fun hq => ra_ne (h.1 r hr) hq hk), ih h.2 hr]
theorem tellN_at {piece : Bool} {m : Int} {g : Nat → RowT} {i : Nat} (hd : dueB m (g i) = true) : ∀ n, i < n → (tellN piece m g n)[(tellN piece m g i).length]? = some (paneP piece (g i) 1)
  | 0, h => absurd h (Nat.not_lt_zero i)
  | n + 1, h => by
    rw [tellN_succ]
    by_cases e : i = n
    · subst e
      rw [List.getElem?_append_right (Nat.le_refl _), Nat.sub_self, if_pos hd]; rfl
    · have ih := tellN_at (piece := piece) hd n (by omega)
      have hl := (List.getElem?_eq_some_iff.1 ih).1
      rw [List.getElem?_append_left hl]
      exact ih
/-- What a mark tells and leaves, place by place. -/
theorem mark_told (j : JobT) (s : OpStT) (m : Int) (x : Int × List RowT × List PaneT) (hx : x = opMarkL j s m) (hs : s.rows.n ≤ 280) : ∃ (k : Nat) (G : Nat → RowT) (c : Nat) (P : Nat → PaneT), Lst zRow x.2.1 k G ∧ Lst zPan x.2.2 c P ∧ k ≤ 280 ∧ c ≤ 280 ∧
    (¬ (OpOkP j s ∧ (0 ≤ m ∧ m ≤ 1000)) → x.1 = 0 ∧ k = 0 ∧ c = 0) ∧
    (OpOkP j s → (0 ≤ m ∧ m ≤ 1000) → m ≤ s.mark → x.1 = s.mark ∧ k = s.rows.n ∧ G = s.rows.g ∧ c = 0) ∧
    (OpOkP j s → (0 ≤ m ∧ m ≤ 1000) → s.mark < m → ∃ (nt nk : Nat → Nat), nt 0 = 0 ∧ nk 0 = 0 ∧ nt s.rows.n = c ∧ nk s.rows.n = k ∧ (∀ i, nt i ≤ i ∧ nk i ≤ i) ∧ ∀ i, i < s.rows.n →
      (dueB m (s.rows.g i) = true → nt i < c ∧ nt (i + 1) = nt i + 1 ∧ (P (nt i)).kind = 1 ∧ (P (nt i)).key = (s.rows.g i).key ∧ (P (nt i)).win = (s.rows.g i).win ∧ (P (nt i)).no = 0) ∧
      (dueB m (s.rows.g i) = false → nt (i + 1) = nt i) ∧
      (overB j.late m (s.rows.g i) = false → nk (i + 1) = nk i + 1 ∧ ∃ r, rFind (s.rows.g i).key (s.rows.g i).win x.2.1 = some r ∧ r.all = (s.rows.g i).all) ∧
      (overB j.late m (s.rows.g i) = true → nk (i + 1) = nk i)) := by
  have hlen := opMarkL_len j s m
  rw [← hx] at hlen
  obtain ⟨c, P, hP⟩ := lst_ex zPan x.2.2
  by_cases hc : OpOkP j s ∧ (0 ≤ m ∧ m ≤ 1000)
  · by_cases hle : m ≤ s.mark
    · have e : x = (s.mark, rowsL s, []) := by
        rw [hx, opMarkL_L hc.1 hc.2]; unfold markL; rw [if_pos hle]
      refine ⟨s.rows.n, s.rows.g, c, P, ?_, hP, hs, by rw [hP.1]; omega, fun h => absurd hc h, fun _ _ _ => ⟨by rw [e], rfl, rfl, by rw [hP.1, e]; rfl⟩, fun _ _ h => absurd hle (by omega)⟩
      rw [e]
      exact lst_of zRow s.rows.n s.rows.g
    · obtain ⟨k, G, hG⟩ := lst_ex zRow x.2.1
      have e0 : x = markL j s.mark (rowsL s) m := by rw [hx, opMarkL_L hc.1 hc.2]
      have e : x = (m, keepN (fun i => markR m (s.rows.g i)) (overB j.late m) s.rows.n, tellN j.piece m s.rows.g s.rows.n) := by
        rw [hx]; unfold opMarkL
        rw [if_neg (fun h => h hc), if_neg hle]
      have hol := okL_of hc.1
      have hrise : RiseR x.2.1 := by
        rw [e0]; unfold markL; rw [if_neg hle]
        exact (mark_okL (T := 1500) hol (by omega) fun r hr => (hol.1 r hr).2.2.2.2.2.2.1.2).1.2.1
      refine ⟨k, G, c, P, hG, hP, by rw [hG.1]; omega, by rw [hP.1]; omega, fun h => absurd hc h, fun _ _ h => absurd h hle, fun _ _ _ => ⟨fun i => (tellN j.piece m s.rows.g i).length, fun i => (keepN (fun i => markR m (s.rows.g i)) (overB j.late m) i).length, rfl, rfl, by rw [hP.1, e], by rw [hG.1, e], fun i => ⟨tellN_len _ _ _ _, keepN_len _ _ _⟩, fun i hi => ⟨fun hd => ?_, fun hd => ?_, fun ho => ⟨?_, ?_⟩, fun ho => ?_⟩⟩⟩
      · have h1 := tellN_at (piece := j.piece) hd s.rows.n hi
        have h2 : x.2.2[(tellN j.piece m s.rows.g i).length]? = some (paneP j.piece (s.rows.g i) 1) := by rw [e]; exact h1
        obtain ⟨h3, h4⟩ := lst_get hP h2
        refine ⟨h3, ?_, ?_⟩
        · show (tellN j.piece m s.rows.g (i + 1)).length = _
          rw [tellN_succ, if_pos hd, List.length_append]; rfl
        · show (P (tellN j.piece m s.rows.g i).length).kind = 1 ∧ (P (tellN j.piece m s.rows.g i).length).key = _ ∧ (P (tellN j.piece m s.rows.g i).length).win = _ ∧ (P (tellN j.piece m s.rows.g i).length).no = 0
          rw [h4]
          refine ⟨rfl, rfl, rfl, ?_⟩
          exact untold_zero (hc.1.2.2.2 i hi).1 (due_iff.1 hd).1
      · show (tellN j.piece m s.rows.g (i + 1)).length = _
        rw [tellN_succ, hd, List.length_append]; rfl
      · show (keepN (fun i => markR m (s.rows.g i)) (overB j.late m) (i + 1)).length = _
        rw [keepN_succ, overB_mark, ho, List.length_append]; rfl
      · have hm : markR m (s.rows.g i) ∈ x.2.1 := by
          rw [e0]; unfold markL; rw [if_neg hle]
          exact keepL_mem.2 ⟨_, List.mem_map.2 ⟨i, List.mem_range.2 hi, rfl⟩, ho, rfl⟩
        obtain ⟨a1, a2, a3⟩ := markR_all m (s.rows.g i)
        exact ⟨_, rfind_in hrise hm ⟨a2, by rw [a3], by rw [a3]⟩, a1⟩
      · show (keepN (fun i => markR m (s.rows.g i)) (overB j.late m) (i + 1)).length = _
        rw [keepN_succ, overB_mark, ho, List.length_append]; rfl
  · obtain ⟨k, G, hG⟩ := lst_ex zRow x.2.1
    have e : x = (0, [], []) := by rw [hx]; exact opMarkL_bad hc
    exact ⟨k, G, c, P, hG, hP, by rw [hG.1]; omega, by rw [hP.1]; omega, fun _ => ⟨by rw [e], by rw [hG.1, e]; rfl, by rw [hP.1, e]; rfl⟩, fun h1 h2 => absurd ⟨h1, h2⟩ hc, fun h1 h2 => absurd ⟨h1, h2⟩ hc⟩
end Go.Rk
/- Two marks are the later one. -/
namespace Go.Rk
set_option linter.unusedSimpArgs false
set_option linter.unusedVariables false
theorem keepL_cons (late m : Int) (r : RowT) (l : List RowT) : keepL late m (r :: l) = if overB late m r = true then keepL late m l else markR m r :: keepL late m l := by
  unfold keepL
  rw [List.map_cons, List.filter_cons, overB_mark]
  cases overB late m r <;> simp
theorem tellL_cons (piece : Bool) (m : Int) (r : RowT) (l : List RowT) : tellL piece m (r :: l) = if dueB m r = true then paneP piece r 1 :: tellL piece m l else tellL piece m l := by
  unfold tellL
  rw [List.filter_cons]
  cases dueB m r <;> simp
theorem due_not {m : Int} {r : RowT} (h : dueB m r = true) (m' : Int) : dueB m' (markR m r) = false := by
  unfold markR; rw [if_pos h]; rfl
theorem mark_twice {j : JobT} (hj : JobOkP j) {mk m : Int} (hm : m < 1000) : ∀ {l : List RowT}, (∀ r, r ∈ l → RowOkP j r mk) → mk < m →
    keepL j.late (m + 1) (keepL j.late m l) = keepL j.late (m + 1) l ∧ (tellL j.piece m l ++ tellL j.piece (m + 1) (keepL j.late m l)).Perm (tellL j.piece (m + 1) l)
  | [], _, _ => ⟨rfl, .nil⟩
  | r :: l, h, hk => by
    have ih := mark_twice hj hm (fun q hq => h q (List.mem_cons_of_mem _ hq)) hk
    have hr := h r (by simp)
    have hw := winOk_d hr.2.1
    have hlw := late_w hj hr.2.1
    have hj2 : 0 ≤ j.late := by unfold JobOkP at hj; omega
    have hov : ∀ n, overB j.late n r = decide (r.win.e + j.late ≤ n) := fun n => by unfold overB; rw [hlw]
    cases hd : dueB m r with
    | true =>
      obtain ⟨d1, d2⟩ := due_iff.1 hd
      have hd2 : dueB (m + 1) r = true := due_iff.2 ⟨d1, by omega⟩
      have e1 : markR m r = toldR r := by unfold markR; rw [if_pos hd]
      have e2 : markR (m + 1) r = toldR r := by unfold markR; rw [if_pos hd2]
      have e3 : markR (m + 1) (toldR r) = toldR r := by rw [← e1]; unfold markR; rw [if_pos hd]; rfl
      have e4 : overB j.late (m + 1) (toldR r) = overB j.late (m + 1) r := rfl
      rw [keepL_cons, keepL_cons j.late (m + 1), tellL_cons, tellL_cons j.piece (m + 1), if_pos hd, if_pos hd2, e1, e2]
      by_cases ho : r.win.e + j.late ≤ m
      · rw [hov m, hov (m + 1), if_pos (decide_eq_true ho), if_pos (decide_eq_true (show r.win.e + j.late ≤ m + 1 by omega))]
        exact ⟨ih.1, .cons _ ih.2⟩
      · rw [hov m, if_neg (by rw [decide_eq_false ho]; simp), keepL_cons, tellL_cons, e4, hov (m + 1), e3, if_neg (show ¬ dueB (m + 1) (toldR r) = true by intro hc; cases hc)]
        refine ⟨?_, .cons _ ih.2⟩
        rw [ih.1]
    | false =>
      have e1 : markR m r = r := by unfold markR; rw [if_neg (by rw [hd]; simp)]
      rw [keepL_cons, keepL_cons j.late (m + 1), tellL_cons, tellL_cons j.piece (m + 1), e1, if_neg (show ¬ dueB m r = true by rw [hd]; simp)]
      by_cases ho : r.win.e + j.late ≤ m
      · have hd2 : dueB (m + 1) r = false := by
          cases hc : dueB (m + 1) r with
          | false => rfl
          | true =>
            obtain ⟨d1, d2⟩ := due_iff.1 hc
            rw [due_iff.2 ⟨d1, by omega⟩] at hd; cases hd
        rw [hov m, hov (m + 1), if_pos (decide_eq_true ho), if_pos (decide_eq_true (show r.win.e + j.late ≤ m + 1 by omega)), if_neg (show ¬ dueB (m + 1) r = true by rw [hd2]; simp)]
        exact ih
      · rw [hov m, if_neg (by rw [decide_eq_false ho]; simp), keepL_cons, tellL_cons]
        refine ⟨by rw [ih.1], ?_⟩
        cases dueB (m + 1) r with
        | true => exact List.perm_middle.trans (.cons _ ih.2)
        | false => exact ih.2
def paneSame (p q : PaneT) : Prop := p.key = q.key ∧ (p.win.s = q.win.s ∧ p.win.e = q.win.e)
theorem pane_sym {p q : PaneT} (h : ¬ paneSame p q) : ¬ paneSame q p := fun hc => h ⟨hc.1.symm, hc.2.1.symm, hc.2.2.symm⟩
def paneTab (p : PaneT) : TabT := ⟨p.key, p.win, p.agg⟩
/-- What panes of windows, each told once, tell. -/
theorem of_once (piece : Bool) : ∀ (l : List PaneT), (∀ p, p ∈ l → p.kind = 1) → l.Pairwise (fun p q => ¬ paneSame p q) → Rise (ofL piece l) ∧ ∀ t, t ∈ ofL piece l ↔ ∃ p, p ∈ l ∧ t = paneTab p := by
  refine snocInd (fun _ _ => ⟨List.Pairwise.nil, fun t => by simp [ofL]⟩) fun l p ih h1 h2 => ?_
  rw [List.pairwise_append] at h2
  obtain ⟨i1, i2⟩ := ih (fun q hq => h1 q (List.mem_append_left _ hq)) h2.1
  have hno : ∀ t, t ∈ ofL piece l → ¬ IsRow p.key p.win t := fun t ht hc => by
    obtain ⟨q, hq, rfl⟩ := (i2 t).1 ht
    exact h2.2.2 q hq p (by simp) hc
  have hk : ¬ p.kind = 3 := by rw [h1 p (by simp)]; decide
  have hf : tFind p.key p.win (ofL piece l) = none := by
    cases hc : tFind p.key p.win (ofL piece l) with
    | none => rfl
    | some a =>
      obtain ⟨r, hr, he, _⟩ := tFind_some hc
      exact absurd he (hno r hr)
  have ha : ofAgg piece (ofL piece l) p = p.agg := by
    unfold ofAgg
    split
    · rw [hf]; rfl
    · rfl
  have e : ofL piece (l ++ [p]) = tPut (paneTab p) (ofL piece l) := by
    rw [ofL_snoc]; unfold ofStep; rw [if_neg hk, ha]; rfl
  rw [e]
  refine ⟨rise_tPut i1, fun t => ?_⟩
  rw [mem_tPut]
  constructor
  · rintro (rfl | ⟨ht, _⟩)
    · exact ⟨p, by simp, rfl⟩
    · obtain ⟨q, hq, rfl⟩ := (i2 t).1 ht
      exact ⟨q, List.mem_append_left _ hq, rfl⟩
  · rintro ⟨q, hq, rfl⟩
    rcases List.mem_append.1 hq with hq | hq
    · exact .inr ⟨(i2 _).2 ⟨q, hq, rfl⟩, hno _ ((i2 _).2 ⟨q, hq, rfl⟩)⟩
    · rw [List.mem_singleton] at hq
      exact .inl (by rw [hq])
theorem of_perm {piece : Bool} {l l' : List PaneT} (hp : l.Perm l') (h1 : ∀ p, p ∈ l' → p.kind = 1) (h2 : l'.Pairwise (fun p q => ¬ paneSame p q)) : ofL piece l = ofL piece l' := by
  obtain ⟨a1, a2⟩ := of_once piece l (fun p hq => h1 p (hp.mem_iff.1 hq)) ((hp.pairwise_iff (fun {a b} h => pane_sym h)).2 h2)
  obtain ⟨b1, b2⟩ := of_once piece l' h1 h2
  refine sorted_ext ahead_irr ahead_tr a1 b1 fun t => ?_
  rw [a2, b2]
  exact ⟨fun ⟨p, hq, e⟩ => ⟨p, hp.mem_iff.1 hq, e⟩, fun ⟨p, hq, e⟩ => ⟨p, hp.mem_iff.2 hq, e⟩⟩
theorem tell_once {piece : Bool} {m : Int} {l : List RowT} (h : RiseR l) : (∀ p, p ∈ tellL piece m l → p.kind = 1) ∧ (tellL piece m l).Pairwise (fun p q => ¬ paneSame p q) := by
  refine ⟨fun p hp => ?_, ?_⟩
  · unfold tellL at hp
    obtain ⟨r, _, rfl⟩ := List.mem_map.1 hp
    rfl
  · unfold tellL
    rw [List.pairwise_map]
    refine List.Pairwise.imp (fun {a b} hab hc => ?_) (List.Pairwise.filter _ h)
    exact ra_ne hab ⟨rfl, rfl, rfl⟩ ⟨hc.1.symm, hc.2.1.symm, hc.2.2.symm⟩
/-- FnOpMarks in plain words. -/
theorem marks_two {j : JobT} {s : OpStT} {m : Int} {x z v : Int × List RowT × List PaneT} {k : Nat} {G : Nat → RowT} (hok : OpOkP j s) (hm : 0 ≤ m ∧ m < 1000) (hx : x = opMarkL j s m) (hG : Lst zRow x.2.1 k G) (hkL : k ≤ maxLen)
    (hz : z = opMarkL j ⟨x.1, ⟨k, G, hkL⟩⟩ (m + 1)) (hv : v = opMarkL j s (m + 1)) : z.1 = v.1 ∧ z.2.1 = v.2.1 ∧ x.2.2.length + z.2.2.length = v.2.2.length ∧ ofL j.piece (x.2.2 ++ z.2.2) = ofL j.piece v.2.2 := by
  have hol := okL_of hok
  have hb : ∀ r, r ∈ rowsL s → r.told ≤ 1500 := fun r hr => (hol.1 r hr).2.2.2.2.2.2.1.2
  have hmk := mark_ok (T := 1500) hok (show 0 ≤ m ∧ m ≤ 1000 by omega) (by decide) hb
  have hlen := (opMarkL_len j s m).1
  rw [← hx] at hmk hlen
  have h300 := hok.2.2.1
  have hmk0 := hok.2.1
  have hok2 : OpOkP j ⟨x.1, ⟨k, G, hkL⟩⟩ := ok_of hG hkL hok.1 (by omega) (by rw [hG.1]; omega) hmk.2.2.1
  rw [opMarkL_L hok2 (by omega), rowsL_lst hG hkL] at hz
  rw [opMarkL_L hok (by omega)] at hv hx
  have hz : z = markL j x.1 x.2.1 (m + 1) := hz
  by_cases hle : m ≤ s.mark
  · have e : x = (s.mark, rowsL s, []) := by rw [hx]; unfold markL; rw [if_pos hle]
    have ez : z = v := by rw [hz, e, hv]
    rw [ez, e]
    exact ⟨rfl, rfl, by simp, rfl⟩
  · have e : x = (m, keepL j.late m (rowsL s), tellL j.piece m (rowsL s)) := by rw [hx]; unfold markL; rw [if_neg hle]
    have ez : z = (m + 1, keepL j.late (m + 1) (keepL j.late m (rowsL s)), tellL j.piece (m + 1) (keepL j.late m (rowsL s))) := by rw [hz, e]; unfold markL; rw [if_neg (by show ¬ m + 1 ≤ m; omega)]
    have ev : v = (m + 1, keepL j.late (m + 1) (rowsL s), tellL j.piece (m + 1) (rowsL s)) := by rw [hv]; unfold markL; rw [if_neg (by omega)]
    obtain ⟨t1, t2⟩ := mark_twice hok.1 hm.2 hol.1 (show s.mark < m by omega)
    rw [ez, ev, e]
    obtain ⟨o1, o2⟩ := tell_once (piece := j.piece) (m := m + 1) hol.2.1
    refine ⟨rfl, t1, ?_, of_perm t2 o1 o2⟩
    have := t2.length_eq
    rw [List.length_append] at this
    exact this
end Go.Rk
/- Drawn operators know of few values. -/
namespace Go.Rk
set_option linter.unusedSimpArgs false
set_option linter.unusedVariables false
/-- Few values, seldom told. -/
def Bd (B : Int) (l : List RowT) : Prop := sumN l ≤ B ∧ ∀ r, r ∈ l → 0 ≤ r.all.n ∧ r.told ≤ B
theorem bd_nil {B : Int} (h : 0 ≤ B) : Bd B [] := ⟨h, fun r hr => absurd hr (by simp)⟩
theorem bd_mono {B C : Int} {l : List RowT} (h : Bd B l) (hc : B ≤ C) : Bd C l := ⟨Int.le_trans h.1 hc, fun r hr => ⟨(h.2 r hr).1, Int.le_trans (h.2 r hr).2 hc⟩⟩
theorem opTakeL_bad {j : JobT} {s : OpStT} {x : ItmT} (h : ¬ (OpOkP j s ∧ RecP x ∧ s.rows.n ≤ 280)) : opTakeL j s x = (0, [], [], []) := by
  unfold opTakeL; rw [if_neg h]
theorem bd_take {j : JobT} {s : OpStT} {x : ItmT} {B : Int} (h : Bd B (rowsL s)) (hB : 0 ≤ B ∧ B ≤ 880) : Bd (B + 4) (opTakeL j s x).2.1 := by
  by_cases hc : OpOkP j s ∧ RecP x ∧ s.rows.n ≤ 280
  · obtain ⟨h1, h2, h3, _⟩ := take_ok (T := B) hc.1 hc.2.1 hc.2.2 (by have := h.1; omega) (by omega) fun r hr => (h.2 r hr).2
    refine ⟨by have := h.1; omega, fun r hr => ⟨?_, h2 r hr⟩⟩
    have := rowOk_n (h1.1 r hr)
    omega
  · rw [opTakeL_bad hc]
    exact bd_nil (by omega)
theorem bd_mark {j : JobT} {s : OpStT} {m B : Int} (h : Bd B (rowsL s)) (hB : 0 ≤ B) : Bd (B + 4) (opMarkL j s m).2.1 := by
  by_cases hc : OpOkP j s ∧ (0 ≤ m ∧ m ≤ 1000)
  · obtain ⟨_, _, h1, h2, h3, _⟩ := mark_ok (T := B) hc.1 hc.2 hB fun r hr => (h.2 r hr).2
    refine ⟨by have := h.1; omega, fun r hr => ⟨?_, ?_⟩⟩
    · have := rowOk_n (h1.1 r hr); omega
    · have := h2 r hr; omega
  · rw [opMarkL_bad hc]
    exact bd_nil (by omega)
/-- As few rows as values. -/
theorem sumN_rows {j : JobT} {m : Int} : ∀ {l : List RowT}, (∀ r, r ∈ l → RowOkP j r m) → (l.length : Int) ≤ sumN l
  | [], _ => Int.le_refl _
  | r :: l, h => by
    have h1 := rowOk_n (h r (by simp))
    have h2 := sumN_rows fun q hq => h q (List.mem_cons_of_mem _ hq)
    rw [sumN_cons, List.length_cons]; omega
theorem bd_rows {j : JobT} {s : OpStT} {B : Int} (hok : OpOkP j s) (h : Bd B (rowsL s)) : (s.rows.n : Int) ≤ B := by
  have h1 := sumN_rows (okL_of hok).1
  have e : (rowsL s).length = s.rows.n := by unfold rowsL; simp
  rw [e] at h1
  have := h.1
  omega
theorem bd_lst {B : Int} {l : List RowT} {n : Nat} {G : Nat → RowT} {mk : Int} (h : Bd B l) (hL : Lst zRow l n G) (hn : n ≤ maxLen) : Bd B (rowsL ⟨mk, ⟨n, G, hn⟩⟩) := by
  rw [rowsL_lst hL hn]; exact h
theorem pre_upd {g R : Nat → RowT} {i : Nat} {r' : RowT} : ∀ n, (∀ q, q < n → R q = if q = i then r' else g q) → preN R n = preN g n + if i < n then r'.all.n - (g i).all.n else 0
  | 0, _ => by rw [if_neg (Nat.not_lt_zero i)]; rfl
  | n + 1, h => by
    rw [preN_succ, preN_succ, pre_upd n (fun q hq => h q (by omega)), h n (by omega)]
    by_cases e : n = i
    · subst e
      rw [if_pos rfl, if_neg (Nat.lt_irrefl n), if_pos (Nat.lt_succ_self n)]; omega
    · rw [if_neg e]
      by_cases e2 : i < n
      · rw [if_pos e2, if_pos (by omega)]; omega
      · rw [if_neg e2, if_neg (by omega)]; omega
theorem ok_row {j : JobT} {s : OpStT} (h : OpOkP j s) {i : Nat} (hi : i < s.rows.n) : (1 ≤ (s.rows.g i).all.n ∧ (s.rows.g i).all.n ≤ 1000) ∧ (s.rows.g i).told ≤ 1500 := by
  have hr := (h.2.2.2 i hi).1
  exact ⟨rowOk_n hr, hr.2.2.2.2.2.2.1.2⟩
/-- One row was spoilt. -/
theorem bd_bad {j : JobT} {mk B : Int} {n i : Nat} {g R : Nat → RowT} {r' : RowT} (hn : n ≤ maxLen) (hi : i < n) (hR : ∀ q, q < n → R q = if q = i then r' else g q) (h : Bd B ((List.range n).map g)) (hB : 0 ≤ B) (hok : OpOkP j ⟨mk, ⟨n, R, hn⟩⟩)
    (ha : r'.all = (g i).all ∨ r'.all.n ≤ 10 ∨ r'.all.n = 1001) (ht : r'.told = (g i).told ∨ r'.told ≤ 1 ∨ r'.told = 1501) : Bd (B + 10) (rowsL ⟨mk, ⟨n, R, hn⟩⟩) := by
  have hgi := h.2 (g i) (List.mem_map.2 ⟨i, List.mem_range.2 hi, rfl⟩)
  have hi2 : R i = r' := by rw [hR i hi, if_pos rfl]
  have hri := ok_row hok hi
  have hri : (1 ≤ (R i).all.n ∧ (R i).all.n ≤ 1000) ∧ (R i).told ≤ 1500 := hri
  rw [hi2] at hri
  have hsum := pre_upd n hR
  rw [if_pos hi] at hsum
  have h1 : preN g n ≤ B := h.1
  refine ⟨?_, fun r hr => ?_⟩
  · show preN R n ≤ B + 10
    rw [hsum]
    rcases ha with e | e | e
    · rw [e]; omega
    · omega
    · omega
  · obtain ⟨q, hq, rfl⟩ := List.mem_map.1 hr
    have hq := List.mem_range.1 hq
    have hqq := ok_row hok hq
    have hqq : (1 ≤ (R q).all.n ∧ (R q).all.n ≤ 1000) ∧ (R q).told ≤ 1500 := hqq
    refine ⟨by show 0 ≤ (R q).all.n; omega, ?_⟩
    show (R q).told ≤ B + 10
    rw [hR q hq]
    by_cases e : q = i
    · rw [if_pos e]
      rcases ht with e | e | e <;> omega
    · rw [if_neg e]
      have := h.2 (g q) (List.mem_map.2 ⟨q, List.mem_range.2 hq, rfl⟩)
      omega
theorem bd_app {j : JobT} {mk B : Int} {n i : Nat} {g R : Nat → RowT} (hn : n + 1 ≤ maxLen) (hi : i < n) (hR : ∀ q, R q = if q < n then g q else g i) (h : Bd B ((List.range n).map g)) (hB : 0 ≤ B) (hok : OpOkP j ⟨mk, ⟨n + 1, R, hn⟩⟩) : Bd (B + B) (rowsL ⟨mk, ⟨n + 1, R, hn⟩⟩) := by
  have hnn : ∀ r, r ∈ (List.range n).map g → 0 ≤ r.all.n := fun r hr => (h.2 r hr).1
  have hgi : g i ∈ (List.range n).map g := List.mem_map.2 ⟨i, List.mem_range.2 hi, rfl⟩
  have h2 := sumN_mem hnn hgi
  have e : rowsL ⟨mk, ⟨n + 1, R, hn⟩⟩ = (List.range n).map g ++ [g i] := by
    show (List.range (n + 1)).map R = _
    rw [List.range_succ, List.map_append]
    congr 1
    · refine List.map_congr_left fun q hq => ?_
      rw [hR, if_pos (List.mem_range.1 hq)]
    · show [R n] = _
      rw [hR, if_neg (Nat.lt_irrefl n)]
  rw [e]
  refine ⟨?_, fun r hr => ?_⟩
  · unfold sumN
    rw [List.map_append, sumI_app]
    have h1 : sumI (((List.range n).map g).map (·.all.n)) ≤ B := h.1
    have h3 : sumI (([g i]).map (·.all.n)) = (g i).all.n + 0 := rfl
    have h4 : (g i).all.n ≤ sumI (((List.range n).map g).map (·.all.n)) := h2
    rw [h3]; omega
  · rcases List.mem_append.1 hr with hr | hr
    · have := h.2 r hr; omega
    · rw [List.mem_singleton] at hr
      have := h.2 _ hgi
      rw [hr]; omega
end Go.Rk
/- Draws: agg. -/
namespace Go.Rk
set_option linter.unusedSimpArgs false
set_option linter.unusedVariables false
open Go.Proofs
set_option maxRecDepth 100000
set_option maxHeartbeats 1000000
theorem selN {A : Ar} (hA : real = A) {x : Int} (h0 : 0 ≤ x) (h1 : x < 6) : A.sel [-1, 0, 1, 10, 1001, -10] (A.add 0 (A.nat x)) ≤ 10 ∨ A.sel [-1, 0, 1, 10, 1001, -10] (A.add 0 (A.nat x)) = 1001 := by
  subst hA
  obtain ⟨i, rfl⟩ := Int.eq_ofNat_of_zero_le h0
  have hi : i < 6 := by omega
  have e : real.add 0 (real.nat (i : Int)) = i := Nat.zero_add i
  rw [e]
  show [-1, 0, 1, 10, 1001, -10].getD i (0 : Int) ≤ 10 ∨ [-1, 0, 1, 10, 1001, -10].getD i (0 : Int) = 1001
  rcases i with _ | _ | _ | _ | _ | _ | i <;> first | (exact .inl (by decide)) | (exact .inr rfl) | omega
theorem selT {A : Ar} (hA : real = A) {x : Int} (h0 : 0 ≤ x) (h1 : x < 4) : A.sel [-1, 0, 1, 1501] (A.add 0 (A.nat x)) ≤ 1 ∨ A.sel [-1, 0, 1, 1501] (A.add 0 (A.nat x)) = 1501 := by
  subst hA
  obtain ⟨i, rfl⟩ := Int.eq_ofNat_of_zero_le h0
  have hi : i < 4 := by omega
  have e : real.add 0 (real.nat (i : Int)) = i := Nat.zero_add i
  rw [e]
  show [-1, 0, 1, 1501].getD i (0 : Int) ≤ 1 ∨ [-1, 0, 1, 1501].getD i (0 : Int) = 1501
  rcases i with _ | _ | _ | _ | i <;> first | (exact .inl (by decide)) | (exact .inr rfl) | omega
def st_xa2 (m : Nat) (b : Nat → Int) (n : Int) (k q : Int) (a : AggT) : St := ⟨[(6, .c (.d (eI k))), (5, .c (.bp 320 1 0)), (4, .c (.bp 256 1 0)), (1, .c (.d (eI n))), (0, .c (.bp 0 1 0))], [(320, 1, .box ((eAgg a).map .d)), (256, 1, .box ((eAgg zAgg).map .d)), (0, 1, .box [.d (.sl 1 m fun i => [eU (b i)]), .d (eI q)])]⟩
theorem x2_add (a : AggT) (v : Int) (h : 0 ≤ a.n ∧ a.n ≤ 1000) : ∃ c : AggT, (c.n = a.n + 1) ∧ Meets Try.prog 157 [xd (eAgg a), .c (.d (eI v))] ⟨.one (xd (eAgg c)), [none, none]⟩ := ⟨_, add_n ⟨h.1, by omega⟩, c_sAggAdd a v _ rfl⟩
theorem x2_agg (m : Nat) (hm : m ≤ 2000) (b : Nat → Int) (hb : ∀ i, 0 ≤ b i ∧ b i ≤ 255) (p : Int) (hp : 0 ≤ p ∧ p ≤ 60000) (n : Int) (hn : 1 ≤ n ∧ n ≤ 100) : ∃ y : AggT × Int, (p ≤ y.2 ∧ y.2 ≤ p + 20 ∧ (y.1.n ≤ 10 ∨ y.1.n = 1001)) ∧ Meets Try.prog 148 [.c (.box [.d (.sl 1 m fun i => [eU (b i)]), .d (eI p)]), .c (.d (eI n))] ⟨.one (xd (eAgg y.1)), [some (.box [.d (.sl 1 m fun i => [eU (b i)]), .d (eI y.2)]), none]⟩ := by
  refine meets_ex (H := []) (EX := EXD) ttok mixed ([some (.box [.d (.sl 1 m fun i => [eU (b i)]), .d (eI 0)]), none]) Try.func148 rfl (by kernel_rfl) (by decide) (fun _ => rfl) ?_
  generalize hA : real = A
  generalize hM : MeetsB Try.prog = M
  cbv
  repeat' first
    | apply And.intro
    | exact True.intro
    | with_reducible rfl
    | exact same_of hA rfl
    | refine br_of hA (fun _ => ?_) (fun _ => ?_)
    | exact imp_of hA id
    | (refine imp_of hA ?_; subst hA; simp only [real, Bool.true_and]; exact id)
    | (refine ind_of hA ?_; decide +kernel)
    | (refine call_ex hA hM (x_pick m hm b hb _ (by omega) _ (by omega)) ?_; rintro ⟨x, q⟩ ⟨hx0, hx1, hq⟩; dsimp only at hx0 hx1 hq; cbv)
  refine loop_of hA (α := { y : Int × Int × AggT // 0 ≤ y.1 ∧ y.1 ≤ 5 ∧ p ≤ y.2.1 ∧ y.2.1 + y.1 ≤ p + 10 ∧ 0 ≤ y.2.2.n ∧ y.2.2.n + y.1 ≤ 5 }) (fun y => st_xa2 m b n y.1.1 y.1.2.1 y.1.2.2) (fun y => y.1.1.toNat) ⟨(x, q, zAgg), hx0, by simp only; omega, by simp only; omega, by simp only; omega, Int.le_refl _, by (show (0 : Int) + x ≤ 5); omega⟩ ?_ ?_
  · refine cov_of ?_ ?_ ?_
    · cbv; try (subst hA; repeat' first | apply And.intro | exact True.intro | rfl | fail)
    · cbv; try (subst hA; repeat' first | apply And.intro | exact True.intro | rfl | (intro _ _; rfl) | (intro k hk; exact absurd hk (Nat.not_lt_zero k)) | fail)
    · cbv; try (subst hA; repeat' first | apply And.intro | exact True.intro | rfl | exact .inr trivial | exact .inl trivial)
  rintro ⟨⟨k, q1, a⟩, hk0, hk1, hq0, hq1, ha0, ha1⟩
  have hk0 : 0 ≤ k := hk0
  have hk1 : k ≤ 5 := hk1
  have hq0 : p ≤ q1 := hq0
  have hq1 : q1 + k ≤ p + 10 := hq1
  have ha0 : 0 ≤ a.n := ha0
  have ha1 : a.n + k ≤ 5 := ha1
  have ha2 : a.n ≤ 10 := by omega
  cbv
  repeat' first
    | apply And.intro
    | exact True.intro
    | with_reducible rfl
    | exact same_of hA rfl
    | refine br_of hA (fun _ => ?_) (fun _ => ?_)
    | exact imp_of hA id
    | (refine imp_of hA ?_; subst hA; simp only [real, Bool.true_and]; exact id)
    | (refine ind_of hA ?_; decide +kernel)
    | (refine call_ex hA hM (x_pick m hm b hb _ (by omega) _ (by omega)) ?_; rintro ⟨x, q⟩ ⟨hx0, hx1, hq⟩; dsimp only at hx0 hx1 hq; cbv)
    | (refine call_ex hA hM (x2_add a _ ⟨ha0, by omega⟩) ?_; rintro c hc; cbv)
    | (refine inb_of hA (fun _ => ?_); (first | omega | (constructor <;> omega)))
    | (refine fin_of hA ⟨⟨⟨_, _, _, _⟩, _⟩, ?_, rfl, rfl⟩; exact ⟨by simp only; omega, by simp only; omega, by first | exact .inl ha2 | exact selN hA (by assumption) (by assumption)⟩)
  rename_i hgt
  have hgt : k > 0 := by subst hA; exact of_decide_eq_true hgt
  obtain ⟨k', hk'⟩ : ∃ z, z = k - 1 := ⟨_, rfl⟩
  refine ⟨⟨(k', q, c), show 0 ≤ k' by omega, show k' ≤ 5 by omega, show p ≤ q by omega, show q + k' ≤ p + 10 by omega, show 0 ≤ c.n by omega, show c.n + k' ≤ 5 by omega⟩, by simp only; omega, cov_of ?_ ?_ ?_⟩
  · cbv; subst hA
    have hw : IntKind.i64.wrap (k - 1) = k' := by rw [IntWalk.i64_in _ (by omega), hk']
    repeat' first | apply And.intro | exact True.intro | exact congrArg (fun x => DV.v (.int .i64 x)) hw | rfl
  · cbv; try (subst hA; repeat' first | apply And.intro | exact True.intro | rfl)
  · cbv; try (subst hA; repeat' first | apply And.intro | exact True.intro | rfl | exact .inr trivial | exact .inl trivial | exact .inr (Nat.le_refl _))
end Go.Rk
/- Draws: op. -/
namespace Go.Rk
set_option linter.unusedSimpArgs false
set_option linter.unusedVariables false
open Go.Proofs
set_option maxRecDepth 100000
set_option maxHeartbeats 1000000
theorem frz_mark2 {mk : Int} {k c : Nat} {G : Nat → RowT} {P : Nat → PaneT} : frzA (.tup [.agg [.d (eI mk), .own 13 k fun i => eRow (G i)], .c (.own 9 c fun i => ePane (P i))]) = .tup [.agg [.d (eI mk), .d (.sl 13 k fun i => eRow (G i))], .c (.d (.sl 9 c fun i => ePane (P i)))] := rfl
theorem x2_sMark (j : JobT) (s : OpStT) (hn : s.rows.n ≤ 400) (m : Int) : ∃ y : OpStT × Nat × (Nat → PaneT), (y.1.rows.n ≤ s.rows.n ∧ ∀ B, 0 ≤ B → Bd B (rowsL s) → Bd (B + 4) (rowsL y.1)) ∧ Meets Try.prog 23 [xd (eJob j), .agg [.d (eI s.mark), .d (.sl 13 s.rows.n fun i => eRow (s.rows.g i))], .c (.d (eI m))] ⟨.tup [.agg [.d (eI y.1.mark), .d (.sl 13 y.1.rows.n fun i => eRow (y.1.rows.g i))], .c (.d (.sl 9 y.2.1 fun i => ePane (y.2.2 i)))], [none, none, none]⟩ := by
  obtain ⟨x, hx⟩ : ∃ x, x = opMarkL j s m := ⟨_, rfl⟩
  have hl := opMarkL_len j s m
  rw [← hx] at hl
  obtain ⟨k, G, hG⟩ := lst_ex zRow x.2.1
  obtain ⟨c, P, hP⟩ := lst_ex zPan x.2.2
  have hk : k ≤ s.rows.n := by rw [hG.1]; exact hl.1
  have hI := meets_frz (c_sOpMark j s (by omega) m x hx k G hG c P hP) rfl
  exact ⟨(⟨x.1, ⟨k, G, Nat.le_trans hk s.rows.hn⟩⟩, c, P), ⟨hk, fun B hB h => bd_lst (by rw [hx]; exact bd_mark h hB) hG _⟩, hI⟩
theorem x2_sTake (j : JobT) (s : OpStT) (hn : s.rows.n ≤ 400) (m : ItmT) : ∃ y : OpStT × (Nat × (Nat → PaneT)) × Nat × (Nat → LatT), (y.1.rows.n ≤ s.rows.n + 20 ∧ ∀ B, 0 ≤ B ∧ B ≤ 880 → Bd B (rowsL s) → Bd (B + 4) (rowsL y.1)) ∧ Meets Try.prog 49 [xd (eJob j), .agg [.d (eI s.mark), .d (.sl 13 s.rows.n fun i => eRow (s.rows.g i))], xd (eItm m)] ⟨.tup [.agg [.d (eI y.1.mark), .d (.sl 13 y.1.rows.n fun i => eRow (y.1.rows.g i))], .c (.d (.sl 9 y.2.1.1 fun i => ePane (y.2.1.2 i))), .c (.d (.sl 7 y.2.2.1 fun i => eLat (y.2.2.2 i)))], [none, none, none]⟩ := by
  obtain ⟨x, hx⟩ : ∃ x, x = opTakeL j s m := ⟨_, rfl⟩
  have hl := opTakeL_rows j s m
  rw [← hx] at hl
  obtain ⟨k, G, hG⟩ := lst_ex zRow x.2.1
  obtain ⟨c, P, hP⟩ := lst_ex zPan x.2.2.1
  obtain ⟨d, Q, hQ⟩ := lst_ex zLat x.2.2.2
  have hk : k ≤ s.rows.n + 20 := by rw [hG.1]; exact hl
  exact ⟨(⟨x.1, ⟨k, G, Nat.le_trans (show k ≤ 420 by omega) (by decide)⟩⟩, (c, P), (d, Q)), ⟨hk, fun B hB h => bd_lst (by rw [hx]; exact bd_take h hB) hG _⟩, c_sOpTake j s (by omega) m x hx k G hG c P hP d Q hQ⟩
theorem bound_step2 {a b : Nat} {k k' : Int} (h : a ≤ b + 20) (h2 : (b : Int) + 20 * k ≤ 260) (h3 : k' = k - 1) : (a : Int) + 20 * k' ≤ 260 := by omega
theorem bound_end2 {a : Nat} {k : Int} (h : (a : Int) + 20 * k ≤ 260) (h2 : 0 ≤ k) : a ≤ 260 := by omega
def zOp2 : OpStT := ⟨0, ⟨0, fun _ => zRow, Nat.zero_le _⟩⟩
def st_x2op (m : Nat) (b : Nat → Int) (j : JobT) (k q mk : Int) (s : OpStT) : St := ⟨[(7, .c (.d (eI k))), (6, .c (.d (eI mk))), (5, .c (.bp 320 1 0)), (4, .c (.bp 256 1 0)), (3, .c (.bp 192 1 0)), (0, .c (.bp 0 1 0))], [(320, 1, .box [.d (eI s.mark), .d (.sl 13 s.rows.n fun i => eRow (s.rows.g i))]), (256, 1, .box [.d (eI 0), .d (.v nilS)]), (192, 1, .box ((eJob j).map .d)), (0, 1, .box [.d (.sl 1 m fun i => [eU (b i)]), .d (eI q)])]⟩
theorem x2_op (m : Nat) (hm : m ≤ 2000) (b : Nat → Int) (hb : ∀ i, 0 ≤ b i ∧ b i ≤ 255) (p : Int) (hp : 0 ≤ p ∧ p ≤ 60000) (j : JobT) : ∃ y : OpStT × Int, (p ≤ y.2 ∧ y.2 ≤ p + 200 ∧ y.1.rows.n ≤ 260 ∧ Bd 60 (rowsL y.1)) ∧ Meets Try.prog 116 [.c (.box [.d (.sl 1 m fun i => [eU (b i)]), .d (eI p)]), xd (eJob j)] ⟨.one (.agg [.d (eI y.1.mark), .d (.sl 13 y.1.rows.n fun i => eRow (y.1.rows.g i))]), [some (.box [.d (.sl 1 m fun i => [eU (b i)]), .d (eI y.2)]), none]⟩ := by
  obtain ⟨bj, _, cJ⟩ := c_sJobOkP j
  refine meets_ex (H := [14]) (EX := EXD) ttok mixed ([some (.box [.d (.sl 1 m fun i => [eU (b i)]), .d (eI 0)]), none]) Try.func116 rfl (by kernel_rfl) (by decide) (fun _ => rfl) ?_
  generalize hA : real = A
  generalize hM : MeetsB Try.prog = M
  cbv
  repeat' first
    | apply And.intro
    | exact True.intro
    | with_reducible rfl
    | exact same_of hA rfl
    | refine br_of hA (fun _ => ?_) (fun _ => ?_)
    | exact imp_of hA id
    | (refine imp_of hA ?_; subst hA; simp only [real, Bool.true_and]; exact id)
    | (refine ind_of hA ?_; decide +kernel)
    | (refine call_ex hA hM (x_pick m hm b hb _ (by omega) _ (by omega)) ?_; rintro ⟨x, q⟩ ⟨hx0, hx1, hq⟩; dsimp only at hx0 hx1 hq; cbv)
  refine loop_of hA (α := { y : Int × Int × Int × OpStT // 0 ≤ y.1 ∧ y.1 ≤ 13 ∧ p ≤ y.2.1 ∧ y.2.1 + 10 * y.1 ≤ p + 140 ∧ (y.2.2.2.rows.n : Int) + 20 * y.1 ≤ 260 ∧ Bd (60 - 4 * y.1) (rowsL y.2.2.2) }) (fun y => st_x2op m b j y.1.1 y.1.2.1 y.1.2.2.1 y.1.2.2.2) (fun y => y.1.1.toNat) ⟨(x, q, 0, zOp2), hx0, by simp only; omega, by simp only; omega, by simp only; omega, by (show ((0 : Nat) : Int) + 20 * x ≤ 260); omega, bd_nil (by simp only; omega)⟩ ?_ ?_
  · refine cov_nB 320 13 (fun i => eRow (zOp2.rows.g i)) [.d (eI 0)] [] rfl (cov_of ?_ ?_ ?_)
    · cbv; try (subst hA; repeat' first | apply And.intro | exact True.intro | rfl | fail)
    · cbv; try (subst hA; repeat' first | apply And.intro | exact True.intro | rfl | (intro _ _; rfl) | (intro k hk; exact absurd hk (Nat.not_lt_zero k)) | fail)
    · cbv; try (subst hA; repeat' first | apply And.intro | exact True.intro | rfl | exact .inr trivial | exact .inl trivial)
  rintro ⟨⟨k, q1, mk, s⟩, hk0, hk1, hq0, hq1, hs, hbd⟩
  have hk0 : 0 ≤ k := hk0
  have hk1 : k ≤ 13 := hk1
  have hq0 : p ≤ q1 := hq0
  have hq1 : q1 + 10 * k ≤ p + 140 := hq1
  have hs : (s.rows.n : Int) + 20 * k ≤ 260 := hs
  have hbd : Bd (60 - 4 * k) (rowsL s) := hbd
  have hs4 : s.rows.n ≤ 400 := by omega
  have hsI : (s.rows.n : Int) + 20 * k ≤ 260 := hs
  have hkk : ∀ {A : Ar}, real = A → A.bite (A.cmp .gtr k 0) bj false = true → 0 < k := fun hA h => by
    subst hA
    have h : (bif decide (k > 0) then bj else false) = true := h
    by_cases g : k > 0
    · exact g
    · rw [decide_eq_false g] at h; cases h
  cbv
  repeat' first
    | apply And.intro
    | exact True.intro
    | with_reducible rfl
    | exact same_of hA rfl
    | refine br_of hA (fun _ => ?_) (fun _ => ?_)
    | exact imp_of hA id
    | (refine imp_of hA ?_; subst hA; simp only [real, Bool.true_and]; exact id)
    | (refine ind_of hA ?_; decide +kernel)
    | (refine call_of hA hM _ cJ ?_; cbv)
    | (refine call_ex hA hM (c_l1In _ _ _) (fun _ _ => ?_); cbv)
    | (refine call_ex hA hM (x_pick m hm b hb _ (by omega) _ (by omega)) ?_; rintro ⟨x, q⟩ ⟨hx0, hx1, hq⟩; dsimp only at hx0 hx1 hq; cbv)
    | (refine call_ex hA hM (x_rec m hm b hb _ (by omega)) ?_; rintro ⟨it, q⟩ ⟨hr0, hr1⟩; dsimp only at hr0 hr1; cbv)
    | (refine call_ex hA hM (x2_sMark j s hs4 _) ?_; rintro ⟨s2, c, P⟩ ⟨hs2, hb2⟩; dsimp only at hs2 hb2; cbv)
    | (refine call_ex hA hM (x2_sTake j s hs4 ⟨_, _, _, _, _⟩) ?_; rintro ⟨s2, ⟨c, P⟩, d, Q⟩ ⟨hs2, hb2⟩; dsimp only at hs2 hb2; cbv)
  · obtain ⟨k', hk'⟩ : ∃ z, z = k - 1 := ⟨_, rfl⟩
    have hgt : 0 < k := hkk hA (by assumption)
    have hw : IntKind.i64.wrap (k - 1) = k' := by rw [IntWalk.i64_in _ (by omega), hk']
    refine ⟨⟨(k', q, real.ar .add .i64 mk x, s2), show 0 ≤ k' by omega, show k' ≤ 13 by omega, show p ≤ q by omega, show q + 10 * k' ≤ p + 140 by omega, (bound_step2 (Nat.le_trans hs2 (Nat.le_add_right s.rows.n 20)) hsI hk' : (s2.rows.n : Int) + 20 * k' ≤ 260), (bd_mono (hb2 (60 - 4 * k) (by omega) hbd) (by omega) : Bd (60 - 4 * k') (rowsL s2))⟩, by simp only; omega, cov_of ?_ ?_ ?_⟩
    · subst hA; repeat' first | exact True.intro | exact rfl | exact congrArg (fun x => DV.v (.int .i64 x)) hw | apply And.intro
    · subst hA; repeat' first | exact True.intro | exact rfl | apply And.intro | (intro _ _; first | rfl | trivial)
    · subst hA; repeat' first | exact True.intro | exact rfl | apply And.intro | exact .inl rfl | exact .inr (le_of_nble rfl)
  · obtain ⟨k', hk'⟩ : ∃ z, z = k - 1 := ⟨_, rfl⟩
    have hgt : 0 < k := hkk hA (by assumption)
    have hw : IntKind.i64.wrap (k - 1) = k' := by rw [IntWalk.i64_in _ (by omega), hk']
    refine ⟨⟨(k', q, mk, s2), show 0 ≤ k' by omega, show k' ≤ 13 by omega, show p ≤ q by omega, show q + 10 * k' ≤ p + 140 by omega, (bound_step2 hs2 hsI hk' : (s2.rows.n : Int) + 20 * k' ≤ 260), (bd_mono (hb2 (60 - 4 * k) (by omega) hbd) (by omega) : Bd (60 - 4 * k') (rowsL s2))⟩, by simp only; omega, cov_of ?_ ?_ ?_⟩
    · subst hA; repeat' first | exact True.intro | exact rfl | exact congrArg (fun x => DV.v (.int .i64 x)) hw | apply And.intro
    · subst hA; repeat' first | exact True.intro | exact rfl | apply And.intro | (intro _ _; first | rfl | trivial)
    · subst hA; repeat' first | exact True.intro | exact rfl | apply And.intro | exact .inl rfl | exact .inr (le_of_nble rfl)
  · obtain ⟨k', hk'⟩ : ∃ z, z = k - 1 := ⟨_, rfl⟩
    have hgt : 0 < k := hkk hA (by assumption)
    have hw : IntKind.i64.wrap (k - 1) = k' := by rw [IntWalk.i64_in _ (by omega), hk']
    refine ⟨⟨(k', q, mk, s), show 0 ≤ k' by omega, show k' ≤ 13 by omega, show p ≤ q by omega, show q + 10 * k' ≤ p + 140 by omega, (bound_step2 (Nat.le_add_right s.rows.n 20) hsI hk' : (s.rows.n : Int) + 20 * k' ≤ 260), (bd_mono (hbd) (by omega) : Bd (60 - 4 * k') (rowsL s))⟩, by simp only; omega, cov_of ?_ ?_ ?_⟩
    · subst hA; repeat' first | exact True.intro | exact rfl | exact congrArg (fun x => DV.v (.int .i64 x)) hw | apply And.intro
    · subst hA; repeat' first | exact True.intro | exact rfl | apply And.intro | (intro _ _; first | rfl | trivial)
    · subst hA; repeat' first | exact True.intro | exact rfl | apply And.intro | exact .inl rfl | exact .inr (le_of_nble rfl)
  · refine stop_of hA ⟨[(5, .c (.bp 320 1 0)), (4, .c (.bp 256 1 0)), (0, .c (.bp 0 1 0))], [(320, 1, .box [.d (eI s.mark), .d (.sl 13 s.rows.n fun i => eRow (s.rows.g i))]), (256, 1, .box [.d (eI 0), .d (.v nilS)]), (0, 1, .box [.d (.sl 1 m fun i => [eU (b i)]), .d (eI q1)])]⟩ (cov_of ?_ ?_ ?_) ?_
    · cbv; try (subst hA; repeat' first | apply And.intro | exact True.intro | rfl | fail)
    · cbv; try (subst hA; repeat' first | apply And.intro | exact True.intro | rfl | (intro _ _; rfl) | (intro k hk; exact absurd hk (Nat.not_lt_zero k)) | fail)
    · cbv; try (subst hA; repeat' first | apply And.intro | exact True.intro | rfl | exact .inr trivial | exact .inl trivial)
    cbv
    repeat' first
      | apply And.intro
      | exact True.intro
      | with_reducible rfl
      | exact same_of hA rfl
      | refine br_of hA (fun _ => ?_) (fun _ => ?_)
      | exact imp_of hA id
      | (refine imp_of hA ?_; subst hA; simp only [real, Bool.true_and]; exact id)
      | (refine ind_of hA ?_; decide +kernel)
      | (refine fin_of hA ⟨⟨s, _⟩, ?_, rfl, rfl⟩; exact ⟨hq0, by simp only; omega, bound_end2 hsI hk0, bd_mono hbd (by omega)⟩)
end Go.Rk
/- Draws: bad. -/
namespace Go.Rk
set_option linter.unusedSimpArgs false
set_option linter.unusedVariables false
open Go.Proofs
set_option maxRecDepth 100000
set_option maxHeartbeats 1000000
theorem x2_bad (m : Nat) (hm : m ≤ 2000) (b : Nat → Int) (hb : ∀ i, 0 ≤ b i ∧ b i ≤ 255) (p : Int) (hp : 0 ≤ p ∧ p ≤ 50000) (s : OpStT) (hs : s.rows.n ≤ 260) (hb0 : Bd 60 (rowsL s)) : ∃ y : OpStT × Int, (p ≤ y.2 ∧ y.2 ≤ p + 60 ∧ y.1.rows.n ≤ 261 ∧ ∀ j, OpOkP j y.1 → Bd 130 (rowsL y.1)) ∧ Meets Try.prog 118 [.c (.box [.d (.sl 1 m fun i => [eU (b i)]), .d (eI p)]), .agg [.d (eI s.mark), .d (.sl 13 s.rows.n fun i => eRow (s.rows.g i))]] ⟨.one (.agg [.d (eI y.1.mark), .own 13 y.1.rows.n fun i => eRow (y.1.rows.g i)]), [some (.box [.d (.sl 1 m fun i => [eU (b i)]), .d (eI y.2)]), none]⟩ := by
  obtain ⟨mk, n, g, hnL⟩ := s
  have hs : n ≤ 260 := hs
  have hb0 : Bd 60 ((List.range n).map g) := hb0
  have cC := c_sCopy mk n (by omega) g
  have hpos : ∀ {A : Ar} {v : Bool}, real = A → A.bite (A.cmp .eql (A.int n) 0) true v = false → (1 : Int) ≤ n ∧ (n : Int) ≤ 1000000 := fun {A v} hA h => by
    subst hA
    have h : (bif ((n : Int) == 0) then true else v) = false := h
    by_cases g : n = 0
    · subst g; cases h
    · omega
  refine meets_ex (H := [20]) (EX := EXD) ttok mixed ([some (.box [.d (.sl 1 m fun i => [eU (b i)]), .d (eI 0)]), none]) Try.func118 rfl (by kernel_rfl) (by decide) (fun _ => rfl) ?_
  generalize hA : real = A
  generalize hM : MeetsB Try.prog = M
  cbv
  repeat' first
    | apply And.intro
    | exact True.intro
    | with_reducible rfl
    | exact same_of hA rfl
    | refine br_of hA (fun _ => ?_) (fun _ => ?_)
    | exact imp_of hA id
    | (refine imp_of hA ?_; subst hA; simp only [real, Bool.true_and]; exact id)
    | (refine ind_of hA ?_; decide +kernel)
    | (refine call_of hA hM _ cC ?_; cbv)
    | (have hp9 := hpos hA (by assumption); refine call_ex2 hA hM (x_pick m hm b hb q (by omega) (n : Int) hp9) ?_ ?_; (focus (subst hA; rfl)); rintro ⟨ix, q⟩ ⟨hx0, hx1, hq⟩; dsimp only at hx0 hx1 hq; obtain ⟨i, rfl⟩ := Int.eq_ofNat_of_zero_le hx0; have hin : i < n := Int.ofNat_lt.1 hx1; cbv)
    | (have hp9 := hpos hA (by assumption); refine call_ex2 hA hM (x_pick m hm b hb p (by omega) (n : Int) hp9) ?_ ?_; (focus (subst hA; rfl)); rintro ⟨ix, q⟩ ⟨hx0, hx1, hq⟩; dsimp only at hx0 hx1 hq; obtain ⟨i, rfl⟩ := Int.eq_ofNat_of_zero_le hx0; have hin : i < n := Int.ofNat_lt.1 hx1; cbv)
    | (refine call_ex hA hM (x_pick m hm b hb _ (by omega) _ (by omega)) ?_; rintro ⟨x, q⟩ ⟨hx0, hx1, hq⟩; dsimp only at hx0 hx1 hq; cbv)
    | (refine call_ex hA hM (x2_agg m hm b hb _ (by omega) _ (by omega)) ?_; rintro ⟨ag, q⟩ ⟨hq0, hq1, hag⟩; dsimp only at hq0 hq1 hag; cbv)
    | (refine call_ex hA hM (x_win m hm b hb _ (by omega) _ (by omega)) ?_; rintro ⟨wi, q⟩ ⟨hq0, hq1⟩; dsimp only at hq0 hq1; cbv)
    | (refine inb_of hA (fun _ => ?_); first | exact ⟨Int.natCast_nonneg i, Int.ofNat_lt.2 hin⟩ | omega | (constructor <;> omega))
    | exact room_add2 hA (by omega) (by decide)
    | (refine fin_of hA ⟨⟨⟨_, ⟨n, g, hnL⟩⟩, _⟩, ?_, rfl, rfl⟩; exact ⟨by simp only; omega, by simp only; omega, show n ≤ 261 by omega, fun _ _ => bd_mono hb0 (by decide)⟩)
  · obtain ⟨R, hR⟩ : ∃ r : Nat → RowT, r = fun q => if q = i then { g i with key := real.sel [-1, 4] (real.add 0 (real.nat x)) } else g q := ⟨_, rfl⟩
    refine stop_of hA ⟨[(4, .c (.bp 256 1 0)), (3, .c (.bp 192 1 0)), (0, .c (.bp 0 1 0))], [(449, 1, .arr 13 n fun q => eRow (R q)), (256, 1, .box [.d (eI 0), .d (.v nilS)]), (192, 1, .box [.d (eI mk), .own 449 0 n 1]), (0, 1, .box [.d (.sl 1 m fun i => [eU (b i)]), .d (eI q)])]⟩ (cov_of ?_ ?_ ?_) ?_
    · subst hA; repeat' first | exact True.intro | exact rfl | apply And.intro
    · subst hA
      repeat' first | exact True.intro | exact rfl | apply And.intro | (intro _ _; first | rfl | trivial)
      all_goals
        intro q hq9
        subst hR
        by_cases e : q = i
        · subst e; simp [real]; try rfl
        · simp [real, e]
    · subst hA; repeat' first | exact True.intro | exact rfl | apply And.intro | exact .inl rfl | exact .inr (le_of_nble rfl)
    cbv
    repeat' first
      | apply And.intro
      | exact True.intro
      | with_reducible rfl
      | exact same_of hA rfl
      | refine br_of hA (fun _ => ?_) (fun _ => ?_)
      | exact imp_of hA id
      | (refine imp_of hA ?_; subst hA; simp only [real, Bool.true_and]; exact id)
      | (refine ind_of hA ?_; decide +kernel)
      | (refine fin_of hA ⟨⟨⟨_, ⟨n, R, hnL⟩⟩, _⟩, ?_, rfl, rfl⟩; exact ⟨by simp only; omega, by simp only; omega, show n ≤ 261 by omega, fun _ hok => bd_mono (bd_bad (r' := { g i with key := real.sel [-1, 4] (real.add 0 (real.nat x)) }) hnL hin (fun q _ => by subst hR; rfl) hb0 (by decide) hok (.inl rfl) (.inl rfl)) (by decide)⟩)
  · obtain ⟨R, hR⟩ : ∃ r : Nat → RowT, r = fun q => if q = i then { g i with win := wi } else g q := ⟨_, rfl⟩
    refine stop_of hA ⟨[(4, .c (.bp 256 1 0)), (3, .c (.bp 192 1 0)), (0, .c (.bp 0 1 0))], [(449, 1, .arr 13 n fun q => eRow (R q)), (256, 1, .box [.d (eI 0), .d (.v nilS)]), (192, 1, .box [.d (eI mk), .own 449 0 n 1]), (0, 1, .box [.d (.sl 1 m fun i => [eU (b i)]), .d (eI q)])]⟩ (cov_of ?_ ?_ ?_) ?_
    · subst hA; repeat' first | exact True.intro | exact rfl | apply And.intro
    · subst hA
      repeat' first | exact True.intro | exact rfl | apply And.intro | (intro _ _; first | rfl | trivial)
      all_goals
        intro q hq9
        subst hR
        by_cases e : q = i
        · subst e; simp [real]; try rfl
        · simp [real, e]
    · subst hA; repeat' first | exact True.intro | exact rfl | apply And.intro | exact .inl rfl | exact .inr (le_of_nble rfl)
    cbv
    repeat' first
      | apply And.intro
      | exact True.intro
      | with_reducible rfl
      | exact same_of hA rfl
      | refine br_of hA (fun _ => ?_) (fun _ => ?_)
      | exact imp_of hA id
      | (refine imp_of hA ?_; subst hA; simp only [real, Bool.true_and]; exact id)
      | (refine ind_of hA ?_; decide +kernel)
      | (refine fin_of hA ⟨⟨⟨_, ⟨n, R, hnL⟩⟩, _⟩, ?_, rfl, rfl⟩; exact ⟨by simp only; omega, by simp only; omega, show n ≤ 261 by omega, fun _ hok => bd_mono (bd_bad (r' := { g i with win := wi }) hnL hin (fun q _ => by subst hR; rfl) hb0 (by decide) hok (.inl rfl) (.inl rfl)) (by decide)⟩)
  · obtain ⟨R, hR⟩ : ∃ r : Nat → RowT, r = fun q => if q = i then { g i with all := ag } else g q := ⟨_, rfl⟩
    refine stop_of hA ⟨[(4, .c (.bp 256 1 0)), (3, .c (.bp 192 1 0)), (0, .c (.bp 0 1 0))], [(449, 1, .arr 13 n fun q => eRow (R q)), (256, 1, .box [.d (eI 0), .d (.v nilS)]), (192, 1, .box [.d (eI mk), .own 449 0 n 1]), (0, 1, .box [.d (.sl 1 m fun i => [eU (b i)]), .d (eI q)])]⟩ (cov_of ?_ ?_ ?_) ?_
    · subst hA; repeat' first | exact True.intro | exact rfl | apply And.intro
    · subst hA
      repeat' first | exact True.intro | exact rfl | apply And.intro | (intro _ _; first | rfl | trivial)
      all_goals
        intro q hq9
        subst hR
        by_cases e : q = i
        · subst e; simp [real]; try rfl
        · simp [real, e]
    · subst hA; repeat' first | exact True.intro | exact rfl | apply And.intro | exact .inl rfl | exact .inr (le_of_nble rfl)
    cbv
    repeat' first
      | apply And.intro
      | exact True.intro
      | with_reducible rfl
      | exact same_of hA rfl
      | refine br_of hA (fun _ => ?_) (fun _ => ?_)
      | exact imp_of hA id
      | (refine imp_of hA ?_; subst hA; simp only [real, Bool.true_and]; exact id)
      | (refine ind_of hA ?_; decide +kernel)
      | (refine fin_of hA ⟨⟨⟨_, ⟨n, R, hnL⟩⟩, _⟩, ?_, rfl, rfl⟩; exact ⟨by simp only; omega, by simp only; omega, show n ≤ 261 by omega, fun _ hok => bd_mono (bd_bad (r' := { g i with all := ag }) hnL hin (fun q _ => by subst hR; rfl) hb0 (by decide) hok (.inr hag) (.inl rfl)) (by decide)⟩)
  · obtain ⟨R, hR⟩ : ∃ r : Nat → RowT, r = fun q => if q = i then { g i with fresh := ag } else g q := ⟨_, rfl⟩
    refine stop_of hA ⟨[(4, .c (.bp 256 1 0)), (3, .c (.bp 192 1 0)), (0, .c (.bp 0 1 0))], [(449, 1, .arr 13 n fun q => eRow (R q)), (256, 1, .box [.d (eI 0), .d (.v nilS)]), (192, 1, .box [.d (eI mk), .own 449 0 n 1]), (0, 1, .box [.d (.sl 1 m fun i => [eU (b i)]), .d (eI q)])]⟩ (cov_of ?_ ?_ ?_) ?_
    · subst hA; repeat' first | exact True.intro | exact rfl | apply And.intro
    · subst hA
      repeat' first | exact True.intro | exact rfl | apply And.intro | (intro _ _; first | rfl | trivial)
      all_goals
        intro q hq9
        subst hR
        by_cases e : q = i
        · subst e; simp [real]; try rfl
        · simp [real, e]
    · subst hA; repeat' first | exact True.intro | exact rfl | apply And.intro | exact .inl rfl | exact .inr (le_of_nble rfl)
    cbv
    repeat' first
      | apply And.intro
      | exact True.intro
      | with_reducible rfl
      | exact same_of hA rfl
      | refine br_of hA (fun _ => ?_) (fun _ => ?_)
      | exact imp_of hA id
      | (refine imp_of hA ?_; subst hA; simp only [real, Bool.true_and]; exact id)
      | (refine ind_of hA ?_; decide +kernel)
      | (refine fin_of hA ⟨⟨⟨_, ⟨n, R, hnL⟩⟩, _⟩, ?_, rfl, rfl⟩; exact ⟨by simp only; omega, by simp only; omega, show n ≤ 261 by omega, fun _ hok => bd_mono (bd_bad (r' := { g i with fresh := ag }) hnL hin (fun q _ => by subst hR; rfl) hb0 (by decide) hok (.inl rfl) (.inl rfl)) (by decide)⟩)
  · obtain ⟨R, hR⟩ : ∃ r : Nat → RowT, r = fun q => if q = i then { g i with told := real.sel [-1, 0, 1, 1501] (real.add 0 (real.nat x)) } else g q := ⟨_, rfl⟩
    refine stop_of hA ⟨[(4, .c (.bp 256 1 0)), (3, .c (.bp 192 1 0)), (0, .c (.bp 0 1 0))], [(449, 1, .arr 13 n fun q => eRow (R q)), (256, 1, .box [.d (eI 0), .d (.v nilS)]), (192, 1, .box [.d (eI mk), .own 449 0 n 1]), (0, 1, .box [.d (.sl 1 m fun i => [eU (b i)]), .d (eI q)])]⟩ (cov_of ?_ ?_ ?_) ?_
    · subst hA; repeat' first | exact True.intro | exact rfl | apply And.intro
    · subst hA
      repeat' first | exact True.intro | exact rfl | apply And.intro | (intro _ _; first | rfl | trivial)
      all_goals
        intro q hq9
        subst hR
        by_cases e : q = i
        · subst e; simp [real]; try rfl
        · simp [real, e]
    · subst hA; repeat' first | exact True.intro | exact rfl | apply And.intro | exact .inl rfl | exact .inr (le_of_nble rfl)
    cbv
    repeat' first
      | apply And.intro
      | exact True.intro
      | with_reducible rfl
      | exact same_of hA rfl
      | refine br_of hA (fun _ => ?_) (fun _ => ?_)
      | exact imp_of hA id
      | (refine imp_of hA ?_; subst hA; simp only [real, Bool.true_and]; exact id)
      | (refine ind_of hA ?_; decide +kernel)
      | (refine fin_of hA ⟨⟨⟨_, ⟨n, R, hnL⟩⟩, _⟩, ?_, rfl, rfl⟩; exact ⟨by simp only; omega, by simp only; omega, show n ≤ 261 by omega, fun _ hok => bd_mono (bd_bad (r' := { g i with told := real.sel [-1, 0, 1, 1501] (real.add 0 (real.nat x)) }) hnL hin (fun q _ => by subst hR; rfl) hb0 (by decide) hok (.inl rfl) (.inr (selT rfl (by assumption) (by assumption)))) (by decide)⟩)
  · obtain ⟨R, hR⟩ : ∃ r : Nat → RowT, r = fun q => if q = i then { g i with timely := real.bnot (g i).timely } else g q := ⟨_, rfl⟩
    refine stop_of hA ⟨[(4, .c (.bp 256 1 0)), (3, .c (.bp 192 1 0)), (0, .c (.bp 0 1 0))], [(449, 1, .arr 13 n fun q => eRow (R q)), (256, 1, .box [.d (eI 0), .d (.v nilS)]), (192, 1, .box [.d (eI mk), .own 449 0 n 1]), (0, 1, .box [.d (.sl 1 m fun i => [eU (b i)]), .d (eI q)])]⟩ (cov_of ?_ ?_ ?_) ?_
    · subst hA; repeat' first | exact True.intro | exact rfl | apply And.intro
    · subst hA
      repeat' first | exact True.intro | exact rfl | apply And.intro | (intro _ _; first | rfl | trivial)
      all_goals
        intro q hq9
        subst hR
        by_cases e : q = i
        · subst e; simp [real]; try rfl
        · simp [real, e]
    · subst hA; repeat' first | exact True.intro | exact rfl | apply And.intro | exact .inl rfl | exact .inr (le_of_nble rfl)
    cbv
    repeat' first
      | apply And.intro
      | exact True.intro
      | with_reducible rfl
      | exact same_of hA rfl
      | refine br_of hA (fun _ => ?_) (fun _ => ?_)
      | exact imp_of hA id
      | (refine imp_of hA ?_; subst hA; simp only [real, Bool.true_and]; exact id)
      | (refine ind_of hA ?_; decide +kernel)
      | (refine fin_of hA ⟨⟨⟨_, ⟨n, R, hnL⟩⟩, _⟩, ?_, rfl, rfl⟩; exact ⟨by simp only; omega, by simp only; omega, show n ≤ 261 by omega, fun _ hok => bd_mono (bd_bad (r' := { g i with timely := real.bnot (g i).timely }) hnL hin (fun q _ => by subst hR; rfl) hb0 (by decide) hok (.inl rfl) (.inl rfl)) (by decide)⟩)
  · obtain ⟨R, hR⟩ : ∃ r : Nat → RowT, r = fun q => if q < n then g q else g i := ⟨_, rfl⟩
    refine stop_of hA ⟨[(4, .c (.bp 256 1 0)), (3, .c (.bp 192 1 0)), (0, .c (.bp 0 1 0))], [(449, 2, .arr 13 (n + 1) fun q => eRow (R q)), (256, 1, .box [.d (eI 0), .d (.v nilS)]), (192, 1, .box [.d (eI mk), .own 449 0 (n + 1) 2]), (0, 1, .box [.d (.sl 1 m fun i => [eU (b i)]), .d (eI q)])]⟩ (cov_of ?_ ?_ ?_) ?_
    · subst hA; repeat' first | exact True.intro | exact rfl | apply And.intro
    · subst hA
      repeat' first | exact True.intro | exact rfl | apply And.intro | (intro _ _; first | rfl | trivial)
      all_goals
        intro q hq9
        subst hR
        have e0 : real.add 0 (real.nat (Int.ofNat i)) = i := Nat.zero_add i
        refine (push_if eRow rfl n g (g (real.add 0 (real.nat (Int.ofNat i)))) _ q hq9).trans ?_
        rw [e0]
    · subst hA; repeat' first | exact True.intro | exact rfl | apply And.intro | exact .inl rfl | exact .inr (le_of_nble rfl)
    cbv
    repeat' first
      | apply And.intro
      | exact True.intro
      | with_reducible rfl
      | exact same_of hA rfl
      | refine br_of hA (fun _ => ?_) (fun _ => ?_)
      | exact imp_of hA id
      | (refine imp_of hA ?_; subst hA; simp only [real, Bool.true_and]; exact id)
      | (refine ind_of hA ?_; decide +kernel)
      | (refine fin_of hA ⟨⟨⟨_, ⟨n + 1, R, Nat.le_trans (show n + 1 ≤ 261 by omega) (by decide)⟩⟩, _⟩, ?_, rfl, rfl⟩; exact ⟨by simp only; omega, by simp only; omega, show n + 1 ≤ 261 by omega, fun _ hok => bd_mono (bd_app _ hin (fun q => by rw [hR]) hb0 (by decide) hok) (by decide)⟩)
  · obtain ⟨R, hR⟩ : ∃ r : Nat → RowT, r = fun q => if q = i then { g i with key := real.sel [-1, 4] (real.add 0 (real.nat x)) } else g q := ⟨_, rfl⟩
    refine stop_of hA ⟨[(4, .c (.bp 256 1 0)), (3, .c (.bp 192 1 0)), (0, .c (.bp 0 1 0))], [(449, 1, .arr 13 n fun q => eRow (R q)), (256, 1, .box [.d (eI 0), .d (.v nilS)]), (192, 1, .box [.d (eI mk), .own 449 0 n 1]), (0, 1, .box [.d (.sl 1 m fun i => [eU (b i)]), .d (eI q)])]⟩ (cov_of ?_ ?_ ?_) ?_
    · subst hA; repeat' first | exact True.intro | exact rfl | apply And.intro
    · subst hA
      repeat' first | exact True.intro | exact rfl | apply And.intro | (intro _ _; first | rfl | trivial)
      all_goals
        intro q hq9
        subst hR
        by_cases e : q = i
        · subst e; simp [real]; try rfl
        · simp [real, e]
    · subst hA; repeat' first | exact True.intro | exact rfl | apply And.intro | exact .inl rfl | exact .inr (le_of_nble rfl)
    cbv
    repeat' first
      | apply And.intro
      | exact True.intro
      | with_reducible rfl
      | exact same_of hA rfl
      | refine br_of hA (fun _ => ?_) (fun _ => ?_)
      | exact imp_of hA id
      | (refine imp_of hA ?_; subst hA; simp only [real, Bool.true_and]; exact id)
      | (refine ind_of hA ?_; decide +kernel)
      | (refine fin_of hA ⟨⟨⟨_, ⟨n, R, hnL⟩⟩, _⟩, ?_, rfl, rfl⟩; exact ⟨by simp only; omega, by simp only; omega, show n ≤ 261 by omega, fun _ hok => bd_mono (bd_bad (r' := { g i with key := real.sel [-1, 4] (real.add 0 (real.nat x)) }) hnL hin (fun q _ => by subst hR; rfl) hb0 (by decide) hok (.inl rfl) (.inl rfl)) (by decide)⟩)
  · obtain ⟨R, hR⟩ : ∃ r : Nat → RowT, r = fun q => if q = i then { g i with win := wi } else g q := ⟨_, rfl⟩
    refine stop_of hA ⟨[(4, .c (.bp 256 1 0)), (3, .c (.bp 192 1 0)), (0, .c (.bp 0 1 0))], [(449, 1, .arr 13 n fun q => eRow (R q)), (256, 1, .box [.d (eI 0), .d (.v nilS)]), (192, 1, .box [.d (eI mk), .own 449 0 n 1]), (0, 1, .box [.d (.sl 1 m fun i => [eU (b i)]), .d (eI q)])]⟩ (cov_of ?_ ?_ ?_) ?_
    · subst hA; repeat' first | exact True.intro | exact rfl | apply And.intro
    · subst hA
      repeat' first | exact True.intro | exact rfl | apply And.intro | (intro _ _; first | rfl | trivial)
      all_goals
        intro q hq9
        subst hR
        by_cases e : q = i
        · subst e; simp [real]; try rfl
        · simp [real, e]
    · subst hA; repeat' first | exact True.intro | exact rfl | apply And.intro | exact .inl rfl | exact .inr (le_of_nble rfl)
    cbv
    repeat' first
      | apply And.intro
      | exact True.intro
      | with_reducible rfl
      | exact same_of hA rfl
      | refine br_of hA (fun _ => ?_) (fun _ => ?_)
      | exact imp_of hA id
      | (refine imp_of hA ?_; subst hA; simp only [real, Bool.true_and]; exact id)
      | (refine ind_of hA ?_; decide +kernel)
      | (refine fin_of hA ⟨⟨⟨_, ⟨n, R, hnL⟩⟩, _⟩, ?_, rfl, rfl⟩; exact ⟨by simp only; omega, by simp only; omega, show n ≤ 261 by omega, fun _ hok => bd_mono (bd_bad (r' := { g i with win := wi }) hnL hin (fun q _ => by subst hR; rfl) hb0 (by decide) hok (.inl rfl) (.inl rfl)) (by decide)⟩)
  · obtain ⟨R, hR⟩ : ∃ r : Nat → RowT, r = fun q => if q = i then { g i with all := ag } else g q := ⟨_, rfl⟩
    refine stop_of hA ⟨[(4, .c (.bp 256 1 0)), (3, .c (.bp 192 1 0)), (0, .c (.bp 0 1 0))], [(449, 1, .arr 13 n fun q => eRow (R q)), (256, 1, .box [.d (eI 0), .d (.v nilS)]), (192, 1, .box [.d (eI mk), .own 449 0 n 1]), (0, 1, .box [.d (.sl 1 m fun i => [eU (b i)]), .d (eI q)])]⟩ (cov_of ?_ ?_ ?_) ?_
    · subst hA; repeat' first | exact True.intro | exact rfl | apply And.intro
    · subst hA
      repeat' first | exact True.intro | exact rfl | apply And.intro | (intro _ _; first | rfl | trivial)
      all_goals
        intro q hq9
        subst hR
        by_cases e : q = i
        · subst e; simp [real]; try rfl
        · simp [real, e]
    · subst hA; repeat' first | exact True.intro | exact rfl | apply And.intro | exact .inl rfl | exact .inr (le_of_nble rfl)
    cbv
    repeat' first
      | apply And.intro
      | exact True.intro
      | with_reducible rfl
      | exact same_of hA rfl
      | refine br_of hA (fun _ => ?_) (fun _ => ?_)
      | exact imp_of hA id
      | (refine imp_of hA ?_; subst hA; simp only [real, Bool.true_and]; exact id)
      | (refine ind_of hA ?_; decide +kernel)
      | (refine fin_of hA ⟨⟨⟨_, ⟨n, R, hnL⟩⟩, _⟩, ?_, rfl, rfl⟩; exact ⟨by simp only; omega, by simp only; omega, show n ≤ 261 by omega, fun _ hok => bd_mono (bd_bad (r' := { g i with all := ag }) hnL hin (fun q _ => by subst hR; rfl) hb0 (by decide) hok (.inr hag) (.inl rfl)) (by decide)⟩)
  · obtain ⟨R, hR⟩ : ∃ r : Nat → RowT, r = fun q => if q = i then { g i with fresh := ag } else g q := ⟨_, rfl⟩
    refine stop_of hA ⟨[(4, .c (.bp 256 1 0)), (3, .c (.bp 192 1 0)), (0, .c (.bp 0 1 0))], [(449, 1, .arr 13 n fun q => eRow (R q)), (256, 1, .box [.d (eI 0), .d (.v nilS)]), (192, 1, .box [.d (eI mk), .own 449 0 n 1]), (0, 1, .box [.d (.sl 1 m fun i => [eU (b i)]), .d (eI q)])]⟩ (cov_of ?_ ?_ ?_) ?_
    · subst hA; repeat' first | exact True.intro | exact rfl | apply And.intro
    · subst hA
      repeat' first | exact True.intro | exact rfl | apply And.intro | (intro _ _; first | rfl | trivial)
      all_goals
        intro q hq9
        subst hR
        by_cases e : q = i
        · subst e; simp [real]; try rfl
        · simp [real, e]
    · subst hA; repeat' first | exact True.intro | exact rfl | apply And.intro | exact .inl rfl | exact .inr (le_of_nble rfl)
    cbv
    repeat' first
      | apply And.intro
      | exact True.intro
      | with_reducible rfl
      | exact same_of hA rfl
      | refine br_of hA (fun _ => ?_) (fun _ => ?_)
      | exact imp_of hA id
      | (refine imp_of hA ?_; subst hA; simp only [real, Bool.true_and]; exact id)
      | (refine ind_of hA ?_; decide +kernel)
      | (refine fin_of hA ⟨⟨⟨_, ⟨n, R, hnL⟩⟩, _⟩, ?_, rfl, rfl⟩; exact ⟨by simp only; omega, by simp only; omega, show n ≤ 261 by omega, fun _ hok => bd_mono (bd_bad (r' := { g i with fresh := ag }) hnL hin (fun q _ => by subst hR; rfl) hb0 (by decide) hok (.inl rfl) (.inl rfl)) (by decide)⟩)
  · obtain ⟨R, hR⟩ : ∃ r : Nat → RowT, r = fun q => if q = i then { g i with told := real.sel [-1, 0, 1, 1501] (real.add 0 (real.nat x)) } else g q := ⟨_, rfl⟩
    refine stop_of hA ⟨[(4, .c (.bp 256 1 0)), (3, .c (.bp 192 1 0)), (0, .c (.bp 0 1 0))], [(449, 1, .arr 13 n fun q => eRow (R q)), (256, 1, .box [.d (eI 0), .d (.v nilS)]), (192, 1, .box [.d (eI mk), .own 449 0 n 1]), (0, 1, .box [.d (.sl 1 m fun i => [eU (b i)]), .d (eI q)])]⟩ (cov_of ?_ ?_ ?_) ?_
    · subst hA; repeat' first | exact True.intro | exact rfl | apply And.intro
    · subst hA
      repeat' first | exact True.intro | exact rfl | apply And.intro | (intro _ _; first | rfl | trivial)
      all_goals
        intro q hq9
        subst hR
        by_cases e : q = i
        · subst e; simp [real]; try rfl
        · simp [real, e]
    · subst hA; repeat' first | exact True.intro | exact rfl | apply And.intro | exact .inl rfl | exact .inr (le_of_nble rfl)
    cbv
    repeat' first
      | apply And.intro
      | exact True.intro
      | with_reducible rfl
      | exact same_of hA rfl
      | refine br_of hA (fun _ => ?_) (fun _ => ?_)
      | exact imp_of hA id
      | (refine imp_of hA ?_; subst hA; simp only [real, Bool.true_and]; exact id)
      | (refine ind_of hA ?_; decide +kernel)
      | (refine fin_of hA ⟨⟨⟨_, ⟨n, R, hnL⟩⟩, _⟩, ?_, rfl, rfl⟩; exact ⟨by simp only; omega, by simp only; omega, show n ≤ 261 by omega, fun _ hok => bd_mono (bd_bad (r' := { g i with told := real.sel [-1, 0, 1, 1501] (real.add 0 (real.nat x)) }) hnL hin (fun q _ => by subst hR; rfl) hb0 (by decide) hok (.inl rfl) (.inr (selT rfl (by assumption) (by assumption)))) (by decide)⟩)
  · obtain ⟨R, hR⟩ : ∃ r : Nat → RowT, r = fun q => if q = i then { g i with timely := real.bnot (g i).timely } else g q := ⟨_, rfl⟩
    refine stop_of hA ⟨[(4, .c (.bp 256 1 0)), (3, .c (.bp 192 1 0)), (0, .c (.bp 0 1 0))], [(449, 1, .arr 13 n fun q => eRow (R q)), (256, 1, .box [.d (eI 0), .d (.v nilS)]), (192, 1, .box [.d (eI mk), .own 449 0 n 1]), (0, 1, .box [.d (.sl 1 m fun i => [eU (b i)]), .d (eI q)])]⟩ (cov_of ?_ ?_ ?_) ?_
    · subst hA; repeat' first | exact True.intro | exact rfl | apply And.intro
    · subst hA
      repeat' first | exact True.intro | exact rfl | apply And.intro | (intro _ _; first | rfl | trivial)
      all_goals
        intro q hq9
        subst hR
        by_cases e : q = i
        · subst e; simp [real]; try rfl
        · simp [real, e]
    · subst hA; repeat' first | exact True.intro | exact rfl | apply And.intro | exact .inl rfl | exact .inr (le_of_nble rfl)
    cbv
    repeat' first
      | apply And.intro
      | exact True.intro
      | with_reducible rfl
      | exact same_of hA rfl
      | refine br_of hA (fun _ => ?_) (fun _ => ?_)
      | exact imp_of hA id
      | (refine imp_of hA ?_; subst hA; simp only [real, Bool.true_and]; exact id)
      | (refine ind_of hA ?_; decide +kernel)
      | (refine fin_of hA ⟨⟨⟨_, ⟨n, R, hnL⟩⟩, _⟩, ?_, rfl, rfl⟩; exact ⟨by simp only; omega, by simp only; omega, show n ≤ 261 by omega, fun _ hok => bd_mono (bd_bad (r' := { g i with timely := real.bnot (g i).timely }) hnL hin (fun q _ => by subst hR; rfl) hb0 (by decide) hok (.inl rfl) (.inl rfl)) (by decide)⟩)
  · obtain ⟨R, hR⟩ : ∃ r : Nat → RowT, r = fun q => if q < n then g q else g i := ⟨_, rfl⟩
    refine stop_of hA ⟨[(4, .c (.bp 256 1 0)), (3, .c (.bp 192 1 0)), (0, .c (.bp 0 1 0))], [(449, 2, .arr 13 (n + 1) fun q => eRow (R q)), (256, 1, .box [.d (eI 0), .d (.v nilS)]), (192, 1, .box [.d (eI mk), .own 449 0 (n + 1) 2]), (0, 1, .box [.d (.sl 1 m fun i => [eU (b i)]), .d (eI q)])]⟩ (cov_of ?_ ?_ ?_) ?_
    · subst hA; repeat' first | exact True.intro | exact rfl | apply And.intro
    · subst hA
      repeat' first | exact True.intro | exact rfl | apply And.intro | (intro _ _; first | rfl | trivial)
      all_goals
        intro q hq9
        subst hR
        have e0 : real.add 0 (real.nat (Int.ofNat i)) = i := Nat.zero_add i
        refine (push_if eRow rfl n g (g (real.add 0 (real.nat (Int.ofNat i)))) _ q hq9).trans ?_
        rw [e0]
    · subst hA; repeat' first | exact True.intro | exact rfl | apply And.intro | exact .inl rfl | exact .inr (le_of_nble rfl)
    cbv
    repeat' first
      | apply And.intro
      | exact True.intro
      | with_reducible rfl
      | exact same_of hA rfl
      | refine br_of hA (fun _ => ?_) (fun _ => ?_)
      | exact imp_of hA id
      | (refine imp_of hA ?_; subst hA; simp only [real, Bool.true_and]; exact id)
      | (refine ind_of hA ?_; decide +kernel)
      | (refine fin_of hA ⟨⟨⟨_, ⟨n + 1, R, Nat.le_trans (show n + 1 ≤ 261 by omega) (by decide)⟩⟩, _⟩, ?_, rfl, rfl⟩; exact ⟨by simp only; omega, by simp only; omega, show n + 1 ≤ 261 by omega, fun _ hok => bd_mono (bd_app _ hin (fun q => by rw [hR]) hb0 (by decide) hok) (by decide)⟩)
end Go.Rk
/- Draws: any. -/
namespace Go.Rk
set_option linter.unusedSimpArgs false
set_option linter.unusedVariables false
open Go.Proofs
set_option maxRecDepth 100000
set_option maxHeartbeats 1000000
theorem x2_badD (m : Nat) (hm : m ≤ 2000) (b : Nat → Int) (hb : ∀ i, 0 ≤ b i ∧ b i ≤ 255) (p : Int) (hp : 0 ≤ p ∧ p ≤ 50000) (s : OpStT) (hs : s.rows.n ≤ 260) (hb0 : Bd 60 (rowsL s)) : ∃ y : OpStT × Int, (p ≤ y.2 ∧ y.2 ≤ p + 60 ∧ y.1.rows.n ≤ 261 ∧ ∀ j, OpOkP j y.1 → Bd 130 (rowsL y.1)) ∧ Meets Try.prog 118 [.c (.box [.d (.sl 1 m fun i => [eU (b i)]), .d (eI p)]), .agg [.d (eI s.mark), .d (.sl 13 s.rows.n fun i => eRow (s.rows.g i))]] ⟨.one (.agg [.d (eI y.1.mark), .d (.sl 13 y.1.rows.n fun i => eRow (y.1.rows.g i))]), [some (.box [.d (.sl 1 m fun i => [eU (b i)]), .d (eI y.2)]), none]⟩ := by
  obtain ⟨y, hy, h⟩ := x2_bad m hm b hb p hp s hs hb0
  exact ⟨y, hy, meets_frz h rfl⟩
theorem x2_any (m : Nat) (hm : m ≤ 2000) (b : Nat → Int) (hb : ∀ i, 0 ≤ b i ∧ b i ≤ 255) (p : Int) (hp : 0 ≤ p ∧ p ≤ 30000) (n : Int) (hn : 1 ≤ n ∧ n ≤ 100) : ∃ y : (JobT × OpStT) × Int, (p ≤ y.2 ∧ y.2 ≤ p + 400 ∧ y.1.2.rows.n ≤ 261 ∧ (OpOkP y.1.1 y.1.2 → Bd 130 (rowsL y.1.2))) ∧ Meets Try.prog 62 [.c (.box [.d (.sl 1 m fun i => [eU (b i)]), .d (eI p)]), .c (.d (eI n))] ⟨.tup [xd (eJob y.1.1), .agg [.d (eI y.1.2.mark), .d (.sl 13 y.1.2.rows.n fun i => eRow (y.1.2.rows.g i))]], [some (.box [.d (.sl 1 m fun i => [eU (b i)]), .d (eI y.2)]), none]⟩ := by
  refine meets_ex (H := []) (EX := EXD) ttok mixed ([some (.box [.d (.sl 1 m fun i => [eU (b i)]), .d (eI 0)]), none]) Try.func62 rfl (by kernel_rfl) (by decide) (fun _ => rfl) ?_
  generalize hA : real = A
  generalize hM : MeetsB Try.prog = M
  cbv
  repeat' first
    | apply And.intro
    | exact True.intro
    | with_reducible rfl
    | exact same_of hA rfl
    | refine br_of hA (fun _ => ?_) (fun _ => ?_)
    | exact imp_of hA id
    | (refine imp_of hA ?_; subst hA; simp only [real, Bool.true_and]; exact id)
    | (refine ind_of hA ?_; decide +kernel)
    | (refine call_ex hA hM (x_job m hm b hb _ (by omega)) ?_; rintro ⟨j, q⟩ ⟨hq0, hq1⟩; dsimp only at hq0 hq1; cbv)
    | (refine call_ex hA hM (x2_op m hm b hb _ (by omega) ⟨_, _, _, _, _, _, _, _, _, _⟩) ?_; rintro ⟨s, q⟩ ⟨hq0, hq1, hs, hb0⟩; dsimp only at hq0 hq1 hs hb0; cbv)
    | (refine call_ex hA hM (x_pick m hm b hb _ (by omega) _ (by omega)) ?_; rintro ⟨x, q⟩ ⟨hx0, hx1, hq⟩; dsimp only at hx0 hx1 hq; cbv)
    | (refine call_ex hA hM (x_anyJob m hm b hb _ (by omega) _ (by omega)) ?_; rintro ⟨j, q⟩ ⟨hq0, hq1⟩; dsimp only at hq0 hq1; cbv)
    | (refine call_ex hA hM (x2_badD m hm b hb _ (by omega) s hs hb0) ?_; rintro ⟨s2, q⟩ ⟨hq0, hq1, hs2, hb2⟩; dsimp only at hq0 hq1 hs2 hb2; cbv)
    | (refine inb_of hA (fun _ => ?_); (first | omega | (constructor <;> omega)))
    | (refine fin_of hA ⟨⟨⟨⟨_, _, _, _, _, _, _, _, _, _⟩, s2⟩, _⟩, ?_, rfl, rfl⟩; exact ⟨by simp only; omega, by simp only; omega, hs2, fun h => hb2 _ h⟩)
    | (refine fin_of hA ⟨⟨⟨⟨_, _, _, _, _, _, _, _, _, _⟩, s⟩, _⟩, ?_, rfl, rfl⟩; exact ⟨by simp only; omega, by simp only; omega, Nat.le_succ_of_le hs, fun _ => bd_mono hb0 (by decide)⟩)
theorem x2_drawTake (M0 : Nat) (b : Nat → Int) (hb : ∀ i, 0 ≤ b i ∧ b i ≤ 255) : ∃ y : JobT × OpStT × ItmT, (y.2.1.rows.n ≤ 261 ∧ (OpOkP y.1 y.2.1 → Bd 130 (rowsL y.2.1))) ∧ Meets Try.prog 47 [.c (.d (.sl 1 M0 fun i => [eU (b i)]))] ⟨.tup [xd (eJob y.1), .agg [.d (eI y.2.1.mark), .d (.sl 13 y.2.1.rows.n fun i => eRow (y.2.1.rows.g i))], xd (eItm y.2.2)], [none]⟩ := by
  obtain ⟨m, hmm⟩ : ∃ m : Nat, m = if 2000 < M0 then 2000 else M0 := ⟨_, rfl⟩
  have hm : m ≤ 2000 := by rw [hmm]; split <;> omega
  have ho := m_open M0 b m hmm
  refine meets_ex (H := []) (EX := EXD) ttok mixed ([none]) Try.func47 rfl (by kernel_rfl) (by decide) (fun _ => rfl) ?_
  generalize hA : real = A
  generalize hM : MeetsB Try.prog = M
  cbv
  repeat' first
    | apply And.intro
    | exact True.intro
    | with_reducible rfl
    | exact same_of hA rfl
    | refine br_of hA (fun _ => ?_) (fun _ => ?_)
    | exact imp_of hA id
    | (refine imp_of hA ?_; subst hA; simp only [real, Bool.true_and]; exact id)
    | (refine ind_of hA ?_; decide +kernel)
    | (refine call_of hA hM _ ho ?_; cbv)
    | (refine call_ex hA hM (c_l1In _ _ _) (fun _ _ => ?_); cbv)
    | (refine call_ex hA hM (x2_any m hm b hb _ (by omega) _ (by omega)) ?_; rintro ⟨⟨j, s⟩, q⟩ ⟨hq0, hq1, hs, hb0⟩; dsimp only at hq0 hq1 hs hb0; cbv)
    | (refine call_ex hA hM (x_rec m hm b hb _ (by omega)) ?_; rintro ⟨it, q⟩ ⟨hq0, hq1⟩; dsimp only at hq0 hq1; cbv)
    | (refine call_ex hA hM (x_item m hm b hb _ (by omega) _ (by omega)) ?_; rintro ⟨it, q⟩ ⟨hq0, hq1⟩; dsimp only at hq0 hq1; cbv)
    | (refine call_ex hA hM (x_pick m hm b hb _ (by omega) _ (by omega)) ?_; rintro ⟨x, q⟩ ⟨hx0, hx1, hq⟩; dsimp only at hx0 hx1 hq; cbv)
    | (refine inb_of hA (fun _ => ?_); (first | omega | (constructor <;> omega)))
    | (refine fin_of hA ⟨⟨j, s, ⟨_, _, _, _, _⟩⟩, ?_, rfl, rfl⟩; exact ⟨hs, hb0⟩)
theorem x2_drawMark (M0 : Nat) (b : Nat → Int) (hb : ∀ i, 0 ≤ b i ∧ b i ≤ 255) : ∃ y : JobT × OpStT × Int, (y.2.1.rows.n ≤ 261 ∧ (OpOkP y.1 y.2.1 → Bd 130 (rowsL y.2.1))) ∧ Meets Try.prog 21 [.c (.d (.sl 1 M0 fun i => [eU (b i)]))] ⟨.tup [xd (eJob y.1), .agg [.d (eI y.2.1.mark), .d (.sl 13 y.2.1.rows.n fun i => eRow (y.2.1.rows.g i))], .c (.d (eI y.2.2))], [none]⟩ := by
  obtain ⟨m, hmm⟩ : ∃ m : Nat, m = if 2000 < M0 then 2000 else M0 := ⟨_, rfl⟩
  have hm : m ≤ 2000 := by rw [hmm]; split <;> omega
  have ho := m_open M0 b m hmm
  refine meets_ex (H := []) (EX := EXD) ttok mixed ([none]) Try.func21 rfl (by kernel_rfl) (by decide) (fun _ => rfl) ?_
  generalize hA : real = A
  generalize hM : MeetsB Try.prog = M
  cbv
  repeat' first
    | apply And.intro
    | exact True.intro
    | with_reducible rfl
    | exact same_of hA rfl
    | refine br_of hA (fun _ => ?_) (fun _ => ?_)
    | exact imp_of hA id
    | (refine imp_of hA ?_; subst hA; simp only [real, Bool.true_and]; exact id)
    | (refine ind_of hA ?_; decide +kernel)
    | (refine call_of hA hM _ ho ?_; cbv)
    | (refine call_ex hA hM (c_l1In _ _ _) (fun _ _ => ?_); cbv)
    | (refine call_ex hA hM (x2_any m hm b hb _ (by omega) _ (by omega)) ?_; rintro ⟨⟨j, s⟩, q⟩ ⟨hq0, hq1, hs, hb0⟩; dsimp only at hq0 hq1 hs hb0; cbv)
    | (refine call_ex hA hM (x_rec m hm b hb _ (by omega)) ?_; rintro ⟨it, q⟩ ⟨hq0, hq1⟩; dsimp only at hq0 hq1; cbv)
    | (refine call_ex hA hM (x_item m hm b hb _ (by omega) _ (by omega)) ?_; rintro ⟨it, q⟩ ⟨hq0, hq1⟩; dsimp only at hq0 hq1; cbv)
    | (refine call_ex hA hM (x_pick m hm b hb _ (by omega) _ (by omega)) ?_; rintro ⟨x, q⟩ ⟨hx0, hx1, hq⟩; dsimp only at hx0 hx1 hq; cbv)
    | (refine inb_of hA (fun _ => ?_); (first | omega | (constructor <;> omega)))
    | (refine fin_of hA ⟨⟨j, s, _⟩, ?_, rfl, rfl⟩; exact ⟨hs, hb0⟩)
end Go.Rk
/- What is found of an operator. -/
namespace Go.Rk
set_option linter.unusedSimpArgs false
set_option linter.unusedVariables false
open Go.Proofs
set_option maxRecDepth 100000
set_option maxHeartbeats 1000000
theorem c_OpFindR (mk : Int) (l : List RowT) (n : Nat) (g : Nat → RowT) (hl : Lst zRow l n g) (hn : n ≤ 1080000) (k : Int) (w : WinT) (r : RowT) (hr : r = (rFind k w l).getD zRow) (b : Bool) (hb : b = (rFind k w l).isSome) : Meets Try.prog 27 [.agg [.d (eI mk), .d (.sl 13 n fun i => eRow (g i))], .c (.d (eI k)), xd (eWin w)] ⟨.tup [xd (eRow r), .c (.d (eB b))], [none, none, none]⟩ := by
  obtain ⟨x, hx, cF⟩ := c_find mk n hn g k w
  cases hx with
  | «at» i hi hp hb' =>
    have e := rfind_some hl hi hp hb'
    rw [e] at hr hb
    have hr : r = g i := hr
    have hb : b = true := hb
    subst hr hb
    refine meets_of (H := []) (EX := EXA) ttok mixed Try.func27 rfl (by kernel_rfl) (by decide) ?_
    generalize hA : real = A
    generalize hM : MeetsB Try.prog = M
    cbv
    repeat' first
      | apply And.intro
      | exact True.intro
      | with_reducible rfl
      | exact same_of hA rfl
      | refine br_of hA (fun _ => ?_) (fun _ => ?_)
      | exact imp_of hA id
      | (refine imp_of hA ?_; subst hA; simp only [real, Bool.true_and]; exact id)
      | (refine ind_of hA ?_; decide +kernel)
      | (refine call_of hA hM _ cF ?_; cbv)
      | (exfalso; rename_i h; subst hA; have h9 : decide ((i : Int) < 0) = true := h; rw [decide_eq_true_eq] at h9; exact absurd h9 (by omega))
      | (refine inb_of hA (fun _ => ?_); exact ⟨Int.natCast_nonneg i, Int.ofNat_lt.2 hi⟩)
    all_goals
      subst hA
      have e0 : real.add 0 (real.nat (Int.ofNat i)) = i := Nat.zero_add i
      first
        | rfl
        | (rw [e0]; rfl)
  | none hb' =>
    have e := rfind_none hl hb'
    rw [e] at hr hb
    have hr : r = zRow := hr
    have hb : b = false := hb
    subst hr hb
    refine meets_of (H := []) (EX := EXA) ttok mixed Try.func27 rfl (by kernel_rfl) (by decide) ?_
    generalize hA : real = A
    generalize hM : MeetsB Try.prog = M
    cbv
    repeat' first
      | apply And.intro
      | exact True.intro
      | with_reducible rfl
      | exact same_of hA rfl
      | refine br_of hA (fun _ => ?_) (fun _ => ?_)
      | exact imp_of hA id
      | (refine imp_of hA ?_; subst hA; simp only [real, Bool.true_and]; exact id)
      | (refine ind_of hA ?_; decide +kernel)
      | (refine call_of hA hM _ cF ?_; cbv)
      | (exfalso; rename_i h; subst hA; have h9 : decide ((-1 : Int) < 0) = false := h; exact absurd h9 (by decide))
    all_goals
      subst hA
      rfl
end Go.Rk
/- slices.Insert of one element: what it answers. -/
namespace Go.Rk.TabI
set_option linter.unusedSimpArgs false
set_option linter.unusedVariables false
open Go Go.Proofs Go.RowKit Go.Lib
set_option maxHeartbeats 4000000 in
set_option maxRecDepth 100000 in
theorem ins_shift (b off n c i vb voff vc : Nat) (cs vs : List Value) (w : World) (hi : i < n) (hroom : n + 1 ≤ c) (hn63 : n ≤ 1100000) (hvb : vb ≠ b)
    (hcl : cs.length = n * 7) (hvl : vs.length = 7)
    (hcs : ∀ j v, cs[j]? = some v → w.cell? ⟨b, off + j, none⟩ = some v) (hsp : ∀ j, j < (n + 1) * 7 → (w.cell? ⟨b, off + j, none⟩).isSome = true) (hfz : ∀ j, j < (n + 1) * 7 → w.frozen? ⟨b, off + j, none⟩ = false)
    (hvs : ∀ j v, vs[j]? = some v → w.cell? ⟨vb, voff + j, none⟩ = some v) (h1c : ∀ v ∈ cs, v.oneCell' = true) (h1v : ∀ v ∈ vs, v.oneCell' = true)
    (tA tB : TypeId) (kA kB : Nat) (hsa : w.shape? vb = some (tA, kA)) (hsb : w.shape? b = some (tB, kB)) (hkB : kB ≠ 0) (hfa : w.frozen? ⟨vb, voff, none⟩ = false) (hfe : w.frozen? ⟨vb, kA, none⟩ = false) :
    Calls Try.prog 115 #[.slice (some ⟨b, off, none⟩) n c, .int .i64 i, .slice (some ⟨vb, voff, none⟩) 1 vc] w fun e w' =>
      e = .returned (.slice (some ⟨b, off, none⟩) (n + 1) c) ∧ w' = (w.drew.setCells b (off + (i + 1) * 7) (cs.drop (i * 7))).setCells b (off + i * 7) vs := by
  have hz2 : ¬ ((i : Int) = (n : Int)) := by omega
  have hsz : (Try.prog.info? 69).map (·.size) = some 7 := by kernel_rfl
  have hov : ∀ lb cb, (callFunc 145 #[.slice (some ⟨vb, voff, none⟩) 1 vc, .slice (some ⟨b, off + (i + 1) * 7, none⟩) lb cb]).run Try.prog w = .ok (.value (.bool false)) w := fun lb cb => by
    rw [run_callFunc_extern Try.func145 (by kernel_rfl) (by kernel_rfl) (by kernel_rfl) (e := Extern.SlicesOverlaps.overlaps #[37, 37] #[4]) (by kernel_rfl),
      Lib.run_overlaps_apart w 37 4 69 Try.underlying37 7 Try.sizeOf69 ⟨vb, voff, none⟩ ⟨b, off + (i + 1) * 7, none⟩ 1 vc lb cb hvb tA tB kA kB hsa hsb hkB hfa hfe]
    rfl
  have hdl : (cs.drop (i * 7)).length = (n - i) * 7 := by rw [List.length_drop, hcl, Nat.sub_mul]
  have hw1 : IntKind.i64.wrap ((i : Int) + 1) = (i : Int) + 1 := by rw [IntKind.wrap_i64]; omega
  have hw2 : IntKind.i64.wrap ((n : Int) + 1) = (n : Int) + 1 := by rw [IntKind.wrap_i64]; omega
  have hb1 : (0 : Int) ≤ (i : Int) + 1 := by omega
  have hin : i ≤ n := by omega
  have htn : ((i : Int) + 1).toNat = i + 1 := by omega
  have htm : ((n : Int) + 1).toNat = n + 1 := by omega
  have hb2 : ¬ (c = i + 1) := by omega
  have hb3 : (i : Int) ≤ (n : Int) + 1 := by omega
  have hb4 : ¬ (c = i) := by omega
  have hcp1 : ∀ ty dc sc, (Builtin.copy_ #[37, 37] ty #[.slice (some ⟨b, off + (i + 1) * 7, none⟩) (n - i) dc, .slice (some ⟨b, off + i * 7, none⟩) (n + 1 - i) sc]).run Try.prog w.drew = .ok (goInt ((n - i : Nat) : Int)) (w.drew.setCells b (off + (i + 1) * 7) (cs.drop (i * 7))) := fun ty dc sc =>
    run_copy_k w.drew _ _ ty 69 7 b (off + (i + 1) * 7) (n - i) dc ⟨b, off + i * 7, none⟩ (n + 1 - i) sc (cs.drop (i * 7)) Try.underlying37 hsz (n - i) (by simp only [Nat.min_def]; split <;> omega) hdl
      (fun j v hj => by rw [Addr.add_lit, Nat.add_assoc]; exact hcs (i * 7 + j) v (by rwa [List.getElem?_drop] at hj))
      (fun j hj => by rw [Nat.add_assoc]; exact hsp _ (by rw [hdl] at hj; omega)) (fun j hj => by rw [Nat.add_assoc]; exact hfz _ (by rw [hdl] at hj; omega)) (fun v hv => h1c v (List.mem_of_mem_drop hv))
  obtain ⟨W1, hW1⟩ : ∃ W1, W1 = w.drew.setCells b (off + (i + 1) * 7) (cs.drop (i * 7)) := ⟨_, rfl⟩
  have hsp1 : ∀ k, k < (n + 1) * 7 → (W1.cell? ⟨b, off + k, none⟩).isSome = true := fun k hk => by
    rw [hW1]
    exact isSome_setCells b _ _ _ (fun j hj => by rw [Nat.add_assoc]; exact hsp _ (by rw [hdl] at hj; omega)) _ (hsp k hk)
  have hcp2 : ∀ (W : World), (∀ x, W.cell? x = W1.cell? x) → (∀ x, W.frozen? x = W1.frozen? x) → ∀ ty dc, (Builtin.copy_ #[37, 37] ty #[.slice (some ⟨b, off + i * 7, none⟩) (n + 1 - i) dc, .slice (some ⟨vb, voff, none⟩) 1 vc]).run Try.prog W = .ok (goInt 1) (W.setCells b (off + i * 7) vs) := fun W hWc hWf ty dc =>
    run_copy_k W _ _ ty 69 7 b (off + i * 7) (n + 1 - i) dc ⟨vb, voff, none⟩ 1 vc vs Try.underlying37 hsz 1 (by simp only [Nat.min_def]; split <;> omega) (by rw [hvl])
      (fun j v hj => by
        rw [Addr.add_lit, hWc, hW1, World.cell?_setCells_out b _ _ _ _ (fun h _ => absurd h hvb)]
        exact hvs j v hj)
      (fun j hj => by rw [hWc, Nat.add_assoc]; exact hsp1 _ (by rw [hvl] at hj; omega)) (fun j hj => by rw [hWf, hW1, World.frozen?_setCells, Nat.add_assoc]; exact hfz _ (by rw [hvl] at hj; omega)) h1v
  rw [← hW1] at hcp1
  have mixed := mixed
  go_enter Try.func115, Try.ntmps115
  go_wp2_with (simp only [hov])
  go_region_law_o (refine step_copy_runI rfl _ _ 37 37 rfl _ _ (by simp [Act.eval, Act.put]) (by simp [Act.eval, Act.put]) (hcp1 _ _ _) ?_)
  go_wp2_with (at_builtin; refine wpList_copy_runI _ rfl _ _ 37 37 rfl _ _ rfl rfl (hcp2 _ (fun _ => rfl) (fun _ => rfl) _ _) ?_)
  go_ret
  first | exact ⟨rfl, rfl⟩ | exact ⟨rfl, by rw [hW1]⟩
end Go.Rk.TabI
namespace Go.Rk.TabI
set_option linter.unusedSimpArgs false
set_option linter.unusedVariables false
open Go.Proofs
set_option maxRecDepth 100000
set_option maxHeartbeats 1000000
theorem ins_end (n : Nat) (hn : n ≤ 1100000) (row : Nat → List DV) (r : List DV) (row1 : Nat → List DV) (hr : row1 0 = r) (R : Nat → List DV) (hR : ∀ k, k < n + 1 → R k = if k < n then row k else r) :
    Meets Try.prog 115 [.c (.own 7 n row), .c (.d (eI n)), .c (.own 7 1 row1)] ⟨.one (.c (.own 7 (n + 1) R)), [none, none, none]⟩ := by
  obtain ⟨R', hR'⟩ : ∃ R' : Nat → List DV, R' = real.app n row (real.sub 0 row1) := ⟨_, rfl⟩
  refine meets_rows (row := R') (fun k hk => ?_) ?_
  · rw [hR k hk, hR']
    show (if k < n then row k else row1 (0 + (k - n))) = _
    by_cases h : k < n
    · rw [if_pos h, if_pos h]
    · rw [if_neg h, if_neg h, show 0 + (k - n) = 0 by omega, hr]
  refine meets_of (H := []) (EX := EXA) ttok mixed Try.func115 rfl (by kernel_rfl) (by decide) ?_
  generalize hA : real = A
  generalize hM : MeetsB Try.prog = M
  cbv
  repeat' first
    | (refine br_f hA ?_ ?_; focus (subst hA; simp [real]; done))
    | (refine br_t hA ?_ ?_; focus (subst hA; simp [real]; done))
    | apply And.intro
    | exact True.intro
    | with_reducible rfl
    | exact same_of hA rfl
    | refine br_of hA (fun _ => ?_) (fun _ => ?_)
    | exact imp_of hA id
    | (refine imp_of hA ?_; subst hA; simp only [real, Bool.true_and]; exact id)
    | (refine ind_of hA ?_; decide +kernel)
    | (refine cut_of hA ?_; subst hA; exact ⟨Int.natCast_nonneg n, Int.le_refl _, Int.le_refl _⟩)
    | exact room_add2 hA (by omega) (by decide)
  subst hA
  rw [hR']
  rfl
end Go.Rk.TabI
namespace Go.Rk.TabI
set_option linter.unusedSimpArgs false
set_option linter.unusedVariables false
open Go Go.Proofs Go.RowKit Go.Lib
set_option maxHeartbeats 4000000 in
set_option maxRecDepth 100000 in
theorem ins_grow (b off n c i vb voff vc : Nat) (cs vs : List Value) (w : World) (hi : i < n) (hnc : n ≤ c) (hroom : c < n + 1) (hbig : (n + 1) * 56 ≤ 140737488355328)
    (hcl : cs.length = n * 7) (hvl : vs.length = 7)
    (hcs : ∀ j v, cs[j]? = some v → w.cell? ⟨b, off + j, none⟩ = some v)
    (hvs : ∀ j v, vs[j]? = some v → w.cell? ⟨vb, voff + j, none⟩ = some v) (h1c : ∀ v ∈ cs, v.oneCell' = true) (h1v : ∀ v ∈ vs, v.oneCell' = true) :
    ∃ ROW : Array Value, ROW.size = grownCap w (n + 1) c 69 * 7 ∧ (∀ j, j < i * 7 → ROW[j]? = cs[j]?) ∧ n + 1 ≤ grownCap w (n + 1) c 69 ∧
    Calls Try.prog 115 #[.slice (some ⟨b, off, none⟩) n c, .int .i64 i, .slice (some ⟨vb, voff, none⟩) 1 vc] w fun e w' =>
      e = .returned (.slice (some ⟨w.heap.size, 0, none⟩) (n + 1) (grownCap w (n + 1) c 69)) ∧
      w' = (((w.alloc (.cells ROW 69)).drew.setCells w.heap.size (i * 7) vs).drew).setCells w.heap.size ((i + 1) * 7) (cs.drop (i * 7)) := by
  have hi0 : Try.prog.info? 69 = some Try.t69 := by kernel_rfl
  have hzs : Try.t69.size = 7 := rfl
  have hzb : Try.t69.bytes = 56 := rfl
  have hz0 : Try.t69.zero = some (.agg #[.int .i64 0, .int .i64 0, .int .i64 0, .int .i64 0, .int .i64 0, .int .i64 0, .int .i64 0]) := rfl
  obtain ⟨Z, hZ⟩ : ∃ Z : Array Value, Z = #[.int .i64 0, .int .i64 0, .int .i64 0, .int .i64 0, .int .i64 0, .int .i64 0, .int .i64 0] := ⟨_, rfl⟩
  have hZ7 : Z.size = 7 := by rw [hZ]; rfl
  rw [← hZ] at hz0
  have hz2 : ¬ ((i : Int) = (n : Int)) := by omega
  have hsz : (Try.prog.info? 69).map (·.size) = some 7 := by rw [hi0]; rfl
  have hbw : b < w.heap.size := block_lt_of_cell (hcs 0 _ (List.getElem?_eq_getElem (by omega)))
  have hvw : vb < w.heap.size := block_lt_of_cell (hvs 0 _ (List.getElem?_eq_getElem (by omega)))
  have hkk : (n : Int) + 1 - (i : Int) = ((n + 1 - i : Nat) : Int) := by omega
  have hik : i + (n + 1 - i) = n + 1 := by omega
  have hold : (Builtin.firstCells Try.t69.size i (.slice (some ⟨b, off, none⟩) i c)).run Try.prog w.drew = .ok (cs.take (i * 7)).toArray w.drew := by
    rw [hzs]
    exact run_firstCells_some w.drew 7 i ⟨b, off, none⟩ i c (cs.take (i * 7)) (by rw [List.length_take]; omega) (fun j v hj => by
      rw [Addr.add_lit]
      rw [List.getElem?_take] at hj
      split at hj
      · exact hcs j v hj
      · cases hj)
  have hrz : ∀ ty, (Builtin.append_ #[37, 3] ty #[.slice (some ⟨b, off, none⟩) i c, .int .i64 ((n : Int) + 1 - (i : Int))]).run Try.prog w =
      .ok (.slice (some ⟨w.heap.size, 0, none⟩) (n + 1) (grownCap w (n + 1) c 69)) (w.drew.alloc (.cells ((cs.take (i * 7)).toArray ++ Builtin.zeroCells Z (n + 1 - i) ++ Builtin.zeroCells Z (grownCap w (n + 1) c 69 - (n + 1))) 69)) := fun ty => by
    have h := Lib.run_append_grow_zeros w 37 3 ty 69 Try.t69 _ .i64 .i64 Try.underlying37 Try.underlying3 hi0 hz0 (some ⟨b, off, none⟩) i c (cs.take (i * 7)) hold (n + 1 - i) (by omega) (by omega) (by omega) (by omega) (by rw [hzb]; omega) (by rw [hzb, hik]; exact growslice_fits hroom hbig)
    rw [hik] at h
    rw [hkk]
    exact h
  obtain ⟨G, hG⟩ : ∃ G, G = grownCap w (n + 1) c 69 := ⟨_, rfl⟩
  obtain ⟨ROW, hROW⟩ : ∃ ROW : Array Value, ROW = (cs.take (i * 7)).toArray ++ Builtin.zeroCells Z (n + 1 - i) ++ Builtin.zeroCells Z (G - (n + 1)) := ⟨_, rfl⟩
  have hGn : n + 1 ≤ G := by rw [hG]; exact grownCap_ge w _ _ _
  have hG63 : G ≤ 9223372036854775807 := by
    have := grownCap_le_maxLen w (n + 1) c 69 (by unfold maxLen; omega)
    rw [← hG] at this
    unfold maxLen at this
    omega
  rw [← hG] at hrz ⊢
  rw [← hROW] at hrz
  have htl : (cs.take (i * 7)).length = i * 7 := by rw [List.length_take, hcl]; omega
  have hRs : ROW.size = G * 7 := by
    rw [hROW]
    simp only [Array.size_append, List.size_toArray, htl, Builtin.zeroCells, Array.size_map, Array.size_range, hZ7]
    omega
  refine ⟨ROW, hRs, fun j hj => ?_, hGn, ?_⟩
  · rw [hROW, Array.append_assoc, Array.getElem?_append_left (by rw [List.size_toArray, htl]; exact hj), List.getElem?_toArray, List.getElem?_take, if_pos hj]
  obtain ⟨W1, hW1⟩ : ∃ W1, W1 = w.drew.alloc (.cells ROW 69) := ⟨_, rfl⟩
  rw [← hW1] at hrz
  have hN : ∀ j, j < (n + 1) * 7 → (W1.cell? ⟨w.heap.size, j, none⟩).isSome = true := fun j hj => by
    rw [hW1, World.cell?_alloc_at (w := w.drew) ROW _ w.heap.size j rfl, Array.getElem?_eq_getElem (by omega)]; rfl
  have hNf : ∀ j, W1.frozen? ⟨w.heap.size, j, none⟩ = false := fun j => by rw [hW1]; exact World.frozen?_alloc_at (w := w.drew) ROW _ w.heap.size j rfl
  have hOb : ∀ j v, w.cell? ⟨b, j, none⟩ = some v → W1.cell? ⟨b, j, none⟩ = some v := fun j v h => by rw [hW1, World.cell?_alloc_past (w := w.drew) _ b j hbw]; exact h
  have hOv : ∀ j v, w.cell? ⟨vb, j, none⟩ = some v → W1.cell? ⟨vb, j, none⟩ = some v := fun j v h => by rw [hW1, World.cell?_alloc_past (w := w.drew) _ vb j hvw]; exact h
  have hcpA : ∀ (W : World), (∀ x, W.cell? x = W1.cell? x) → (∀ x, W.frozen? x = W1.frozen? x) → ∀ ty dc, (Builtin.copy_ #[37, 37] ty #[.slice (some ⟨w.heap.size, i * 7, none⟩) (n + 1 - i) dc, .slice (some ⟨vb, voff, none⟩) 1 vc]).run Try.prog W = .ok (goInt 1) (W.setCells w.heap.size (i * 7) vs) := fun W hWc hWf ty dc =>
    run_copy_k W _ _ ty 69 7 w.heap.size (i * 7) (n + 1 - i) dc ⟨vb, voff, none⟩ 1 vc vs Try.underlying37 hsz 1 (by simp only [Nat.min_def]; split <;> omega) (by rw [hvl])
      (fun j v hj => by rw [Addr.add_lit, hWc]; exact hOv _ v (hvs j v hj))
      (fun j hj => by rw [hWc]; exact hN _ (by rw [hvl] at hj; omega)) (fun j hj => by rw [hWf]; exact hNf _) h1v
  have hGi : ¬ (G = i) := by omega
  have hGim : ¬ (G = i + 1) := by omega
  have hci : ¬ (c = i) := by omega
  have hbN : b ≠ w.heap.size := by omega
  have hdl : (cs.drop (i * 7)).length = (n - i) * 7 := by rw [List.length_drop, hcl, Nat.sub_mul]
  have hcpB : ∀ (W : World), (∀ x, W.cell? x = (W1.setCells w.heap.size (i * 7) vs).cell? x) → (∀ x, W.frozen? x = (W1.setCells w.heap.size (i * 7) vs).frozen? x) → ∀ ty dc sc, (Builtin.copy_ #[37, 37] ty #[.slice (some ⟨w.heap.size, (i + 1) * 7, none⟩) (n - i) dc, .slice (some ⟨b, off + i * 7, none⟩) (n - i) sc]).run Try.prog W = .ok (goInt ((n - i : Nat) : Int)) (W.setCells w.heap.size ((i + 1) * 7) (cs.drop (i * 7))) := fun W hWc hWf ty dc sc =>
    run_copy_k W _ _ ty 69 7 w.heap.size ((i + 1) * 7) (n - i) dc ⟨b, off + i * 7, none⟩ (n - i) sc (cs.drop (i * 7)) Try.underlying37 hsz (n - i) (by simp only [Nat.min_def]; split <;> omega) hdl
      (fun j v hj => by
        rw [Addr.add_lit, hWc, World.cell?_setCells_out _ _ _ _ _ (fun h _ => absurd h hbN), Nat.add_assoc]
        exact hOb _ v (hcs (i * 7 + j) v (by rwa [List.getElem?_drop] at hj)))
      (fun j hj => by rw [hWc]; exact isSome_setCells _ _ _ _ (fun t ht => hN _ (by rw [hvl] at ht; omega)) _ (hN _ (by rw [hdl] at hj; omega)))
      (fun j hj => by rw [hWf, World.frozen?_setCells]; exact hNf _) (fun v hv => h1c v (List.mem_of_mem_drop hv))
  subst hW1
  have hE1 : ∀ x, ((w.alloc (.cells ROW 69)).drew).cell? x = (w.drew.alloc (.cells ROW 69)).cell? x := fun x => rfl
  have hE2 : ∀ x, ((w.alloc (.cells ROW 69)).drew).frozen? x = (w.drew.alloc (.cells ROW 69)).frozen? x := fun x => rfl
  have hF1 : ∀ x, (((w.alloc (.cells ROW 69)).drew.setCells w.heap.size (i * 7) vs).drew).cell? x = ((w.drew.alloc (.cells ROW 69)).setCells w.heap.size (i * 7) vs).cell? x := fun x => rfl
  have hF2 : ∀ x, (((w.alloc (.cells ROW 69)).drew.setCells w.heap.size (i * 7) vs).drew).frozen? x = ((w.drew.alloc (.cells ROW 69)).setCells w.heap.size (i * 7) vs).frozen? x := fun x => rfl
  have hw1 : IntKind.i64.wrap ((i : Int) + 1) = (i : Int) + 1 := by rw [IntKind.wrap_i64]; omega
  have hw2 : IntKind.i64.wrap ((n : Int) + 1) = (n : Int) + 1 := by rw [IntKind.wrap_i64]; omega
  have hb1 : (0 : Int) ≤ (i : Int) + 1 := by omega
  have hin : i ≤ n := by omega
  have htn : ((i : Int) + 1).toNat = i + 1 := by omega
  have hb3 : (i : Int) ≤ (n : Int) := by omega
  have mixed := mixed
  clear hkk hik hold hROW hG hRs
  go_enter Try.func115, Try.ntmps115
  go_wp2_with (first
    | (at_builtin; refine Lib.wpList_append_run _ rfl _ _ _ _ rfl _ _ rfl rfl _ _ (hrz _) ?_)
    | (at_builtin; refine wpList_copy_runI _ rfl _ _ 37 37 rfl _ _ rfl rfl (hcpA _ hE1 hE2 _ _) ?_)
    | (at_builtin; refine wpList_copy_runI _ rfl _ _ 37 37 rfl _ _ rfl rfl (hcpB _ (fun _ => rfl) (fun _ => rfl) _ _ _) ?_))
  go_region_law_o (refine step_copy_runI rfl _ _ 37 37 rfl (.slice (some ⟨w.heap.size, (i + 1) * 7, none⟩) (n - i) (G - (i + 1))) (.slice (some ⟨b, off + i * 7, none⟩) (n - i) (c - i)) (by simp [Act.eval, Act.put]) (by simp [Act.eval, Act.put]) (hcpB _ hF1 hF2 3 (G - (i + 1)) (c - i)) ?_)
  go_wp2
  go_ret
  exact ⟨rfl, rfl⟩
end Go.Rk.TabI
namespace Go.Rk.TabI
set_option linter.unusedSimpArgs false
set_option linter.unusedVariables false
open Go Go.Proofs
theorem env_of {w w' : World} (h : w'.os = w.os ∧ w'.output = w.output ∧ w'.tape = w.tape) : Env w w' := h
/-- The cells that lie one behind the other. -/
def cutOf (A : Array Value) (o k : Nat) : List Value := (A.toList.drop o).take k
theorem cutOf_len {A : Array Value} {o k : Nat} (h : o + k ≤ A.size) : (cutOf A o k).length = k := by
  unfold cutOf
  rw [List.length_take, List.length_drop, Array.length_toList]
  omega
theorem cutOf_at {A : Array Value} {o k j : Nat} : (cutOf A o k)[j]? = if j < k then A[o + j]? else none := by
  unfold cutOf
  rw [List.getElem?_take]
  split
  · rw [List.getElem?_drop, Array.getElem?_toList]
  · rfl
theorem cell_of {w : World} {b : Nat} {A : Array Value} {e : TypeId} {fr : Nat × Nat} (h : w.heap[b]? = some (.cells A e fr)) (j : Nat) : w.cell? ⟨b, j, none⟩ = A[j]? := by
  simp [World.cell?, h]
theorem frozen_of {w : World} {b : Nat} {A : Array Value} {e : TypeId} (h : w.heap[b]? = some (.cells A e (0, 0))) (j : Nat) : w.frozen? ⟨b, j, none⟩ = false := by
  simp [World.frozen?, h]
/-- Rows of so many cells, one put between. -/
theorem ins_rows {w : World} {N : Nat → Prop} {n i base base' vo : Nat} {A B C : Array Value} {row row1 R : Nat → List DV}
    (hi : i ≤ n) (hl : ∀ k, k < n → (row k).length = 7) (hl1 : (row1 0).length = 7)
    (hA : ∀ k j x, k < n → (row k)[j]? = some x → ∃ u, A[base + k * 7 + j]? = some u ∧ DRep w N x u)
    (hB : ∀ j x, (row1 0)[j]? = some x → ∃ u, B[vo + j]? = some u ∧ DRep w N x u)
    (c1 : ∀ k j, k < i → j < 7 → C[base' + k * 7 + j]? = A[base + k * 7 + j]?)
    (c2 : ∀ j, j < 7 → C[base' + i * 7 + j]? = B[vo + j]?)
    (c3 : ∀ k j, i ≤ k → k < n → j < 7 → C[base' + (k + 1) * 7 + j]? = A[base + k * 7 + j]?)
    (hR : ∀ k, k < n + 1 → R k = if k < i then row k else if k = i then row1 0 else row (k - 1)) :
    (∀ k, k < n + 1 → (R k).length = 7) ∧ ∀ k j x, k < n + 1 → (R k)[j]? = some x → ∃ u, C[base' + k * 7 + j]? = some u ∧ DRep w N x u := by
  have hlen : ∀ k, k < n + 1 → (R k).length = 7 := fun k hk => by
    rw [hR k hk]
    split
    · exact hl k (by omega)
    · split
      · exact hl1
      · exact hl (k - 1) (by omega)
  refine ⟨hlen, fun k j x hk hj => ?_⟩
  have hj7 : j < 7 := by rw [← hlen k hk]; exact (List.getElem?_eq_some_iff.1 hj).1
  rw [hR k hk] at hj
  split at hj
  · rename_i h
    rw [c1 k j h hj7]
    exact hA k j x (by omega) hj
  · split at hj
    · rename_i h
      subst h
      rw [c2 j hj7]
      exact hB j x hj
    · rename_i h1 h2
      have e : k = (k - 1) + 1 := by omega
      rw [e, c3 (k - 1) j (by omega) (by omega) hj7]
      exact hA (k - 1) j x (by omega) hj
theorem c_Insert (n i : Nat) (hn : n ≤ 1100000) (hi : i ≤ n) (row row1 R : Nat → List DV) (hR : ∀ k, k < n + 1 → R k = if k < i then row k else if k = i then row1 0 else row (k - 1)) :
    Meets Try.prog 115 [.c (.own 7 n row), .c (.d (eI i)), .c (.own 7 1 row1)] ⟨.one (.c (.own 7 (n + 1) R)), [none, none, none]⟩ := by
  by_cases hin : i = n
  · subst hin
    refine ins_end i hn row (row1 0) row1 rfl R fun k hk => ?_
    rw [hR k hk]
    by_cases h : k < i
    · rw [if_pos h, if_pos h]
    · rw [if_neg h, if_neg h, if_pos (by omega)]
  have hlt : i < n := by omega
  refine ⟨by kernel_rfl, fun w vals F N hx hF hFN hN => ?_⟩
  obtain ⟨v0, vals, rfl⟩ : ∃ v0 r, vals = v0 :: r := by cases vals with | nil => exact hx.elim | cons a r => exact ⟨a, r, rfl⟩
  obtain ⟨v1, vals, rfl⟩ : ∃ v0 r, vals = v0 :: r := by cases vals with | nil => obtain ⟨_, _, _, _, h⟩ := hx; exact h.elim | cons a r => exact ⟨a, r, rfl⟩
  obtain ⟨v2, vals, rfl⟩ : ∃ v0 r, vals = v0 :: r := by cases vals with | nil => obtain ⟨_, _, _, _, _, _, _, _, h⟩ := hx; exact h.elim | cons a r => exact ⟨a, r, rfl⟩
  obtain ⟨F1, F', rfl, h0, F2, F'', rfl, h1, F3, F4, rfl, h2, h3⟩ := hx
  obtain rfl : vals = [] := by cases vals with | nil => rfl | cons a r => exact h3.elim
  have h3 : F4 = [] := h3
  subst h3
  obtain ⟨h1a, h1⟩ := h1
  subst h1a
  obtain ⟨hl, h0⟩ := h0
  rcases h0 with ⟨h0, _⟩ | ⟨b, base, cap, A, e, rfl, rfl, hcp, hnc, hb, hsz, hA⟩
  · omega
  obtain ⟨hl1, h2⟩ := h2
  rcases h2 with ⟨h2, _⟩ | ⟨vb, vo, vc, B, e2, rfl, rfl, hvp, h1c, hvb, hvsz, hB⟩
  · omega
  cases h1
  simp only [List.nil_append, List.append_nil, List.cons_append] at hF hFN ⊢
  have hne : vb ≠ b := by
    intro h
    simp only [List.nodup_cons, List.mem_cons, List.not_mem_nil, or_false] at hF
    exact hF.1 h.symm
  have hbN : ∀ x, N x → x ≠ b ∧ x ≠ vb := fun x hx => ⟨fun h => (hFN b (by simp)).2 (h ▸ hx), fun h => (hFN vb (by simp)).2 (h ▸ hx)⟩
  have hbw : b < w.heap.size := (hFN b (by simp)).1
  have hvw : vb < w.heap.size := (hFN vb (by simp)).1
  have hsA : base + n * 7 ≤ A.size := Nat.le_trans (Nat.add_le_add_left (Nat.mul_le_mul_right 7 hnc) base) hsz
  have hsB : vo + 7 ≤ B.size := by omega
  obtain ⟨cs, hcs⟩ : ∃ cs, cs = cutOf A base (n * 7) := ⟨_, rfl⟩
  obtain ⟨vs, hvs⟩ : ∃ vs, vs = cutOf B vo 7 := ⟨_, rfl⟩
  have hcl : cs.length = n * 7 := by rw [hcs]; exact cutOf_len hsA
  have hvl : vs.length = 7 := by rw [hvs]; exact cutOf_len hsB
  have hca : ∀ j v, cs[j]? = some v → w.cell? ⟨b, base + j, none⟩ = some v := fun j v h => by
    rw [hcs, cutOf_at] at h
    split at h
    · rw [cell_of hb]; exact h
    · cases h
  have hva : ∀ j v, vs[j]? = some v → w.cell? ⟨vb, vo + j, none⟩ = some v := fun j v h => by
    rw [hvs, cutOf_at] at h
    split at h
    · rw [cell_of hvb]; exact h
    · cases h
  have h1A : ∀ v ∈ cs, v.oneCell' = true := fun v hv => by
    obtain ⟨j, hj⟩ := List.mem_iff_getElem?.1 hv
    rw [hcs, cutOf_at] at hj
    split at hj
    · rename_i hjn
      have hk : j / 7 < n := Nat.div_lt_of_lt_mul (by omega)
      have hr := hl (j / 7) hk
      obtain ⟨x, hx⟩ : ∃ x, (row (j / 7))[j % 7]? = some x := ⟨_, List.getElem?_eq_getElem (by rw [hr]; exact Nat.mod_lt _ (by decide))⟩
      obtain ⟨u, hu, hd⟩ := hA (j / 7) (j % 7) x hk hx
      rw [show base + j / 7 * 7 + j % 7 = base + j by omega, hj] at hu
      cases hu
      exact hd.one
    · cases hj
  have h1B : ∀ v ∈ vs, v.oneCell' = true := fun v hv => by
    obtain ⟨j, hj⟩ := List.mem_iff_getElem?.1 hv
    rw [hvs, cutOf_at] at hj
    split at hj
    · rename_i hjn
      obtain ⟨x, hx⟩ : ∃ x, (row1 0)[j]? = some x := ⟨_, List.getElem?_eq_getElem (by rw [hl1 0 (by omega)]; exact hjn)⟩
      obtain ⟨u, hu, hd⟩ := hB 0 j x (by omega) hx
      rw [show vo + 0 * 7 + j = vo + j by omega, hj] at hu
      cases hu
      exact hd.one
    · cases hj
  have hBr : ∀ j x, (row1 0)[j]? = some x → ∃ u, B[vo + j]? = some u ∧ DRep w N x u := fun j x hj => by
    have := hB 0 j x (by omega) hj
    rw [show vo + 0 * 7 + j = vo + j by omega] at this
    exact this
  have hcsA : ∀ j, j < n * 7 → cs[j]? = A[base + j]? := fun j hj => by rw [hcs, cutOf_at, if_pos hj]
  have hvsB : ∀ j, j < 7 → vs[j]? = B[vo + j]? := fun j hj => by rw [hvs, cutOf_at, if_pos hj]
  have hdl : (cs.drop (i * 7)).length = (n - i) * 7 := by rw [List.length_drop, hcl, Nat.sub_mul]
  by_cases hroom : n + 1 ≤ cap
  · -- in place
    have hsC : base + (n + 1) * 7 ≤ A.size := Nat.le_trans (Nat.add_le_add_left (Nat.mul_le_mul_right 7 hroom) base) hsz
    refine (ins_shift b base n cap i vb vo vc cs vs w hlt hroom hn hne hcl hvl hca (fun j hj => by rw [cell_of hb, Array.getElem?_eq_getElem (by omega)]; rfl) (fun j hj => frozen_of hb _) hva h1A h1B e2 e B.size A.size (by simp [World.shape?, hvb]) (by simp [World.shape?, hb]) (by omega) (frozen_of hvb _) (frozen_of hvb _)).mono ?_
    rintro ee w' ⟨rfl, rfl⟩
    have hbd : w.drew.heap[b]? = some (.cells A e (0, 0)) := hb
    obtain ⟨C1, g1, g2, g3, g4, g5⟩ := setCells_at b (cs.drop (i * 7)) (base + (i + 1) * 7) w.drew A e (0, 0) hbd (by rw [hdl]; omega)
    obtain ⟨C, k1, k2, k3, k4, k5⟩ := setCells_at b vs (base + i * 7) _ C1 e (0, 0) g1 (by rw [hvl, g2]; omega)
    have hoth : ∀ x, x ≠ b → ((w.drew.setCells b (base + (i + 1) * 7) (cs.drop (i * 7))).setCells b (base + i * 7) vs).heap[x]? = w.heap[x]? := fun x hx => by
      rw [setCells_other b _ _ _ x hx, setCells_other b _ _ _ x hx]; rfl
    have hsize : ((w.drew.setCells b (base + (i + 1) * 7) (cs.drop (i * 7))).setCells b (base + i * 7) vs).heap.size = w.heap.size := by rw [setCells_size, setCells_size]; rfl
    obtain ⟨q1, q2⟩ := ins_rows (w := w) (N := N) (n := n) (i := i) (base := base) (base' := base) (vo := vo) (A := A) (B := B) (C := C) hi hl (hl1 0 (by omega)) hA hBr
      (fun k j hk hj => by rw [k3 _ (by omega), g3 _ (by omega)])
      (fun j hj => by rw [k4 j (by rw [hvl]; exact hj), hvsB j hj])
      (fun k j hk1 hk2 hj => by
        rw [k5 _ (by rw [hvl]; omega), show base + (k + 1) * 7 + j = base + (i + 1) * 7 + ((k - i) * 7 + j) by omega, g4 _ (by rw [hdl]; omega), List.getElem?_drop, hcsA _ (by omega)]
        congr 1
        omega) hR
    refine ⟨_, [b], [], rfl, ?_, by rw [hsize]; exact Nat.le_refl _, fun x hx hxF => hoth x fun h => hxF (by rw [h]; simp), fun x xs xe xf hx => ?_, fun x hx => ?_, by simp, ?_, ?_⟩
    · have e1 := setCells_env b vs (base + i * 7) (w.drew.setCells b (base + (i + 1) * 7) (cs.drop (i * 7)))
      have e2 := setCells_env b (cs.drop (i * 7)) (base + (i + 1) * 7) w.drew
      exact ⟨e1.1.trans e2.1, e1.2.1.trans e2.2.1, e1.2.2.trans e2.2.2⟩
    · by_cases hxb : x = b
      · subst hxb
        rw [hb] at hx
        cases hx
        exact ⟨C, k1, by rw [k2, g2]⟩
      · exact ⟨xs, by rw [hoth x hxb]; exact hx, rfl⟩
    · have hx : x = b := by simpa using hx
      subst hx
      exact ⟨by rw [hsize]; exact hbw, .inl (by simp)⟩
    · refine ⟨q1, .inr ⟨b, base, cap, C, e, rfl, rfl, hcp, hroom, k1, by rw [k2, g2]; exact hsz, fun k j x hk hj => ?_⟩⟩
      obtain ⟨u, hu, hd⟩ := q2 k j x hk hj
      exact ⟨u, hu, hd.carry fun x hx => ⟨hoth x (hbN x hx).1, by rw [hsize]; exact hN x hx, by simpa using (hbN x hx).1, .inl hx⟩⟩
    · rfl
  · -- a new row
    obtain ⟨ROW, hRs, hR1, hGn, hc⟩ := ins_grow b base n cap i vb vo vc cs vs w hlt hnc (by omega) (by omega) hcl hvl hca hva h1A h1B
    refine hc.mono ?_
    rintro ee w' ⟨rfl, rfl⟩
    obtain ⟨Gc, hGc⟩ : ∃ G, G = grownCap w (n + 1) cap 69 := ⟨_, rfl⟩
    rw [← hGc] at hRs hGn ⊢
    have hnw : (w.alloc (.cells ROW 69)).drew.heap[w.heap.size]? = some (.cells ROW 69 (0, 0)) := by
      show (w.heap.push _)[w.heap.size]? = _
      rw [Array.getElem?_push_size]
    obtain ⟨C1, g1, g2, g3, g4, g5⟩ := setCells_at w.heap.size vs (i * 7) _ ROW 69 (0, 0) hnw (by rw [hvl]; omega)
    have g1' : (((w.alloc (.cells ROW 69)).drew.setCells w.heap.size (i * 7) vs).drew).heap[w.heap.size]? = some (.cells C1 69 (0, 0)) := g1
    obtain ⟨C, k1, k2, k3, k4, k5⟩ := setCells_at w.heap.size (cs.drop (i * 7)) ((i + 1) * 7) _ C1 69 (0, 0) g1' (by rw [hdl, g2]; omega)
    obtain ⟨w', hw'⟩ : ∃ w', w' = (((w.alloc (.cells ROW 69)).drew.setCells w.heap.size (i * 7) vs).drew).setCells w.heap.size ((i + 1) * 7) (cs.drop (i * 7)) := ⟨_, rfl⟩
    have hoth : ∀ x, x < w.heap.size → w'.heap[x]? = w.heap[x]? := fun x hx => by
      rw [hw', setCells_other _ _ _ _ x (by omega)]
      show ((w.alloc (.cells ROW 69)).drew.setCells w.heap.size (i * 7) vs).heap[x]? = _
      rw [setCells_other _ _ _ _ x (by omega)]
      show (w.heap.push _)[x]? = _
      rw [Array.getElem?_push, if_neg (by omega)]
    have hsize : w'.heap.size = w.heap.size + 1 := by
      rw [hw', setCells_size]
      show ((w.alloc (.cells ROW 69)).drew.setCells w.heap.size (i * 7) vs).heap.size = _
      rw [setCells_size]
      show (w.heap.push _).size = _
      rw [Array.size_push]
    have henv : Env w w' := by
      have e1 := setCells_env w.heap.size (cs.drop (i * 7)) ((i + 1) * 7) (((w.alloc (.cells ROW 69)).drew.setCells w.heap.size (i * 7) vs).drew)
      have e2 := setCells_env w.heap.size vs (i * 7) ((w.alloc (.cells ROW 69)).drew)
      rw [hw']
      exact ⟨e1.1.trans e2.1, e1.2.1.trans e2.2.1, e1.2.2.trans e2.2.2⟩
    rw [← hw'] at k1 ⊢
    obtain ⟨q1, q2⟩ := ins_rows (w := w) (N := N) (n := n) (i := i) (base := base) (base' := 0) (vo := vo) (A := A) (B := B) (C := C) hi hl (hl1 0 (by omega)) hA hBr
      (fun k j hk hj => by rw [k3 _ (by omega), g3 _ (by omega), hR1 _ (by omega), hcsA _ (by omega)]; congr 1; omega)
      (fun j hj => by rw [k3 _ (by omega), Nat.zero_add, g4 j (by rw [hvl]; exact hj), hvsB j hj])
      (fun k j hk1 hk2 hj => by
        rw [show 0 + (k + 1) * 7 + j = (i + 1) * 7 + ((k - i) * 7 + j) by omega, k4 _ (by rw [hdl]; omega), List.getElem?_drop, hcsA _ (by omega)]
        congr 1
        omega) hR
    refine ⟨_, [w.heap.size], [], rfl, henv, by rw [hsize]; omega, fun x hx _ => hoth x hx, fun x xs xe xf hx => ⟨xs, by rw [hoth x (Array.getElem?_eq_some_iff.1 hx).1]; exact hx, rfl⟩, fun x hx => ?_, by simp, ?_, ?_⟩
    · have hx : x = w.heap.size := by simpa using hx
      subst hx
      exact ⟨by rw [hsize]; omega, .inr (Nat.le_refl _)⟩
    · refine ⟨q1, .inr ⟨w.heap.size, 0, Gc, C, 69, rfl, rfl, by omega, hGn, k1, by rw [k2, g2, hRs]; omega, fun k j x hk hj => ?_⟩⟩
      obtain ⟨u, hu, hd⟩ := q2 k j x hk hj
      exact ⟨u, hu, hd.carry fun x hx => ⟨hoth x (hN x hx), by have := hN x hx; rw [hsize]; omega, by have := hN x hx; simp; omega, .inl hx⟩⟩
    · rfl
end Go.Rk.TabI
/- Tables: out. -/
namespace Go.Rk
set_option linter.unusedSimpArgs false
set_option linter.unusedVariables false
open Go.Proofs
set_option maxRecDepth 100000
set_option maxHeartbeats 1000000
open Classical in
set_option maxRecDepth 100000 in
theorem c_of (r : TabT) (key : Int) (w : WinT) : ∃ b, (b = true ↔ IsRow key w r) ∧ Meets Try.prog 110 [xd (eTab r), .c (.d (eI key)), xd (eWin w)] ⟨.one (.c (.d (eB b))), [none, none, none]⟩ := by
  obtain ⟨b, hb⟩ : ∃ b, b = decide (IsRow key w r) := ⟨_, rfl⟩
  refine ⟨b, by rw [hb, decide_eq_true_eq], ?_⟩
  refine meets_of (H := []) (EX := EXA) ttok mixed Try.func110 rfl (by kernel_rfl) (by decide) ?_
  generalize hA : real = A
  generalize hM : MeetsB Try.prog = M
  cbv
  repeat' first
    | apply And.intro
    | exact True.intro
    | with_reducible rfl
    | exact same_of hA rfl
    | refine br_of hA (fun _ => ?_) (fun _ => ?_)
    | exact imp_of hA id
    | (refine imp_of hA ?_; subst hA; simp only [real, Bool.true_and]; exact id)
    | (refine ind_of hA ?_; decide +kernel)
  all_goals obtain ⟨k, ⟨s, e⟩, ag⟩ := r; obtain ⟨s2, e2⟩ := w
  all_goals subst hA
  all_goals refine congrArg (fun b => XA.one (.c (.d (eB b)))) (Bool.eq_iff_iff.2 ?_)
  all_goals subst_vars
  all_goals simp only [real, bifA, bifB, bifC, bifD, beqB, decide_eq_true_eq, decide_eq_false_iff_not, beqI, bneI, beqIF, bneIF, ne_eq, Bool.and_eq_true, Bool.or_eq_true, Bool.not_eq_true', Bool.not_eq_false', Bool.and_eq_false_iff, Bool.or_eq_false_iff, Bool.false_eq_true, and_false, false_and, or_false, false_or, and_true, true_and, not_true_eq_false, not_false_eq_true, true_iff, false_iff, IntKind.wrap_i64, IsRow, WinOkP, AggOkP] at *
  all_goals first | omega | exact decide_eq_true_iff.symm
def st_Out (n : Nat) (g : Nat → TabT) (key : Int) (w : WinT) (i c : Nat) (row : Nat → List DV) : St := ⟨[(12, .c (.d (eI i))), (11, .c (.d (eI n))), (10, .c (.d (.sl 7 n fun i => eTab (g i)))), (7, .c (.own 448 0 c 1)), (1, .c (.d (eI key))), (5, .c (.bp 320 1 0))], [(320, 1, .box ((eWin w).map .d)), (448, 1, .arr 7 c row)]⟩
theorem c_Out (l : List TabT) (n : Nat) (g : Nat → TabT) (hl : Lst zTab l n g) (hn : n ≤ 1100000) (key : Int) (w : WinT) (n0 : Nat) (G : Nat → TabT) (h0 : Lst zTab (tOut key w l) n0 G) : Meets Try.prog 57 [.c (.d (.sl 7 n fun i => eTab (g i))), .c (.d (eI key)), xd (eWin w)] ⟨.one (.c (.own 7 n0 fun i => eTab (G i))), [none, none, none]⟩ := by
  have hnL : n ≤ maxLen := Nat.le_trans hn (by decide)
  have h0 := lst_tells eTab h0
  refine meets_of (H := [8]) (EX := EXA) ttok mixed Try.func57 rfl (by kernel_rfl) (by decide) ?_
  generalize hA : real = A
  generalize hM : MeetsB Try.prog = M
  cbv
  repeat' first
    | apply And.intro
    | exact True.intro
    | with_reducible rfl
    | exact same_of hA rfl
    | refine br_of hA (fun _ => ?_) (fun _ => ?_)
    | exact imp_of hA id
    | (refine imp_of hA ?_; subst hA; simp only [real, Bool.true_and]; exact id)
    | (refine ind_of hA ?_; decide +kernel)
  refine loop_of hA (α := { q : Nat × Nat × (Nat → List DV) // q.1 ≤ n ∧ Tells zTab eTab (tOut key w (l.take q.1)) q.2.1 q.2.2 }) (fun y => st_Out n g key w y.1.1 y.1.2.1 y.1.2.2) (fun y => n - y.1.1) ⟨(0, 0, fun _ => []), Nat.zero_le _, rfl, fun k h => absurd h (Nat.not_lt_zero k)⟩ ?_ ?_
  · refine cov_prom 7 448 1 7 (fun _ => []) (by cbv) (by cbv) (cov_of ?_ ?_ ?_)
    · cbv; try (subst hA; repeat' first | apply And.intro | exact True.intro | rfl)
    · cbv; try (subst hA; repeat' first | apply And.intro | exact True.intro | rfl | (intro _ _; rfl) | (intro k hk; exact absurd hk (Nat.not_lt_zero k)))
    · cbv; try (subst hA; repeat' first | apply And.intro | exact True.intro | rfl | exact .inr trivial)
  rintro ⟨⟨i, c, row⟩, hi, hT⟩
  have hi : i ≤ n := hi
  have hT : Tells zTab eTab (tOut key w (l.take i)) c row := hT
  have hci : c ≤ i := by
    rw [hT.1]
    have h1 := tOut_len key w (l.take i)
    rw [List.length_take] at h1
    omega
  cbv
  repeat' first
    | apply And.intro
    | exact True.intro
    | with_reducible rfl
    | exact same_of hA rfl
    | refine br_of hA (fun _ => ?_) (fun _ => ?_)
    | exact imp_of hA id
    | (refine imp_of hA ?_; subst hA; simp only [real, Bool.true_and]; exact id)
    | (refine ind_of hA ?_; decide +kernel)
    | (refine call_ex hA hM (c_of _ _ _) (fun _ _ => ?_); cbv)
    | (refine inb_of hA fun _ => ?_; subst hA; simp only [real, Bool.and_eq_true, Bool.not_eq_true', Bool.not_eq_false', decide_eq_true_eq, Int.ofNat_eq_natCast, IntKind.wrap_i64] at *; omega)
    | exact room_add2 hA (by omega) (by decide)
  · rename_i hlt bq hbq hc
    have hlt' : i < n := by subst hA; simp only [real, decide_eq_true_eq, Int.ofNat_eq_natCast] at hlt; omega
    have hq : ¬ IsRow key w (g i) := by
      have hbq : bq = true ↔ IsRow key w (g i) := by subst hA; exact hbq
      intro h
      have h2 := hbq.2 h
      subst hA
      have hc : (!bq) = true := hc
      rw [h2] at hc; cases hc
    refine ⟨⟨(i + 1, c + 1, fun q => if q < c then row q else eTab (g i)), by simp only; omega, ?_⟩, by simp only; omega, cov_of ?_ ?_ ?_⟩
    · simp only
      rw [lst_take hl hlt', tOut_app]
      show Tells zTab eTab (tOut key w (l.take i) ++ (if IsRow key w (g i) then tOut key w [] else g i :: tOut key w [])) _ _
      rw [if_neg hq]
      exact tells_snoc hT (fun q _ => rfl)
    · cbv
      subst hA
      repeat' first | apply And.intro | exact True.intro | exact congrArg (fun x => DV.v (.int .i64 x)) (up64 hlt' hnL) | rfl
    · cbv
      subst hA
      repeat' first | apply And.intro | exact True.intro | rfl | (intro _ _; rfl) | (intro q hq; exact push_at rfl _ _ _ _ q hq) | (intro q hq; have e0 : real.add 0 (real.nat (Int.ofNat i)) = i := Nat.zero_add i; rw [e0]; exact push_at rfl _ _ _ _ q hq) | (intro q hq; have e0 : real.nat (Int.ofNat i) = i := rfl; rw [e0]; exact push_at rfl _ _ _ _ q hq)
    · cbv; try (subst hA; repeat' first | apply And.intro | exact True.intro | rfl | exact .inr trivial)
  · rename_i hlt bq hbq hc
    have hlt' : i < n := by subst hA; simp only [real, decide_eq_true_eq, Int.ofNat_eq_natCast] at hlt; omega
    have hq : IsRow key w (g i) := by
      have hbq : bq = true ↔ IsRow key w (g i) := by subst hA; exact hbq
      subst hA
      have hc : (!bq) = false := hc
      refine hbq.1 ?_
      cases bq
      · cases hc
      · rfl
    refine ⟨⟨(i + 1, c, row), by simp only; omega, ?_⟩, by simp only; omega, cov_of ?_ ?_ ?_⟩
    · simp only
      rw [lst_take hl hlt', tOut_app]
      show Tells zTab eTab (tOut key w (l.take i) ++ (if IsRow key w (g i) then tOut key w [] else g i :: tOut key w [])) _ _
      rw [if_pos hq]
      show Tells zTab eTab (tOut key w (l.take i) ++ []) _ _
      rw [List.append_nil]
      exact hT
    · cbv
      subst hA
      repeat' first | apply And.intro | exact True.intro | exact congrArg (fun x => DV.v (.int .i64 x)) (up64 hlt' hnL) | rfl
    · cbv; try (subst hA; repeat' first | apply And.intro | exact True.intro | rfl | (intro _ _; rfl))
    · cbv; try (subst hA; repeat' first | apply And.intro | exact True.intro | rfl | exact .inr trivial)
  · rename_i hge
    have hin : i = n := by subst hA; simp only [real, decide_eq_false_iff_not, Int.ofNat_eq_natCast] at hge; omega
    subst hin
    rw [lst_all hl] at hT
    have hcc : c = n0 := hT.1.trans h0.1.symm
    subst hcc
    refine stop_of hA ⟨[(7, .c (.own 448 0 c 1))], [(448, 1, .arr 7 c fun i => eTab (G i))]⟩ (cov_of ?_ ?_ ?_) ?_
    · cbv
    · cbv
      exact ⟨fun q hq => (hT.2 q hq).trans (h0.2 q hq).symm, trivial⟩
    · cbv
    · cbv
      repeat' first
        | apply And.intro
        | exact True.intro
        | with_reducible rfl
        | exact same_of hA rfl
        | refine br_of hA (fun _ => ?_) (fun _ => ?_)
        | exact imp_of hA id
        | (refine imp_of hA ?_; subst hA; simp only [real, Bool.true_and]; exact id)
        | (refine ind_of hA ?_; decide +kernel)
end Go.Rk
/- Tables: put. -/
namespace Go.Rk
set_option linter.unusedSimpArgs false
set_option linter.unusedVariables false
open Go.Proofs
set_option maxRecDepth 100000
set_option maxHeartbeats 1000000
theorem c_tcompare (r q : TabT) : ∃ x : Int, x = (if r.key < q.key then -1 else if q.key < r.key then 1 else if r.win.s < q.win.s then -1 else if q.win.s < r.win.s then 1 else if r.win.e < q.win.e then -1 else if q.win.e < r.win.e then 1 else 0) ∧ Meets Try.prog 114 [xd (eTab r), xd (eTab q)] ⟨.one (.c (.d (eI x))), [none, none]⟩ := by
  obtain ⟨x, hx⟩ : ∃ x : Int, x = (if r.key < q.key then -1 else if q.key < r.key then 1 else if r.win.s < q.win.s then -1 else if q.win.s < r.win.s then 1 else if r.win.e < q.win.e then -1 else if q.win.e < r.win.e then 1 else 0) := ⟨_, rfl⟩
  refine ⟨x, hx, ?_⟩
  refine meets_of (H := []) (EX := EXA) ttok mixed Try.func114 rfl (by kernel_rfl) (by decide) ?_
  generalize hA : real = A
  generalize hM : MeetsB Try.prog = M
  cbv
  repeat' first
    | apply And.intro
    | exact True.intro
    | with_reducible rfl
    | exact same_of hA rfl
    | refine br_of hA (fun _ => ?_) (fun _ => ?_)
    | exact imp_of hA id
    | (refine imp_of hA ?_; subst hA; simp only [real, Bool.true_and]; exact id)
    | (refine ind_of hA ?_; decide +kernel)
    | (refine call_ex hA hM (c_Compare _ _) (fun _ _ => ?_); cbv)
    | (refine call_ex hA hM (c_wcompare _ _ _ _) (fun _ _ => ?_); cbv)
    | (refine call_ex2 hA hM (c_Or _ _) (congrArg (fun f => [XT.c (.d (.sl 1 2 f))]) (two_of hA _ _)) (fun _ _ => ?_); cbv)
  all_goals subst hA
  all_goals refine congrArg (fun x => XA.one (.c (.d (eI x)))) ?_
  all_goals subst_vars
  all_goals try simp only [real, bifA, bifB, bifC, bifD, decide_eq_true_eq, decide_eq_false_iff_not, beq_iff_eq, bne_iff_ne, beq_eq_false_iff_ne, bne_eq_false_iff_eq, ne_eq, Bool.and_eq_true, Bool.or_eq_true, Bool.not_eq_true', Bool.not_eq_false', Bool.and_eq_false_iff, Bool.or_eq_false_iff, Bool.false_eq_true, reduceCtorEq] at *
  all_goals first
    | omega
    | skip
open Classical in
set_option maxRecDepth 100000 in
theorem c_Put1 (s r : TabT) : ∃ b, (b = true ↔ Ahead r s) ∧ Meets Try.prog 113 [xd (eTab s), .c (.d (.p (eTab r)))] ⟨.one (.c (.d (eB b))), [none, none]⟩ := by
  obtain ⟨b, hb⟩ : ∃ b, b = decide (Ahead r s) := ⟨_, rfl⟩
  refine ⟨b, by rw [hb, decide_eq_true_eq], ?_⟩
  refine meets_of (H := []) (EX := EXA) ttok mixed Try.func113 rfl (by kernel_rfl) (by decide) ?_
  generalize hA : real = A
  generalize hM : MeetsB Try.prog = M
  cbv
  repeat' first
    | apply And.intro
    | exact True.intro
    | with_reducible rfl
    | exact same_of hA rfl
    | refine br_of hA (fun _ => ?_) (fun _ => ?_)
    | exact imp_of hA id
    | (refine imp_of hA ?_; subst hA; simp only [real, Bool.true_and]; exact id)
    | (refine ind_of hA ?_; decide +kernel)
    | (refine call_ex hA hM (c_tcompare _ _) (fun _ _ => ?_); cbv)
  all_goals obtain ⟨k, ⟨s, e⟩, ag⟩ := s; obtain ⟨k2, ⟨s2, e2⟩, ag2⟩ := r
  all_goals subst hA
  all_goals refine congrArg (fun b => XA.one (.c (.d (eB b)))) (Bool.eq_iff_iff.2 ?_)
  all_goals subst_vars
  all_goals simp only [real, bifA, bifB, bifC, bifD, beqB, decide_eq_true_eq, decide_eq_false_iff_not, beqI, bneI, beqIF, bneIF, ne_eq, Bool.and_eq_true, Bool.or_eq_true, Bool.not_eq_true', Bool.not_eq_false', Bool.and_eq_false_iff, Bool.or_eq_false_iff, Bool.false_eq_true, and_false, false_and, or_false, false_or, and_true, true_and, not_true_eq_false, not_false_eq_true, true_iff, false_iff, IntKind.wrap_i64, Ahead, WinOkP, AggOkP] at *
  all_goals first | omega | exact (@decide_eq_true_iff _ _).symm | (refine Iff.trans ?_ (@decide_eq_true_iff _ _).symm; omega)
def stIxTab1 (n : Nat) (g : Nat → TabT) (F : FuncId) (c0 : DV) (i : Nat) : St := ⟨[(8, .c (.d (eI i))), (7, .c (.d (eI n))), (0, .c (.d (.sl 7 n fun i => eTab (g i)))), (1, .c (.d (.fn F [c0])))], []⟩
set_option maxRecDepth 100000 in
theorem c_IndexTab1 (n : Nat) (hn : n ≤ maxLen) (g : Nat → TabT) (F : FuncId) (c0 : DV) (Q : TabT → Prop) (hc : ∀ r, ∃ b, (b = true ↔ Q r) ∧ Meets Try.prog F [xd (eTab r), .c (.d c0)] ⟨.one (.c (.d (eB b))), [none, none]⟩) : ∃ x, FirstIx n (fun i => Q (g i)) x ∧ Meets Try.prog 111 [.c (.d (.sl 7 n fun i => eTab (g i))), .c (.d (.fn F [c0]))] ⟨.one (.c (.d (eI x))), [none, none]⟩ := by
  obtain ⟨x, hx⟩ := firstIx_ex n fun i => Q (g i)
  refine ⟨x, hx, ?_⟩
  refine meets_of (H := []) (EX := EXA) ttok mixed Try.func111 rfl (by kernel_rfl) (by decide) ?_
  generalize hA : real = A
  generalize hM : MeetsB Try.prog = M
  cbv
  repeat' first
    | apply And.intro
    | exact True.intro
    | with_reducible rfl
    | exact same_of hA rfl
    | refine br_of hA (fun _ => ?_) (fun _ => ?_)
    | exact imp_of hA id
    | (refine imp_of hA ?_; subst hA; simp only [real, Bool.true_and]; exact id)
    | (refine ind_of hA ?_; decide +kernel)
  refine loop_of hA (α := { i : Nat // i ≤ n ∧ ∀ j, j < i → ¬ Q (g j) }) (fun x => stIxTab1 n g F c0 x.1) (fun x => n - x.1) ⟨0, Nat.zero_le _, fun j h => absurd h (Nat.not_lt_zero _)⟩ ?_ ?_
  · refine cov_of ?_ ?_ ?_
    · cbv; subst hA; exact ⟨rfl, rfl, trivial⟩
    · cbv
    · cbv
  rintro ⟨i, hi, hb⟩
  cbv
  repeat' first
    | apply And.intro
    | exact True.intro
    | with_reducible rfl
    | exact same_of hA rfl
    | refine br_of hA (fun _ => ?_) (fun _ => ?_)
    | exact imp_of hA id
    | (refine imp_of hA ?_; subst hA; simp only [real, Bool.true_and]; exact id)
    | (refine ind_of hA ?_; decide +kernel)
    | (refine inb_of hA fun _ => ?_; subst hA; simp only [real, decide_eq_true_eq, Int.ofNat_eq_natCast] at *; omega)
  · refine call_ex hA hM (hc (g (A.nat (Int.ofNat i)))) (fun b hbb => ?_)
    cbv
    repeat' first
      | apply And.intro
      | exact True.intro
      | with_reducible rfl
      | exact same_of hA rfl
      | refine br_of hA (fun _ => ?_) (fun _ => ?_)
      | exact imp_of hA id
      | (refine imp_of hA ?_; subst hA; simp only [real, Bool.true_and]; exact id)
      | (refine ind_of hA ?_; decide +kernel)
    · rename_i hlt ht
      subst hA
      simp only [real, decide_eq_true_eq, Int.ofNat_eq_natCast, Int.toNat_natCast] at *
      obtain rfl := firstIx_one hx (.at i (by omega) (hbb.1 ht) hb)
      rfl
    · rename_i hlt ht
      have hlt' : i < n := by subst hA; simp only [real, decide_eq_true_eq, Int.ofNat_eq_natCast] at hlt; omega
      refine ⟨⟨i + 1, by omega, fun j hj => ?_⟩, by simp only; omega, cov_of ?_ ?_ ?_⟩
      · by_cases e : j = i
        · subst e
          subst hA
          intro hq
          have := hbb.2 hq
          rw [ht] at this
          cases this
        · exact hb j (by omega)
      · cbv
        subst hA
        exact ⟨congrArg (fun x => DV.v (.int .i64 x)) (up64 hlt' hn), trivial⟩
      · cbv
      · cbv
  · subst hA
    simp only [real, decide_eq_false_iff_not, Int.ofNat_eq_natCast] at *
    obtain rfl := firstIx_one hx (.none fun j hj => hb j (by omega))
    rfl
theorem flat_tab {A : Ar} (hA : real = A) (n : Nat) (G : Nat → TabT) : A.flat n (fun i => eTab (G i)) := by
  subst hA
  intro i _ x hx
  simp only [eTab, List.mem_cons, List.not_mem_nil, or_false] at hx
  rcases hx with rfl | rfl | rfl | rfl | rfl | rfl | rfl <;> exact ⟨_, rfl⟩
def EXIT : FuncId → List Nat × Bool := fun f => (if f = 115 then [0, 2] else [], false)
theorem c_Put (l : List TabT) (n : Nat) (g : Nat → TabT) (hl : Lst zTab l n g) (hn : n ≤ 1090000) (r : TabT) (n1 : Nat) (G : Nat → TabT) (h1 : Lst zTab (tPut r l) n1 G) : Meets Try.prog 60 [.c (.d (.sl 7 n fun i => eTab (g i))), xd (eTab r)] ⟨.one (.c (.own 7 n1 fun i => eTab (G i))), [none, none]⟩ := by
  obtain ⟨n0, hn0⟩ : ∃ n0, n0 = (tOut r.key r.win l).length := ⟨_, rfl⟩
  obtain ⟨G0, hG0⟩ : ∃ G0 : Nat → TabT, G0 = fun k => (tOut r.key r.win l).getD k zTab := ⟨_, rfl⟩
  have h0 : Lst zTab (tOut r.key r.win l) n0 G0 := ⟨hn0, fun k _ => by rw [hG0]⟩
  have hn0n : n0 ≤ n := by rw [hn0, hl.1]; exact tOut_len _ _ _
  have hO := c_Out l n g hl (by omega) r.key r.win n0 G0 h0
  obtain ⟨x, hx, hX⟩ := c_IndexTab1 n0 (Nat.le_trans (show n0 ≤ 1090000 by omega) (by decide)) G0 113 (.p (eTab r)) (Ahead r) (fun s => c_Put1 s r)
  have hxx := firstIx_neg hx
  obtain ⟨i, hi⟩ : ∃ i : Nat, i = if 0 ≤ x then x.toNat else n0 := ⟨_, rfl⟩
  have hi2 : i ≤ n0 ∧ (∀ k, k < i → ¬ Ahead r (G0 k)) ∧ (i < n0 → Ahead r (G0 i)) ∧ (0 ≤ x → x = (i : Int)) ∧ (¬ 0 ≤ x → i = n0) := by
    by_cases h : 0 ≤ x
    · rw [if_pos h] at hi
      obtain ⟨q, hq1, hq2, hq3, hq4⟩ := hxx.2.1 h
      have e : i = q := by rw [hi, hq2]; rfl
      rw [e]
      exact ⟨by omega, hq4, fun _ => hq3, fun _ => hq2, fun hc => absurd h hc⟩
    · rw [if_neg h] at hi
      rw [hi]
      refine ⟨Nat.le_refl _, fun k hk ha => h (hxx.1.2 ⟨k, hk, ha⟩), fun hc => absurd hc (Nat.lt_irrefl _), fun hc => absurd hc h, fun _ => rfl⟩
  obtain ⟨hi0, ha, hb, hx1, hx2⟩ := hi2
  obtain ⟨e1, hG⟩ := tIns_lst h0 h1 hi0 ha hb
  have hIn : ∀ row1 : Nat → List DV, row1 0 = eTab r → Meets Try.prog 115 [.c (.own 7 n0 fun k => eTab (G0 k)), .c (.d (eI i)), .c (.own 7 1 row1)] ⟨.one (.c (.own 7 n1 fun k => eTab (G k))), [none, none, none]⟩ := fun row1 hr1 => by
    rw [e1]
    refine TabI.c_Insert n0 i (by omega) hi0 _ row1 _ fun k hk => ?_
    show eTab (G k) = _
    rw [hG k hk]
    split
    · rfl
    · split
      · exact hr1.symm
      · rfl
  refine meets_of (H := []) (EX := EXIT) ttok mixed Try.func60 rfl (by kernel_rfl) (by decide) ?_
  generalize hA : real = A
  generalize hM : MeetsB Try.prog = M
  cbv
  repeat' first
    | apply And.intro
    | exact True.intro
    | with_reducible rfl
    | exact same_of hA rfl
    | refine br_of hA (fun _ => ?_) (fun _ => ?_)
    | exact imp_of hA id
    | (refine imp_of hA ?_; subst hA; simp only [real, Bool.true_and]; exact id)
    | (refine ind_of hA ?_; decide +kernel)
    | (refine call_of hA hM _ hO ?_; cbv)
    | exact flat_tab hA _ _
    | (refine call_of2 hA hM _ hX (congrArg (fun f => [XT.c (.d (.sl 7 n0 f)), XT.c (.d (.fn 113 [.p (eTab r)]))]) (sub0 hA fun i => eTab (G0 i))) ?_; cbv)
  · rename_i hneg
    have hin : i = n0 := hx2 (by subst hA; exact Int.not_le.2 (of_decide_eq_true (show decide (x < 0) = true from hneg)))
    refine call_of2 hA hM _ (hIn _ ?_) (congrArg (fun z => [XT.c (.own 7 n0 fun k => eTab (G0 k)), XT.c (.d (eI z)), XT.c (.own 7 1 (A.app 1 (A.rep (eTab r)) (A.rep (eTab zTab))))]) (show A.int n0 = (i : Int) by subst hA; rw [hin]; rfl)) ?_
    · subst hA; rfl
    cbv
    repeat' first
      | apply And.intro
      | exact True.intro
      | with_reducible rfl
      | exact same_of hA rfl
      | refine br_of hA (fun _ => ?_) (fun _ => ?_)
      | exact imp_of hA id
      | (refine imp_of hA ?_; subst hA; simp only [real, Bool.true_and]; exact id)
      | (refine ind_of hA ?_; decide +kernel)
  · rename_i hneg
    have hin : x = (i : Int) := hx1 (by subst hA; exact Int.not_lt.1 (of_decide_eq_false (show decide (x < 0) = false from hneg)))
    refine call_of2 hA hM _ (hIn _ ?_) (congrArg (fun z => [XT.c (.own 7 n0 fun k => eTab (G0 k)), XT.c (.d (eI z)), XT.c (.own 7 1 (A.app 1 (A.rep (eTab r)) (A.rep (eTab zTab))))]) hin) ?_
    · subst hA; rfl
    cbv
    repeat' first
      | apply And.intro
      | exact True.intro
      | with_reducible rfl
      | exact same_of hA rfl
      | refine br_of hA (fun _ => ?_) (fun _ => ?_)
      | exact imp_of hA id
      | (refine imp_of hA ?_; subst hA; simp only [real, Bool.true_and]; exact id)
      | (refine ind_of hA ?_; decide +kernel)
end Go.Rk
