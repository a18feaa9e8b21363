/- The walk over this seat's functions, part 6: what each of them answers, at all data. -/
import Derived.Test.YtaceckhmclddeaaM1
import Derived.Test.YtaceckhmclddeaaM2
import Derived.Test.YtaceckhmclddeaaM3
import Derived.Test.YtaceckhmclddeaaM4
import Derived.Test.YtaceckhmclddeaaM5
/- What a record does to rows, in plain words. -/
namespace Go.Rk
set_option linter.unusedSimpArgs false
set_option linter.unusedVariables false
theorem win_ext {a b : WinT} (h1 : a.s = b.s) (h2 : a.e = b.e) : a = b := by cases a; cases b; simp_all
def IsR (k : Int) (w : WinT) (r : RowT) : Prop := r.key = k ∧ (r.win.s = w.s ∧ r.win.e = w.e)
instance (k : Int) (w : WinT) (r : RowT) : Decidable (IsR k w r) := inferInstanceAs (Decidable (_ ∧ _))
def RA (r q : RowT) : Prop := AheadP r.key r.win q.key q.win
instance (r q : RowT) : Decidable (RA r q) := inferInstanceAs (Decidable (_ ∨ (_ ∧ (_ ∨ (_ ∧ _)))))
def rOut (k : Int) (w : WinT) (l : List RowT) : List RowT := l.filter fun r => !decide (IsR k w r)
def rIns (r : RowT) : List RowT → List RowT
  | [] => [r]
  | q :: l => if RA r q then r :: q :: l else q :: rIns r l
def rPut (r : RowT) (l : List RowT) : List RowT := rIns r (rOut r.key r.win l)
def rFind (k : Int) (w : WinT) (l : List RowT) : Option RowT := l.find? fun r => decide (IsR k w r)
def kindT (r : RowT) : Int := if r.timely = true then 2 else 1
def tellS (j : JobT) (m : Int) (r : RowT) : RowT × List PaneT := if m < r.win.e then (r, []) else (toldR r, [paneP j.piece r (kindT r)])
def addR (r : RowT) (v : Int) : RowT := { r with all := aggAdd r.all v, fresh := aggAdd r.fresh v }
def nrow (k : Int) (w : WinT) : RowT := ⟨k, w, zAgg, zAgg, 0, false⟩
/-- A value put into a window that does not grow. -/
def intoL (j : JobT) (m : Int) (k v : Int) (w : WinT) (l : List RowT) : Option (List RowT × List PaneT) :=
  if w64 (w.e + j.late) ≤ m then none
  else some (rPut (tellS j m (addR ((rFind k w l).getD (nrow k w)) v)).1 l, (tellS j m (addR ((rFind k w l).getD (nrow k w)) v)).2)
def tchR (k : Int) (w : WinT) (r : RowT) : Bool := decide (r.key = k ∧ (r.win.s < w.e ∧ w.s < r.win.e))
def spanL (w : WinT) (l : List RowT) : WinT := l.foldl (fun s r => winSpan s r.win) w
def goneP (r : RowT) : PaneT := ⟨r.key, r.win, r.told, 3, zAgg⟩
def goneL (l : List RowT) : List PaneT := (l.filter fun r => decide (0 < r.told)).map goneP
def oneB (w : WinT) : List RowT → Bool
  | [o] => decide (o.win.s = w.s ∧ o.win.e = w.e)
  | _ => false
def oldL (k : Int) (w : WinT) (l : List RowT) : List RowT := l.filter (tchR k w)
def restL (k : Int) (w : WinT) (l : List RowT) : List RowT := l.filter fun r => !tchR k w r
/-- A value put into a session. -/
def sessL (j : JobT) (m : Int) (k v : Int) (w : WinT) (l : List RowT) : Option (List RowT × List PaneT) :=
  if w64 ((spanL w (oldL k w l)).e + j.late) ≤ m then none
  else if oneB (spanL w (oldL k w l)) (oldL k w l) = true then intoL j m k v (spanL w (oldL k w l)) l
  else some (rPut (tellS j m ⟨k, spanL w (oldL k w l), ((oldL k w l).map (·.all)).foldl aggB (agg1 v), ((oldL k w l).map (·.all)).foldl aggB (agg1 v), 0, false⟩).1 (restL k w l),
    goneL (oldL k w l) ++ (tellS j m ⟨k, spanL w (oldL k w l), ((oldL k w l).map (·.all)).foldl aggB (agg1 v), ((oldL k w l).map (·.all)).foldl aggB (agg1 v), 0, false⟩).2)
def stepT (j : JobT) (m : Int) (x : ItmT) (w : WinT) (l : List RowT) : Option (List RowT × List PaneT) := if j.kind = 3 then sessL j m x.key x.v w l else intoL j m x.key x.v w l
def takeS (j : JobT) (m : Int) (x : ItmT) (a : List RowT × List PaneT × List LatT) (w : WinT) : List RowT × List PaneT × List LatT :=
  match stepT j m x w a.1 with
  | some q => (q.1, a.2.1 ++ q.2, a.2.2)
  | none => (a.1, a.2.1, a.2.2 ++ [⟨x, w⟩])
def takeL (j : JobT) (m : Int) (x : ItmT) (ws : List WinT) (l : List RowT) : List RowT × List PaneT × List LatT := ws.foldl (takeS j m x) (l, [], [])
def rowsL (s : OpStT) : List RowT := (List.range s.rows.n).map s.rows.g
/-- What OpTake answers: the mark, the rows, what is told, and what came too late. -/
noncomputable def opTakeL (j : JobT) (s : OpStT) (x : ItmT) : Int × List RowT × List PaneT × List LatT :=
  open Classical in
  if OpOkP j s ∧ RecP x ∧ s.rows.n ≤ 280 then (s.mark, takeL j s.mark x (winsL j x.t) (rowsL s)) else (0, [], [], [])

theorem ra_tr {a b c : RowT} (h : RA a b) (h' : RA b c) : RA a c := by unfold RA AheadP WinLt at *; omega
theorem ra_as {a b : RowT} (h : RA a b) : ¬ RA b a := by unfold RA AheadP WinLt at *; omega
theorem ra_tot {r q : RowT} (h : ¬ RA q r) (h' : ¬ IsR r.key r.win q) : RA r q := by unfold RA AheadP WinLt at *; unfold IsR at h'; omega
theorem ra_ne {k : Int} {w : WinT} {r q : RowT} (h : RA r q) (hr : IsR k w r) : ¬ IsR k w q := by unfold RA AheadP WinLt at h; unfold IsR at *; omega
theorem ra_l {k : Int} {w : WinT} {r r' q : RowT} (hr : IsR k w r) (hr' : IsR k w r') (h : RA r q) : RA r' q := by
  unfold RA AheadP WinLt at *; unfold IsR at *; omega
theorem ra_r {k : Int} {w : WinT} {r r' q : RowT} (hr : IsR k w r) (hr' : IsR k w r') (h : RA q r) : RA q r' := by
  unfold RA AheadP WinLt at *; unfold IsR at *; omega
abbrev RiseR (l : List RowT) : Prop := l.Pairwise RA
theorem rOut_none {k : Int} {w : WinT} {l : List RowT} (h : ∀ q, q ∈ l → ¬ IsR k w q) : rOut k w l = l := by
  unfold rOut
  rw [List.filter_eq_self]
  intro q hq
  simp [h q hq]
theorem mem_rOut {k : Int} {w : WinT} {l : List RowT} {q : RowT} : q ∈ rOut k w l ↔ q ∈ l ∧ ¬ IsR k w q := by
  unfold rOut; rw [List.mem_filter]; simp
theorem mem_rIns {r x : RowT} : ∀ {l : List RowT}, x ∈ rIns r l ↔ x = r ∨ x ∈ l
  | [] => by simp [rIns]
  | q :: l => by
    show x ∈ (if RA r q then r :: q :: l else q :: rIns r l) ↔ _
    split
    · simp
    · rw [List.mem_cons, mem_rIns, List.mem_cons]
      exact ⟨fun h => h.elim (fun e => .inr (.inl e)) (fun h => h.imp id .inr), fun h => h.elim (fun e => .inr (.inl e)) (fun h => h.elim .inl fun h => .inr (.inr h))⟩
theorem mem_rPut {r x : RowT} {l : List RowT} : x ∈ rPut r l ↔ x = r ∨ (x ∈ l ∧ ¬ IsR r.key r.win x) := by
  unfold rPut; rw [mem_rIns, mem_rOut]
theorem rIns_len (r : RowT) : ∀ l, (rIns r l).length = l.length + 1
  | [] => rfl
  | q :: l => by
    have := rIns_len r l
    show (if RA r q then r :: q :: l else q :: rIns r l).length = _
    split <;> simp <;> omega
theorem rPut_len (r : RowT) (l : List RowT) : (rPut r l).length ≤ l.length + 1 := by
  unfold rPut rOut
  rw [rIns_len]
  have := List.length_filter_le (fun q => !decide (IsR r.key r.win q)) l
  omega
theorem rise_rIns {r : RowT} : ∀ {l : List RowT}, RiseR l → (∀ q, q ∈ l → ¬ IsR r.key r.win q) → RiseR (rIns r l)
  | [], _, _ => by simp [rIns, RiseR]
  | q :: l, h, hn => by
    have h' := h
    rw [RiseR, List.pairwise_cons] at h
    show RiseR (if RA r q then r :: q :: l else q :: rIns r l)
    split
    · rename_i ha
      rw [RiseR, List.pairwise_cons]
      refine ⟨fun x hx => ?_, h'⟩
      rcases List.mem_cons.1 hx with rfl | hx
      · exact ha
      · exact ra_tr ha (h.1 x hx)
    · rename_i ha
      rw [RiseR, List.pairwise_cons]
      refine ⟨fun x hx => ?_, rise_rIns h.2 fun y hy => hn y (List.mem_cons_of_mem _ hy)⟩
      rcases mem_rIns.1 hx with rfl | hx
      · have h1 := hn q (by simp)
        unfold RA AheadP WinLt at *; unfold IsR at h1; omega
      · exact h.1 x hx
theorem rise_rOut {k : Int} {w : WinT} {l : List RowT} (h : RiseR l) : RiseR (rOut k w l) := List.Pairwise.filter _ h
theorem rise_rPut {r : RowT} {l : List RowT} (h : RiseR l) : RiseR (rPut r l) := rise_rIns (rise_rOut h) fun q hq => (mem_rOut.1 hq).2
theorem rPut_set {k : Int} {w : WinT} {r : RowT} (hr : IsR k w r) : ∀ {l : List RowT} {i : Nat} {q : RowT}, RiseR l → l[i]? = some q → IsR k w q → rPut r l = l.set i r
  | [], _, _, _, h, _ => by simp at h
  | q0 :: l, 0, q, hs, h, hq => by
    simp at h; subst h
    rw [RiseR, List.pairwise_cons] at hs
    have hk : IsR r.key r.win q0 := by unfold IsR at *; omega
    have hno : ∀ x, x ∈ l → ¬ IsR r.key r.win x := fun x hx => ra_ne (hs.1 x hx) hk
    have e : rOut r.key r.win (q0 :: l) = l := by
      unfold rOut
      rw [List.filter_cons, if_neg (by simp [hk])]
      exact rOut_none hno
    unfold rPut
    rw [e]
    cases l with
    | nil => rfl
    | cons x l =>
      show (if RA r x then r :: x :: l else x :: rIns r l) = _
      rw [if_pos (ra_l hq hr (hs.1 x (by simp)))]; rfl
  | q0 :: l, i + 1, q, hs, h, hq => by
    have hs' := hs
    rw [RiseR, List.pairwise_cons] at hs
    have hm : q ∈ l := List.mem_of_getElem? (by simpa using h)
    have ha : RA q0 q := hs.1 q hm
    have hn0 : ¬ IsR r.key r.win q0 := by
      intro h0
      refine ra_ne ha h0 ?_
      unfold IsR at *; omega
    have ih := rPut_set hr (l := l) (i := i) (q := q) hs.2 (by simpa using h) hq
    unfold rPut at ih ⊢
    have e : rOut r.key r.win (q0 :: l) = q0 :: rOut r.key r.win l := by
      unfold rOut
      rw [List.filter_cons, if_pos (by simp [hn0])]
    rw [e]
    show (if RA r q0 then _ else q0 :: rIns r (rOut r.key r.win l)) = _
    rw [if_neg (ra_as (ra_r hq hr ha)), ih]; rfl
theorem rIns_at {r : RowT} : ∀ {l : List RowT} {i : Nat}, (∀ t x, t < i → l[t]? = some x → ¬ RA r x) → (∀ x, l[i]? = some x → RA r x) → i ≤ l.length → rIns r l = l.take i ++ r :: l.drop i
  | [], i, _, _, h => by
    have : i = 0 := by simpa using h
    subst this; rfl
  | q :: l, 0, _, h2, _ => by
    show (if RA r q then r :: q :: l else q :: rIns r l) = _
    rw [if_pos (h2 q rfl)]; rfl
  | q :: l, i + 1, h1, h2, h3 => by
    show (if RA r q then r :: q :: l else q :: rIns r l) = _
    rw [if_neg (h1 0 q (by omega) rfl), rIns_at (l := l) (i := i) (fun t x ht hx => h1 (t + 1) x (by omega) (by simpa using hx)) (fun x hx => h2 x (by simpa using hx)) (by simpa using h3)]
    rfl
theorem lst_at {α : Type} {z : α} {l : List α} {n : Nat} {g : Nat → α} (h : Lst z l n g) {i : Nat} (hi : i < n) : l[i]? = some (g i) := by
  have hl : i < l.length := by rw [← h.1]; exact hi
  rw [h.2 i hi, List.getD_eq_getElem?_getD, List.getElem?_eq_getElem hl]; rfl
theorem lst_get {α : Type} {z : α} {l : List α} {n : Nat} {g : Nat → α} (h : Lst z l n g) {i : Nat} {x : α} (hx : l[i]? = some x) : i < n ∧ g i = x := by
  have hl : i < l.length := (List.getElem?_eq_some_iff.1 hx).1
  refine ⟨by rw [h.1]; exact hl, ?_⟩
  rw [h.2 i (by rw [h.1]; exact hl), List.getD_eq_getElem?_getD, hx]; rfl
theorem lst_gets {α : Type} {z : α} {l : List α} {n : Nat} {g : Nat → α} (hn : n = l.length) (h : ∀ k, k < n → l[k]? = some (g k)) : Lst z l n g :=
  ⟨hn, fun k hk => by rw [List.getD_eq_getElem?_getD, h k hk]; rfl⟩
/-- A row that is there is turned where it stands. -/
theorem rput_found {l : List RowT} {n : Nat} {R : Nat → RowT} (hL : Lst zRow l n R) (hs : RiseR l) {k : Int} {w : WinT} {i : Nat} (hi : i < n) (he : IsR k w (R i)) {r : RowT} (hr : IsR k w r) {R' : Nat → RowT} (hR : ∀ q, q < n → R' q = if q = i then r else R q) :
    Lst zRow (rPut r l) n R' := by
  rw [rPut_set hr hs (lst_at hL hi) he]
  refine lst_gets (by rw [List.length_set]; exact hL.1) fun q hq => ?_
  rw [hR q hq, List.getElem?_set]
  by_cases e : q = i
  · subst e
    rw [if_pos rfl, if_pos rfl, if_pos (by rw [← hL.1]; exact hq)]
  · rw [if_neg (fun h => e h.symm), if_neg e, lst_at hL hq]
/-- A row that is new is put in its place. -/
theorem rput_new {l : List RowT} {n : Nat} {R : Nat → RowT} (hL : Lst zRow l n R) {r : RowT} {i : Nat} (hi : i ≤ n) (h1 : ∀ q, q < i → RA (R q) r) (h2 : ∀ q, i ≤ q → q < n → ¬ RA (R q) r) (hn : ∀ q, q < n → ¬ IsR r.key r.win (R q))
    {R' : Nat → RowT} (hR : ∀ q, q < n + 1 → R' q = if q < i then R q else if q = i then r else R (q - 1)) : Lst zRow (rPut r l) (n + 1) R' := by
  have hm : ∀ q, q ∈ l → ¬ IsR r.key r.win q := fun q hq => by
    obtain ⟨t, ht, rfl⟩ := lst_mem hL hq
    exact hn t ht
  have hl : l.length = n := hL.1.symm
  unfold rPut
  rw [rOut_none hm, rIns_at (i := i) (fun t x ht hx => by
      obtain ⟨h, rfl⟩ := lst_get hL hx
      exact ra_as (h1 t ht)) (fun x hx => by
      obtain ⟨h, rfl⟩ := lst_get hL hx
      exact ra_tot (h2 i (Nat.le_refl _) h) (hn i h)) (by omega)]
  have htl : (l.take i).length = i := by rw [List.length_take]; omega
  refine lst_gets (by simp; omega) fun q hq => ?_
  rw [hR q hq]
  by_cases a : q < i
  · rw [if_pos a, List.getElem?_append_left (by omega), List.getElem?_take, if_pos a, lst_at hL (by omega)]
  · rw [if_neg a, List.getElem?_append_right (by omega), htl]
    by_cases b : q = i
    · rw [if_pos b, b, Nat.sub_self]; rfl
    · rw [if_neg b, show q - i = (q - 1 - i) + 1 by omega, List.getElem?_cons_succ, List.getElem?_drop, show i + (q - 1 - i) = q - 1 by omega, lst_at hL (by omega)]
theorem rfind_some {k : Int} {w : WinT} {i : Nat} {l : List RowT} {n : Nat} {R : Nat → RowT} (hL : Lst zRow l n R) (hi : i < n) (he : IsR k w (R i)) (hb : ∀ q, q < i → ¬ IsR k w (R q)) : rFind k w l = some (R i) := by
  unfold rFind
  rw [List.find?_eq_some_iff_getElem]
  refine ⟨by simp [he], i, by rw [← hL.1]; exact hi, ?_, fun q hq => ?_⟩
  · have := lst_at hL hi
    rw [List.getElem?_eq_getElem (by rw [← hL.1]; exact hi)] at this
    simpa using this
  · have := lst_at hL (show q < n by omega)
    rw [List.getElem?_eq_getElem (by rw [← hL.1]; omega)] at this
    simp at this
    simp [this, hb q hq]
theorem rfind_none {k : Int} {w : WinT} {l : List RowT} {n : Nat} {R : Nat → RowT} (hL : Lst zRow l n R) (hb : ∀ q, q < n → ¬ IsR k w (R q)) : rFind k w l = none := by
  unfold rFind
  rw [List.find?_eq_none]
  intro q hq
  obtain ⟨t, ht, rfl⟩ := lst_mem hL hq
  simp [hb t ht]
theorem isR_eq {k : Int} {w : WinT} {r : RowT} (h : IsR k w r) : r.key = k ∧ r.win = w := ⟨h.1, win_ext h.2.1 h.2.2⟩
theorem addR_is {k : Int} {w : WinT} {r : RowT} {v : Int} (h : IsR k w r) : IsR k w (addR r v) := h
theorem toldR_is {k : Int} {w : WinT} {r : RowT} (h : IsR k w r) : IsR k w (toldR r) := h
theorem tellS_is {k : Int} {w : WinT} {r : RowT} {j : JobT} {m : Int} (h : IsR k w r) : IsR k w (tellS j m r).1 := by
  unfold tellS; split <;> exact h
theorem nrow_is (k : Int) (w : WinT) : IsR k w (nrow k w) := ⟨rfl, rfl, rfl⟩
theorem getD_is {k : Int} {w : WinT} {l : List RowT} : IsR k w ((rFind k w l).getD (nrow k w)) := by
  cases h : rFind k w l with
  | none => exact nrow_is k w
  | some r =>
    unfold rFind at h
    have := List.find?_some h
    simpa using this
theorem rise_into {j : JobT} {m k v : Int} {w : WinT} {l : List RowT} {q : List RowT × List PaneT} (h : RiseR l) (he : intoL j m k v w l = some q) : RiseR q.1 := by
  unfold intoL at he
  split at he
  · cases he
  · cases he; exact rise_rPut h
theorem rise_sess {j : JobT} {m k v : Int} {w : WinT} {l : List RowT} {q : List RowT × List PaneT} (h : RiseR l) (he : sessL j m k v w l = some q) : RiseR q.1 := by
  unfold sessL at he
  split at he
  · cases he
  · split at he
    · exact rise_into h he
    · cases he; exact rise_rPut (List.Pairwise.filter _ h)
theorem rise_takeS {j : JobT} {m : Int} {x : ItmT} {a : List RowT × List PaneT × List LatT} {w : WinT} (h : RiseR a.1) : RiseR (takeS j m x a w).1 := by
  unfold takeS
  split
  · rename_i q hq
    unfold stepT at hq
    split at hq
    · exact rise_sess h hq
    · exact rise_into h hq
  · exact h
theorem into_len {j : JobT} {m k v : Int} {w : WinT} {l : List RowT} {q : List RowT × List PaneT} (he : intoL j m k v w l = some q) : q.1.length ≤ l.length + 1 ∧ q.2.length ≤ 1 := by
  unfold intoL at he
  split at he
  · cases he
  · cases he
    refine ⟨rPut_len _ _, ?_⟩
    unfold tellS; split <;> simp
theorem gone_len (l : List RowT) : (goneL l).length ≤ l.length := by unfold goneL; rw [List.length_map]; exact List.length_filter_le _ _
theorem sess_len {j : JobT} {m k v : Int} {w : WinT} {l : List RowT} {q : List RowT × List PaneT} (he : sessL j m k v w l = some q) : q.1.length ≤ l.length + 1 ∧ q.2.length ≤ l.length + 1 := by
  unfold sessL at he
  split at he
  · cases he
  · split at he
    · obtain ⟨h1, h2⟩ := into_len he
      exact ⟨h1, by omega⟩
    · cases he
      have h1 := List.length_filter_le (fun r => !tchR k w r) l
      have h2 := gone_len (oldL k w l)
      have h3 : (oldL k w l).length ≤ l.length := List.length_filter_le _ _
      refine ⟨Nat.le_trans (rPut_len _ _) (Nat.succ_le_succ h1), ?_⟩
      show (goneL (oldL k w l) ++ _).length ≤ _
      rw [List.length_append]
      have : ∀ r, (tellS j m r).2.length ≤ 1 := fun r => by unfold tellS; split <;> simp
      have := this ⟨k, spanL w (oldL k w l), ((oldL k w l).map (·.all)).foldl aggB (agg1 v), ((oldL k w l).map (·.all)).foldl aggB (agg1 v), 0, false⟩
      omega
theorem takeS_len {j : JobT} {m : Int} {x : ItmT} {a : List RowT × List PaneT × List LatT} {w : WinT} : (takeS j m x a w).1.length ≤ a.1.length + 1 ∧ (takeS j m x a w).2.1.length ≤ a.2.1.length + a.1.length + 1 ∧ (takeS j m x a w).2.2.length ≤ a.2.2.length + 1 := by
  unfold takeS
  split
  · rename_i q hq
    unfold stepT at hq
    rw [List.length_append]
    split at hq
    · have := sess_len hq; refine ⟨by first | omega | (dsimp only; omega), by first | omega | (dsimp only; omega), by first | omega | (dsimp only; omega)⟩
    · have := into_len hq; refine ⟨by first | omega | (dsimp only; omega), by first | omega | (dsimp only; omega), by first | omega | (dsimp only; omega)⟩
  · rw [List.length_append]
    refine ⟨by first | omega | (dsimp only; omega), by first | omega | (dsimp only; omega), by simp⟩
theorem takeL_snoc (j : JobT) (m : Int) (x : ItmT) (ws : List WinT) (w : WinT) (l : List RowT) : takeL j m x (ws ++ [w]) l = takeS j m x (takeL j m x ws l) w := by
  unfold takeL; rw [List.foldl_append]; rfl
theorem snocInd {α : Type} {P : List α → Prop} (h0 : P []) (h1 : ∀ l x, P l → P (l ++ [x])) : ∀ l, P l := by
  intro l
  rw [← List.reverse_reverse l]
  induction l.reverse with
  | nil => exact h0
  | cons x r ih => rw [List.reverse_cons]; exact h1 _ _ ih
theorem rise_takeL {j : JobT} {m : Int} {x : ItmT} {l : List RowT} (h : RiseR l) : ∀ (ws : List WinT) , RiseR (takeL j m x ws l).1 := by
  refine snocInd h fun ws w ih => ?_
  rw [takeL_snoc]; exact rise_takeS ih
theorem takeL_len {j : JobT} {m : Int} {x : ItmT} {l : List RowT} : ∀ (ws : List WinT), (takeL j m x ws l).1.length ≤ l.length + ws.length ∧ (takeL j m x ws l).2.1.length ≤ ws.length * (l.length + ws.length + 1) ∧ (takeL j m x ws l).2.2.length ≤ ws.length := by
  refine snocInd (by simp [takeL]) fun ws w ih => ?_
  · rw [takeL_snoc]
    have := takeS_len (j := j) (m := m) (x := x) (a := takeL j m x ws l) (w := w)
    obtain ⟨h1, h2, h3⟩ := ih
    obtain ⟨g1, g2, g3⟩ := this
    refine ⟨by simp; omega, ?_, by simp; omega⟩
    have e : (ws ++ [w]).length = ws.length + 1 := by simp
    rw [e, Nat.succ_mul]
    have : ws.length * (l.length + ws.length + 1) ≤ ws.length * (l.length + (ws.length + 1) + 1) := Nat.mul_le_mul_left _ (by omega)
    omega
end Go.Rk
/- What is known of sessions that become one, in either order. -/
namespace Go.Rk
set_option linter.unusedSimpArgs false
set_option linter.unusedVariables false
theorem aggB_rc {a b c : AggT} (ha : 0 ≤ a.n ∧ a.n ≤ 1000000000) (hb : 1 ≤ b.n ∧ b.n ≤ 1000) (hc : 1 ≤ c.n ∧ c.n ≤ 1000) : aggB (aggB a b) c = aggB (aggB a c) b := by
  obtain ⟨an, az, al, am⟩ := a
  obtain ⟨bn, bs, bl, bm⟩ := b
  obtain ⟨cn, cs, cl, cm⟩ := c
  simp only at ha hb hc
  unfold aggB
  by_cases h : an = 0
  · simp only [if_pos h]
    rw [if_neg (show ¬ bn = 0 by omega), if_neg (show ¬ cn = 0 by omega), if_neg (show ¬ cn = 0 by omega), if_neg (show ¬ bn = 0 by omega)]
    refine AggT.mk.injEq .. ▸ ⟨?_, ?_, ?_, ?_⟩
    · rw [Int.add_comm]
    · rw [Int.add_comm]
    · split <;> split <;> omega
    · split <;> split <;> omega
  · have e1 : w64 (an + bn) = an + bn := w64_in _ (by omega)
    have e2 : w64 (an + cn) = an + cn := w64_in _ (by omega)
    simp only [if_neg h, if_neg (show ¬ bn = 0 by omega), if_neg (show ¬ cn = 0 by omega), e1, e2, if_neg (show ¬ an + bn = 0 by omega), if_neg (show ¬ an + cn = 0 by omega)]
    refine AggT.mk.injEq .. ▸ ⟨?_, ?_, ?_, ?_⟩
    · rw [show an + bn + cn = an + cn + bn by omega]
    · unfold w64; simp only [IntKind.wrap_i64]; omega
    · split <;> split <;> (try split) <;> (try split) <;> omega
    · split <;> split <;> (try split) <;> (try split) <;> omega
theorem aggB_n {a b : AggT} (ha : 0 ≤ a.n ∧ a.n ≤ 1000000000) (hb : 1 ≤ b.n ∧ b.n ≤ 1000) : 1 ≤ (aggB a b).n ∧ (aggB a b).n ≤ a.n + 1000 := by
  unfold aggB
  by_cases h : a.n = 0
  · rw [if_pos h]; omega
  · rw [if_neg h, if_neg (by omega)]
    show 1 ≤ w64 (a.n + b.n) ∧ w64 (a.n + b.n) ≤ _
    rw [w64_in _ (by omega)]; omega
theorem fold_rc (c : AggT) (hc : 1 ≤ c.n ∧ c.n ≤ 1000) : ∀ (L : List AggT) (a : AggT), 0 ≤ a.n → a.n + 1000 * (L.length : Int) ≤ 1000000000 → (∀ b, b ∈ L → 1 ≤ b.n ∧ b.n ≤ 1000) → aggB (L.foldl aggB a) c = L.foldl aggB (aggB a c)
  | [], _, _, _, _ => rfl
  | b :: L, a, h1, h2, hb => by
    have hb0 := hb b (by simp)
    simp only [List.length_cons, Int.natCast_add, Int.natCast_one] at h2
    have hn := aggB_n (a := a) (b := b) ⟨h1, by omega⟩ hb0
    rw [List.foldl_cons, List.foldl_cons, fold_rc c hc L _ (by omega) (by omega) fun x hx => hb x (List.mem_cons_of_mem _ hx), aggB_rc ⟨h1, by omega⟩ hb0 hc]
theorem fold_last {L : List AggT} {v : Int} (hl : L.length ≤ 1000) (hb : ∀ b, b ∈ L → 1 ≤ b.n ∧ b.n ≤ 1000) : aggAdd (L.foldl aggB zAgg) v = L.foldl aggB (agg1 v) := by
  unfold aggAdd
  rw [fold_rc (agg1 v) ⟨Int.le_refl _, (by show (1 : Int) ≤ 1000; decide)⟩ L zAgg (by decide) (by show (0 : Int) + _ ≤ _; omega) hb, aggB_z]
/-- A session grows to the beginning and the end of what it touches. -/
theorem span_in (w : WinT) : ∀ (l : List RowT) (u : WinT), (u.s ≤ w.s ∧ w.e ≤ u.e) → (spanL u l).s ≤ w.s ∧ w.e ≤ (spanL u l).e
  | [], _, h => h
  | r :: l, u, h => by
    unfold spanL
    rw [List.foldl_cons]
    refine span_in w l (winSpan u r.win) ?_
    unfold winSpan
    constructor <;> simp only <;> split <;> omega
theorem spanL_app (w : WinT) (l : List RowT) (r : RowT) : spanL w (l ++ [r]) = winSpan (spanL w l) r.win := by unfold spanL; rw [List.foldl_append]; rfl
/-- What stays has not the window of what was put together. -/
theorem rest_no {k : Int} {w : WinT} {l : List RowT} (hw : w.s < w.e) {q : RowT} (hq : q ∈ restL k w l) : ¬ IsR k (spanL w (oldL k w l)) q := by
  intro h
  have hs := span_in w (oldL k w l) w ⟨Int.le_refl _, Int.le_refl _⟩
  unfold restL at hq
  rw [List.mem_filter] at hq
  have h2 := hq.2
  unfold tchR at h2
  simp only [Bool.not_eq_true', decide_eq_false_iff_not] at h2
  unfold IsR at h
  omega
end Go.Rk
/- Small things that a record needs. -/
namespace Go.Rk
set_option linter.unusedSimpArgs false
set_option linter.unusedVariables false
open Go.Proofs
set_option maxRecDepth 100000
set_option maxHeartbeats 1000000
set_option maxRecDepth 100000 in
theorem c_isRec (kind t key v n : Int) : ∃ b, b = decide (kind = 1 ∧ (0 ≤ t ∧ t ≤ 60) ∧ (0 ≤ key ∧ key ≤ 3) ∧ (-9 ≤ v ∧ v ≤ 9) ∧ n = 0) ∧ Meets Try.prog 87 [.agg [.d (eI kind), .d (eI t), .d (eI key), .d (eI v), .d (eI n)]] ⟨.one (.c (.d (eB b))), [none]⟩ := by
  obtain ⟨b, hb⟩ : ∃ b, b = decide (kind = 1 ∧ (0 ≤ t ∧ t ≤ 60) ∧ (0 ≤ key ∧ key ≤ 3) ∧ (-9 ≤ v ∧ v ≤ 9) ∧ n = 0) := ⟨_, rfl⟩
  refine ⟨b, hb, ?_⟩
  refine meets_of (H := []) (EX := EXA) ttok mixed Try.func87 rfl (by kernel_rfl) (by decide) ?_
  generalize hA : real = A
  generalize hM : MeetsB Try.prog = M
  cbv
  repeat' first
    | apply And.intro
    | exact True.intro
    | with_reducible rfl
    | exact same_of hA rfl
    | refine br_of hA (fun _ => ?_) (fun _ => ?_)
    | exact imp_of hA id
    | (refine imp_of hA ?_; subst hA; simp only [real, Bool.true_and]; exact id)
    | (refine ind_of hA ?_; decide +kernel)
    | (refine call_ex hA hM (c_ItmOk _ _ _ _ _) (fun _ _ => ?_); cbv)
  all_goals subst hA
  all_goals refine congrArg (fun b => XA.one (.c (.d (eB b)))) (Bool.eq_iff_iff.2 ?_)
  all_goals subst_vars
  all_goals try simp only [real, bifA, bifB, bifC, bifD, decide_eq_true_eq, decide_eq_false_iff_not, beq_iff_eq, bne_iff_ne, beq_eq_false_iff_ne, bne_eq_false_iff_eq, ne_eq, Bool.and_eq_true, Bool.or_eq_true, Bool.not_eq_true', Bool.not_eq_false', Bool.and_eq_false_iff, Bool.or_eq_false_iff, Bool.false_eq_true, and_false, false_and, or_false, false_or, and_true, true_and, not_true_eq_false, not_false_eq_true, true_iff, false_iff, IntKind.wrap_i64] at *
  all_goals first
    | omega
    | skip
theorem c_isRecP (x : ItmT) : ∃ b, (b = true ↔ RecP x) ∧ Meets Try.prog 87 [xd (eItm x)] ⟨.one (.c (.d (eB b))), [none]⟩ := by
  obtain ⟨b, hb, hm⟩ := c_isRec x.kind x.t x.key x.v x.n
  refine ⟨b, ?_, hm⟩
  rw [hb, decide_eq_true_eq]
  unfold RecP ItmOkP
  omega
theorem c_crowded (mk : Int) (n : Nat) (hn : n ≤ 1080000) (g : Nat → RowT) : ∃ b, (b = true ↔ 280 < n) ∧ Meets Try.prog 104 [.agg [.d (eI mk), .d (.sl 13 n fun i => eRow (g i))]] ⟨.one (.c (.d (eB b))), [none]⟩ := by
  obtain ⟨b, hb⟩ : ∃ b, b = decide (280 < n) := ⟨_, rfl⟩
  refine ⟨b, by rw [hb, decide_eq_true_eq], ?_⟩
  refine meets_of (H := []) (EX := EXA) ttok mixed Try.func104 rfl (by kernel_rfl) (by decide) ?_
  generalize hA : real = A
  generalize hM : MeetsB Try.prog = M
  cbv
  repeat' first
    | apply And.intro
    | exact True.intro
    | with_reducible rfl
    | exact same_of hA rfl
    | refine br_of hA (fun _ => ?_) (fun _ => ?_)
    | exact imp_of hA id
    | (refine imp_of hA ?_; subst hA; simp only [real, Bool.true_and]; exact id)
    | (refine ind_of hA ?_; decide +kernel)
  all_goals subst hA
  refine congrArg (fun b => XA.one (.c (.d (eB b)))) ?_
  rw [hb]
  show decide ((280 : Int) < (n : Int)) = decide (280 < n)
  exact decide_eq_decide.2 (by omega)
open Classical in
set_option maxRecDepth 100000 in
theorem c_find1 (r : RowT) (key : Int) (w : WinT) : ∃ b, (b = true ↔ IsR key w r) ∧ Meets Try.prog 125 [xd (eRow r), .c (.d (.p [eI key])), .c (.d (.p (eWin w)))] ⟨.one (.c (.d (eB b))), [none, none, none]⟩ := by
  obtain ⟨b, hb⟩ : ∃ b, b = decide (IsR key w r) := ⟨_, rfl⟩
  refine ⟨b, by rw [hb, decide_eq_true_eq], ?_⟩
  refine meets_of (H := []) (EX := EXA) ttok mixed Try.func125 rfl (by kernel_rfl) (by decide) ?_
  generalize hA : real = A
  generalize hM : MeetsB Try.prog = M
  cbv
  repeat' first
    | apply And.intro
    | exact True.intro
    | with_reducible rfl
    | exact same_of hA rfl
    | refine br_of hA (fun _ => ?_) (fun _ => ?_)
    | exact imp_of hA id
    | (refine imp_of hA ?_; subst hA; simp only [real, Bool.true_and]; exact id)
    | (refine ind_of hA ?_; decide +kernel)
  all_goals obtain ⟨k, ⟨s, e⟩, ⟨x1, x2, x3, x4⟩, ⟨x5, x6, x7, x8⟩, x9, x10⟩ := r; obtain ⟨s2, e2⟩ := w
  all_goals subst hA
  all_goals refine congrArg (fun b => XA.one (.c (.d (eB b)))) (Bool.eq_iff_iff.2 ?_)
  all_goals subst_vars
  all_goals simp only [real, bifA, bifB, bifC, bifD, beqB, decide_eq_true_eq, decide_eq_false_iff_not, beqI, bneI, beqIF, bneIF, ne_eq, Bool.and_eq_true, Bool.or_eq_true, Bool.not_eq_true', Bool.not_eq_false', Bool.and_eq_false_iff, Bool.or_eq_false_iff, Bool.false_eq_true, and_false, false_and, or_false, false_or, and_true, true_and, not_true_eq_false, not_false_eq_true, true_iff, false_iff, IntKind.wrap_i64, IsR, WinOkP, AggOkP] at *
  all_goals first | omega | exact decide_eq_true_iff.symm
theorem c_find (mk : Int) (n : Nat) (hn : n ≤ 1080000) (g : Nat → RowT) (key : Int) (w : WinT) : ∃ x, FirstIx n (fun i => IsR key w (g i)) x ∧ Meets Try.prog 75 [.agg [.d (eI mk), .d (.sl 13 n fun i => eRow (g i))], .c (.d (eI key)), xd (eWin w)] ⟨.one (.c (.d (eI x))), [none, none, none]⟩ := by
  obtain ⟨x, hx, cI⟩ := c_IndexRow2 n (Nat.le_trans hn (by decide)) g 125 (.p [eI key]) (.p (eWin w)) (fun r => IsR key w r) (fun r => c_find1 r key w)
  refine ⟨x, hx, ?_⟩
  refine meets_of (H := []) (EX := EXA) ttok mixed Try.func75 rfl (by kernel_rfl) (by decide) ?_
  generalize hA : real = A
  generalize hM : MeetsB Try.prog = M
  cbv
  repeat' first
    | apply And.intro
    | exact True.intro
    | with_reducible rfl
    | exact same_of hA rfl
    | refine br_of hA (fun _ => ?_) (fun _ => ?_)
    | exact imp_of hA id
    | (refine imp_of hA ?_; subst hA; simp only [real, Bool.true_and]; exact id)
    | (refine ind_of hA ?_; decide +kernel)
    | (refine call_of hA hM _ cI ?_; cbv)
def st_bs (n : Nat) (g : Nat → RowT) (r : RowT) (a b : Nat) : St := ⟨[(9, .c (.d (eI a))), (10, .c (.d (eI b))), (8, .c (.d (eI n))), (0, .c (.d (.sl 13 n fun i => eRow (g i)))), (2, .c (.d (.fn 99 []))), (4, .c (.bp 256 1 0))], [(256, 1, .box ((eRow r).map .d))]⟩
theorem half_eq {A : Ar} (hA : real = A) {a b : Nat} (h : a + b ≤ 4000000) : A.wrap .i64 (A.ar .shr .u64 (A.wrap .u64 (A.ar .add .i64 (Int.ofNat a) (Int.ofNat b))) 1) = (((a + b) / 2 : Nat) : Int) := by
  subst hA
  show IntKind.i64.wrap (Int.fdiv (IntKind.u64.wrap (IntKind.i64.wrap ((a : Int) + (b : Int)))) (2 ^ min (Int.toNat 1) 64)) = _
  have e1 : IntKind.i64.wrap ((a : Int) + (b : Int)) = ((a + b : Nat) : Int) := by rw [IntWalk.i64_in _ (by omega)]; omega
  have e2 : IntKind.u64.wrap ((a + b : Nat) : Int) = ((a + b : Nat) : Int) := by simp only [IntKind.wrap_u64]; omega
  rw [e1, e2]
  have e3 : Int.fdiv ((a + b : Nat) : Int) (2 ^ min (Int.toNat 1) 64) = (((a + b) / 2 : Nat) : Int) := by
    show Int.fdiv ((a + b : Nat) : Int) 2 = _
    rw [Int.fdiv_eq_ediv_of_nonneg _ (by decide)]
    omega
  rw [e3, IntWalk.i64_in _ (by omega)]
theorem c_Half (n : Nat) (hn : n ≤ 1080000) (g : Nat → RowT) (r : RowT) (i : Nat) (hi : i ≤ n) (h1 : ∀ q, q < i → RA (g q) r) (h2 : ∀ q, i ≤ q → q < n → ¬ RA (g q) r) : ∃ b : Bool, True ∧ Meets Try.prog 155 [.c (.d (.sl 13 n fun i => eRow (g i))), xd (eRow r), .c (.d (.fn 99 []))] ⟨.tup [.c (.d (eI i)), .c (.d (eB b))], [none, none, none]⟩ := by
  have hc : ∀ q, ∃ x : Int, (x < 0 ↔ RA (g q) r) ∧ Meets Try.prog 99 [xd (eRow (g q)), xd (eRow r)] ⟨.one (.c (.d (eI x))), [none, none]⟩ := fun q => c_rcmpA (g q) r
  obtain ⟨X, hX⟩ : ∃ X : Nat → Int, ∀ q, (X q < 0 ↔ RA (g q) r) ∧ Meets Try.prog 99 [xd (eRow (g q)), xd (eRow r)] ⟨.one (.c (.d (eI (X q)))), [none, none]⟩ := ⟨fun q => Classical.choose (hc q), fun q => Classical.choose_spec (hc q)⟩
  clear hc
  obtain ⟨b, hb⟩ : ∃ b, b = real.bite (real.cmp .lss (Int.ofNat i) (Int.ofNat n)) (real.cmp .eql (X i) 0) false := ⟨_, rfl⟩
  refine ⟨b, trivial, ?_⟩
  refine meets_of (H := []) (EX := EXA) ttok mixed Try.func155 rfl (by kernel_rfl) (by decide) ?_
  generalize hA : real = A
  generalize hM : MeetsB Try.prog = M
  cbv
  repeat' first
    | apply And.intro
    | exact True.intro
    | with_reducible rfl
    | exact same_of hA rfl
    | refine br_of hA (fun _ => ?_) (fun _ => ?_)
    | exact imp_of hA id
    | (refine imp_of hA ?_; subst hA; simp only [real, Bool.true_and]; exact id)
    | (refine ind_of hA ?_; decide +kernel)
  refine loop_of hA (α := { q : Nat × Nat // q.1 ≤ i ∧ i ≤ q.2 ∧ q.2 ≤ n }) (fun y => st_bs n g r y.1.1 y.1.2) (fun y => y.1.2 - y.1.1) ⟨(0, n), Nat.zero_le _, hi, Nat.le_refl _⟩ ?_ ?_
  · refine cov_of ?_ ?_ ?_
    · cbv; try (subst hA; repeat' first | apply And.intro | exact True.intro | rfl | fail)
    · cbv; try (subst hA; repeat' first | apply And.intro | exact True.intro | rfl | (intro _ _; rfl) | (intro k hk; exact absurd hk (Nat.not_lt_zero k)) | fail)
    · cbv; try (subst hA; repeat' first | apply And.intro | exact True.intro | rfl | exact .inr trivial | exact .inl trivial)
  rintro ⟨⟨a, e⟩, ha, he, hen⟩
  have ha : a ≤ i := ha
  have he : i ≤ e := he
  have hen : e ≤ n := hen
  obtain ⟨m, hm⟩ : ∃ m, m = (a + e) / 2 := ⟨_, rfl⟩
  have hH := half_eq hA (a := a) (b := e) (by omega)
  rw [← hm] at hH
  have hnat : A.nat (A.wrap .i64 (A.ar .shr .u64 (A.wrap .u64 (A.ar .add .i64 (Int.ofNat a) (Int.ofNat e))) 1)) = m := by rw [hH]; subst hA; exact Int.toNat_natCast _
  have hin : ∀ z : Int, a < e → z = (m : Int) → 0 ≤ z ∧ z < n := fun z h e => by omega
  cbv
  repeat' first
    | apply And.intro
    | exact True.intro
    | with_reducible rfl
    | exact same_of hA rfl
    | refine br_of hA (fun _ => ?_) (fun _ => ?_)
    | exact imp_of hA id
    | (refine imp_of hA ?_; subst hA; simp only [real, Bool.true_and]; exact id)
    | (refine ind_of hA ?_; decide +kernel)
    | (refine call_of hA hM _ ((hX _).2) ?_; cbv)
    | (refine inb_of hA fun h => ?_; have h9 := lt2_of hA h; exact ⟨Int.natCast_nonneg _, Int.ofNat_lt.2 h9⟩)
    | (refine inb_of hA fun h0 => ?_; rename_i hlt; have h9 := lt2_of hA hlt; exact hin _ h9 hH)
  · rename_i hlt hneg
    have hlt' : a < e := lt2_of hA hlt
    have hx := (hX m).1
    have hneg :  X m < 0 := by rw [← hnat]; subst hA; exact of_decide_eq_true hneg
    have hmi : m < i := by
      have := hx.1 hneg
      have h3 := h2 m
      refine Nat.lt_of_not_le fun hc => h3 hc (by omega) this
    refine ⟨⟨(m + 1, e), by dsimp only; omega, by dsimp only; omega, by dsimp only; omega⟩, by dsimp only; omega, cov_of ?_ ?_ ?_⟩
    · cbv
      refine ⟨congrArg (fun z => DV.v (.int .i64 z)) ?_, ?_⟩
      · have e2 := hH; subst hA; refine (congrArg (fun z => IntKind.i64.wrap (z + 1)) e2).trans ?_; exact up64 hmi (Nat.le_trans hi (Nat.le_trans hn (by decide)))
      · subst hA; repeat' first | apply And.intro | exact True.intro | rfl
    · cbv; try (subst hA; repeat' first | apply And.intro | exact True.intro | rfl | (intro _ _; rfl))
    · cbv; try (subst hA; repeat' first | apply And.intro | exact True.intro | rfl | exact .inr trivial | exact .inl trivial)
  · rename_i hlt hneg
    have hlt' : a < e := lt2_of hA hlt
    have hx := (hX m).1
    have hneg : ¬ X m < 0 := by rw [← hnat]; subst hA; exact of_decide_eq_false hneg
    have hmi : i ≤ m := by
      have h3 := h1 m
      exact Nat.le_of_not_lt fun hc => hneg (hx.2 (h3 hc))
    refine ⟨⟨(a, m), by dsimp only; omega, by dsimp only; omega, by dsimp only; omega⟩, by dsimp only; omega, cov_of ?_ ?_ ?_⟩
    · cbv
      (repeat' first | apply And.intro | exact True.intro | exact congrArg (fun z => DV.v (.int .i64 z)) hH | rfl)
    · cbv; try (subst hA; repeat' first | apply And.intro | exact True.intro | rfl | (intro _ _; rfl))
    · cbv; try (subst hA; repeat' first | apply And.intro | exact True.intro | rfl | exact .inr trivial | exact .inl trivial)
  rename_i hge
  have hai : a = i := by have := ge2_of hA hge; omega
  subst hai
  subst hA
  rw [hb]
  rfl
end Go.Rk
/- A worker's methods. -/
namespace Go.Rk
set_option linter.unusedSimpArgs false
set_option linter.unusedVariables false
open Go.Proofs
set_option maxRecDepth 100000
set_option maxHeartbeats 1000000
def EXTf : FuncId → List Nat × Bool := fun f => bif nbeq f 1 then ([6000], false) else ([], false)
theorem k_tellf (j : JobT) (mk : Int) (n : Nat) (R : Nat → RowT) (c : Nat) (hc : c ≤ 1080000) (P : Nat → PaneT) (d : Nat) (hd : d ≤ 1080000) (Q : Nat → LatT) (pv : Nat) (q : Nat) (hq : q < n) (kind : Int) (R' : Nat → RowT) (hR' : ∀ i, i < n → R' i = if i = q then toldR (R q) else R i) (P' : Nat → PaneT) (hP' : ∀ i, i < c + 1 → P' i = if i < c then P i else paneP j.piece (R q) kind) : MeetsO Try.prog 65 [.c (.bp 1920 1 0), .c (.op 1793 1 q 0), .c (.d (eI kind))]
    [(1920, 1, .box [.d (eI j.srcs), .d (eI j.tsks), .d (eI j.kind), .d (eI j.size), .d (eI j.step), .d (eI j.late), .d (eI j.tell), .d (eB j.piece), .d (eI j.least), .d (eI j.room), .d (eI mk), .own 1793 0 n 1, .own 2001 0 c pv, .own 2002 0 d 1]), (1793, 1, .arr 13 n fun i => eRow (R i)), (2001, pv, .arr 9 c fun i => ePane (P i)), (2002, 1, .arr 7 d fun i => eLat (Q i))] (.tup [])
    [(1920, 1, .box [.d (eI j.srcs), .d (eI j.tsks), .d (eI j.kind), .d (eI j.size), .d (eI j.step), .d (eI j.late), .d (eI j.tell), .d (eB j.piece), .d (eI j.least), .d (eI j.room), .d (eI mk), .own 1793 0 n 1, .own 2001 0 (c + 1) (pv + 1), .own 2002 0 d 1]), (1793, 1, .arr 13 n fun i => eRow (R' i)), (2001, (pv + 1), .arr 9 (c + 1) fun i => ePane (P' i)), (2002, 1, .arr 7 d fun i => eLat (Q i)), (6384, 1, .dead), (8560, 1, .dead)] := by
  obtain ⟨K, hK⟩ : ∃ K, K = (paneP j.piece (R q) kind).agg := ⟨_, rfl⟩
  refine inl_ofH [999, 1, 3] (EX := EXTf) ttok mixed Try.func65 rfl (by kernel_rfl) (by decide) rfl rfl rfl rfl ?_
  generalize hA : real = A
  generalize hM : MeetsB Try.prog = M
  rcases A with ⟨a1, a2, a3, a4, a5, a6, a7, a8, a9, a10, a11, a12, a13, a14, a15, a16, a17, a18, a19, a20, a21, a22, up, a24, a25, a26, a27, a28, a29⟩
  have hup : ∀ (f : Nat → List DV) (q : Nat) (l : List DV), up f q l q = l := by
    have h : real.upd = up := congrArg Ar.upd hA
    intro f q l; rw [← h]; exact if_pos rfl
  cbv
  repeat' first
    | apply And.intro
    | exact True.intro
    | with_reducible rfl
    | exact same_of hA rfl
    | refine br_of hA (fun _ => ?_) (fun _ => ?_)
    | exact imp_of hA id
    | (refine imp_of hA ?_; subst hA; simp only [real, Bool.true_and]; exact id)
    | (refine ind_of hA ?_; decide +kernel)
  refine stop_ofG hA ⟨[(0, .c (.bp 1920 1 0)), (1, .c (.op 1793 1 q 0)), (2, .c (.d (eI kind))), (6, .c (.bp 6384 1 0))], [(1920, 1, .box [.d (eI j.srcs), .d (eI j.tsks), .d (eI j.kind), .d (eI j.size), .d (eI j.step), .d (eI j.late), .d (eI j.tell), .d (eB j.piece), .d (eI j.least), .d (eI j.room), .d (eI mk), .own 1793 0 n 1, .own 2001 0 c pv, .own 2002 0 d 1]), (1793, 1, .arr 13 n fun i => eRow (R i)), (2001, pv, .arr 9 c fun i => ePane (P i)), (2002, 1, .arr 7 d fun i => eLat (Q i)), (6384, 1, .box ((eAgg (R q).all).map .d))]⟩ (cov_ofG ?_ ?_ ?_) ?_
  · cbv; try (repeat' first | apply And.intro | exact True.intro | rfl)
  · cbv; try (repeat' first | apply And.intro | exact True.intro | rfl | (intro _ _; rfl))
  · cbv; try (repeat' first | apply And.intro | exact True.intro | rfl | exact .inr (Nat.le_refl _) | exact .inl trivial | exact .inr trivial)
  cbv
  repeat' first
    | apply And.intro
    | exact True.intro
    | with_reducible rfl
    | exact same_of hA rfl
    | refine br_of hA (fun _ => ?_) (fun _ => ?_)
    | exact imp_of hA id
    | (refine imp_of hA ?_; subst hA; simp only [real, Bool.true_and]; exact id)
    | (refine ind_of hA ?_; decide +kernel)
  all_goals
    rename_i hpc
    refine stop_ofG hA ⟨[(0, .c (.bp 1920 1 0)), (1, .c (.op 1793 1 q 0)), (2, .c (.d (eI kind))), (6, .c (.bp 6384 1 0))], [(1920, 1, .box [.d (eI j.srcs), .d (eI j.tsks), .d (eI j.kind), .d (eI j.size), .d (eI j.step), .d (eI j.late), .d (eI j.tell), .d (eB j.piece), .d (eI j.least), .d (eI j.room), .d (eI mk), .own 1793 0 n 1, .own 2001 0 c pv, .own 2002 0 d 1]), (1793, 1, .arr 13 n fun i => eRow (R i)), (2001, pv, .arr 9 c fun i => ePane (P i)), (2002, 1, .arr 7 d fun i => eLat (Q i)), (6384, 1, .box ((eAgg K).map .d))]⟩ (cov_ofG ?_ ?_ ?_) ?_
    · cbv; try (repeat' first | apply And.intro | exact True.intro | rfl)
    · cbv
      repeat' first
        | apply And.intro
        | exact True.intro
        | rfl
        | (intro _ _; rfl)
        | (rw [hK]; dsimp only [paneP]; first | rw [if_pos hpc] | rw [if_neg (by rw [hpc]; simp)])
    · cbv; try (repeat' first | apply And.intro | exact True.intro | rfl | exact .inr (Nat.le_refl _) | exact .inl trivial | exact .inr trivial)
    cbv
    repeat' first
      | apply And.intro
      | exact True.intro
      | with_reducible rfl
      | exact same_of hA rfl
      | refine br_of hA (fun _ => ?_) (fun _ => ?_)
      | exact imp_of hA id
      | (refine imp_of hA ?_; subst hA; simp only [real, Bool.true_and]; exact id)
      | (refine ind_of hA ?_; decide +kernel)
      | exact room_add2 hA (by omega) (by decide)
      | (simp only [hup]; cbv)
      | (intro _ _; first | rfl | trivial)
  all_goals (unfold real at hA; cases hA)
  all_goals first
    | rfl
    | (intro i hi; first | rfl | trivial)
    | (intro i hi
       by_cases e : i = q
       · refine Eq.trans ?_ (congrArg eRow ((hR' i hi).trans (if_pos e)).symm)
         dsimp only
         simp only [if_pos e]
         rfl
       · refine Eq.trans ?_ (congrArg eRow ((hR' i hi).trans (if_neg e)).symm)
         dsimp only
         simp only [if_neg e])
    | (intro i hi
       refine Eq.trans ?_ (congrArg ePane (hP' i hi).symm)
       have e : paneP j.piece (R q) kind = ⟨(R q).key, (R q).win, (R q).told, kind, K⟩ := by rw [hK]; rfl
       rw [e]
       exact push_if (A := real) ePane rfl c P ⟨(R q).key, (R q).win, (R q).told, kind, K⟩ (fun _ => [eI 0, eI 0, eI 0, eI 0, eI 0, eI 0, eI 0, eI 0, eI 0]) i hi)
def EXTn : FuncId → List Nat × Bool := fun f => bif nbeq f 1 then ([6000], false) else ([], false)
theorem k_telln (j : JobT) (mk : Int) (n : Nat) (R : Nat → RowT) (c : Nat) (hc : c ≤ 1080000) (P : Nat → PaneT) (d : Nat) (hd : d ≤ 1080000) (Q : Nat → LatT) (pv : Nat) (q : Nat) (hq : q < n) (kind : Int) (R' : Nat → RowT) (hR' : ∀ i, i < n → R' i = if i = q then toldR (R q) else R i) (P' : Nat → PaneT) (hP' : ∀ i, i < c + 1 → P' i = if i < c then P i else paneP j.piece (R q) kind) : MeetsO Try.prog 65 [.c (.bp 1920 1 0), .c (.op 2664 1 q 0), .c (.d (eI kind))]
    [(1920, 1, .box [.d (eI j.srcs), .d (eI j.tsks), .d (eI j.kind), .d (eI j.size), .d (eI j.step), .d (eI j.late), .d (eI j.tell), .d (eB j.piece), .d (eI j.least), .d (eI j.room), .d (eI mk), .own 2664 0 n 1, .own 2001 0 c pv, .own 2002 0 d 1]), (2664, 1, .arr 13 n fun i => eRow (R i)), (2001, pv, .arr 9 c fun i => ePane (P i)), (2002, 1, .arr 7 d fun i => eLat (Q i))] (.tup [])
    [(1920, 1, .box [.d (eI j.srcs), .d (eI j.tsks), .d (eI j.kind), .d (eI j.size), .d (eI j.step), .d (eI j.late), .d (eI j.tell), .d (eB j.piece), .d (eI j.least), .d (eI j.room), .d (eI mk), .own 2664 0 n 1, .own 2001 0 (c + 1) (pv + 1), .own 2002 0 d 1]), (2664, 1, .arr 13 n fun i => eRow (R' i)), (2001, (pv + 1), .arr 9 (c + 1) fun i => ePane (P' i)), (2002, 1, .arr 7 d fun i => eLat (Q i)), (6384, 1, .dead), (8560, 1, .dead)] := by
  obtain ⟨K, hK⟩ : ∃ K, K = (paneP j.piece (R q) kind).agg := ⟨_, rfl⟩
  refine inl_ofH [999, 1, 3] (EX := EXTn) ttok mixed Try.func65 rfl (by kernel_rfl) (by decide) rfl rfl rfl rfl ?_
  generalize hA : real = A
  generalize hM : MeetsB Try.prog = M
  rcases A with ⟨a1, a2, a3, a4, a5, a6, a7, a8, a9, a10, a11, a12, a13, a14, a15, a16, a17, a18, a19, a20, a21, a22, up, a24, a25, a26, a27, a28, a29⟩
  have hup : ∀ (f : Nat → List DV) (q : Nat) (l : List DV), up f q l q = l := by
    have h : real.upd = up := congrArg Ar.upd hA
    intro f q l; rw [← h]; exact if_pos rfl
  cbv
  repeat' first
    | apply And.intro
    | exact True.intro
    | with_reducible rfl
    | exact same_of hA rfl
    | refine br_of hA (fun _ => ?_) (fun _ => ?_)
    | exact imp_of hA id
    | (refine imp_of hA ?_; subst hA; simp only [real, Bool.true_and]; exact id)
    | (refine ind_of hA ?_; decide +kernel)
  refine stop_ofG hA ⟨[(0, .c (.bp 1920 1 0)), (1, .c (.op 2664 1 q 0)), (2, .c (.d (eI kind))), (6, .c (.bp 6384 1 0))], [(1920, 1, .box [.d (eI j.srcs), .d (eI j.tsks), .d (eI j.kind), .d (eI j.size), .d (eI j.step), .d (eI j.late), .d (eI j.tell), .d (eB j.piece), .d (eI j.least), .d (eI j.room), .d (eI mk), .own 2664 0 n 1, .own 2001 0 c pv, .own 2002 0 d 1]), (2664, 1, .arr 13 n fun i => eRow (R i)), (2001, pv, .arr 9 c fun i => ePane (P i)), (2002, 1, .arr 7 d fun i => eLat (Q i)), (6384, 1, .box ((eAgg (R q).all).map .d))]⟩ (cov_ofG ?_ ?_ ?_) ?_
  · cbv; try (repeat' first | apply And.intro | exact True.intro | rfl)
  · cbv; try (repeat' first | apply And.intro | exact True.intro | rfl | (intro _ _; rfl))
  · cbv; try (repeat' first | apply And.intro | exact True.intro | rfl | exact .inr (Nat.le_refl _) | exact .inl trivial | exact .inr trivial)
  cbv
  repeat' first
    | apply And.intro
    | exact True.intro
    | with_reducible rfl
    | exact same_of hA rfl
    | refine br_of hA (fun _ => ?_) (fun _ => ?_)
    | exact imp_of hA id
    | (refine imp_of hA ?_; subst hA; simp only [real, Bool.true_and]; exact id)
    | (refine ind_of hA ?_; decide +kernel)
  all_goals
    rename_i hpc
    refine stop_ofG hA ⟨[(0, .c (.bp 1920 1 0)), (1, .c (.op 2664 1 q 0)), (2, .c (.d (eI kind))), (6, .c (.bp 6384 1 0))], [(1920, 1, .box [.d (eI j.srcs), .d (eI j.tsks), .d (eI j.kind), .d (eI j.size), .d (eI j.step), .d (eI j.late), .d (eI j.tell), .d (eB j.piece), .d (eI j.least), .d (eI j.room), .d (eI mk), .own 2664 0 n 1, .own 2001 0 c pv, .own 2002 0 d 1]), (2664, 1, .arr 13 n fun i => eRow (R i)), (2001, pv, .arr 9 c fun i => ePane (P i)), (2002, 1, .arr 7 d fun i => eLat (Q i)), (6384, 1, .box ((eAgg K).map .d))]⟩ (cov_ofG ?_ ?_ ?_) ?_
    · cbv; try (repeat' first | apply And.intro | exact True.intro | rfl)
    · cbv
      repeat' first
        | apply And.intro
        | exact True.intro
        | rfl
        | (intro _ _; rfl)
        | (rw [hK]; dsimp only [paneP]; first | rw [if_pos hpc] | rw [if_neg (by rw [hpc]; simp)])
    · cbv; try (repeat' first | apply And.intro | exact True.intro | rfl | exact .inr (Nat.le_refl _) | exact .inl trivial | exact .inr trivial)
    cbv
    repeat' first
      | apply And.intro
      | exact True.intro
      | with_reducible rfl
      | exact same_of hA rfl
      | refine br_of hA (fun _ => ?_) (fun _ => ?_)
      | exact imp_of hA id
      | (refine imp_of hA ?_; subst hA; simp only [real, Bool.true_and]; exact id)
      | (refine ind_of hA ?_; decide +kernel)
      | exact room_add2 hA (by omega) (by decide)
      | (simp only [hup]; cbv)
      | (intro _ _; first | rfl | trivial)
  all_goals (unfold real at hA; cases hA)
  all_goals first
    | rfl
    | (intro i hi; first | rfl | trivial)
    | (intro i hi
       by_cases e : i = q
       · refine Eq.trans ?_ (congrArg eRow ((hR' i hi).trans (if_pos e)).symm)
         dsimp only
         simp only [if_pos e]
         rfl
       · refine Eq.trans ?_ (congrArg eRow ((hR' i hi).trans (if_neg e)).symm)
         dsimp only
         simp only [if_neg e])
    | (intro i hi
       refine Eq.trans ?_ (congrArg ePane (hP' i hi).symm)
       have e : paneP j.piece (R q) kind = ⟨(R q).key, (R q).win, (R q).told, kind, K⟩ := by rw [hK]; rfl
       rw [e]
       exact push_if (A := real) ePane rfl c P ⟨(R q).key, (R q).win, (R q).told, kind, K⟩ (fun _ => [eI 0, eI 0, eI 0, eI 0, eI 0, eI 0, eI 0, eI 0, eI 0]) i hi)
def EXPw : FuncId → List Nat × Bool := fun f => bif nbeq f 1 then ([1000], false) else bif nbeq f 156 then ([0, 2], false) else ([], false)
theorem k_putw (j : JobT) (mk : Int) (n : Nat) (R : Nat → RowT) (c : Nat) (hc : c ≤ 1080000) (P : Nat → PaneT) (d : Nat) (hd : d ≤ 1080000) (Q : Nat → LatT) (pv : Nat) (hn : n ≤ 1080000) (r : RowT) (i : Nat) (hi : i ≤ n) (h1 : ∀ q, q < i → RA (R q) r) (h2 : ∀ q, i ≤ q → q < n → ¬ RA (R q) r) (R' : Nat → RowT) (hR' : ∀ q, q < n + 1 → R' q = if q < i then R q else if q = i then r else R (q - 1)) : MeetsO Try.prog 141 [.c (.bp 1920 1 0), .agg ((eRow r).map .d)]
    [(1920, 1, .box [.d (eI j.srcs), .d (eI j.tsks), .d (eI j.kind), .d (eI j.size), .d (eI j.step), .d (eI j.late), .d (eI j.tell), .d (eB j.piece), .d (eI j.least), .d (eI j.room), .d (eI mk), .own 1793 0 n 1, .own 2001 0 c pv, .own 2002 0 d 1]), (1793, 1, .arr 13 n fun i => eRow (R i)), (2001, pv, .arr 9 c fun i => ePane (P i)), (2002, 1, .arr 7 d fun i => eLat (Q i))] (.c (.op 2664 1 i 0))
    [(1920, 1, .box [.d (eI j.srcs), .d (eI j.tsks), .d (eI j.kind), .d (eI j.size), .d (eI j.step), .d (eI j.late), .d (eI j.tell), .d (eB j.piece), .d (eI j.least), .d (eI j.room), .d (eI mk), .own 2664 0 (n + 1) 1, .own 2001 0 c pv, .own 2002 0 d 1]), (2664, 1, .arr 13 (n + 1) fun i => eRow (R' i)), (2001, pv, .arr 9 c fun i => ePane (P i)), (2002, 1, .arr 7 d fun i => eLat (Q i)), (1793, 2, .dead), (1192, 1, .dead), (2600, 2, .dead)] := by
  have hIn : ∀ row1 : Nat → List DV, row1 0 = eRow r → Meets Try.prog 156 [.c (.own 13 n fun k => eRow (R k)), .c (.d (eI i)), .c (.own 13 1 row1)] ⟨.one (.c (.own 13 (n + 1) fun k => eRow (R' k))), [none, none, none]⟩ := fun row1 hr1 => by
    refine c_Insert n i (by omega) hi _ row1 _ fun k hk => ?_
    show eRow (R' k) = _
    rw [hR' k hk]
    split
    · rfl
    · split
      · exact hr1.symm
      · rfl
  have cH := c_Half n hn R r i hi h1 h2
  obtain ⟨x0, x1, x2, x3, x4, x5, x6, x7, x8, x9, x10, x11, x12, hr⟩ : ∃ x0 x1 x2 x3 x4 x5 x6 x7 x8 x9 x10 x11 x12 : DV, eRow r = [x0, x1, x2, x3, x4, x5, x6, x7, x8, x9, x10, x11, x12] := ⟨_, _, _, _, _, _, _, _, _, _, _, _, _, rfl⟩
  rw [hr] at cH hIn ⊢
  generalize eI j.srcs = y0
  generalize eI j.tsks = y1
  generalize eI j.kind = y2
  generalize eI j.size = y3
  generalize eI j.step = y4
  generalize eI j.late = y5
  generalize eI j.tell = y6
  generalize eB j.piece = y7
  generalize eI j.least = y8
  generalize eI j.room = y9
  refine inl_ofH [999, 2, 3] (EX := EXPw) ttok mixed Try.func141 rfl (by kernel_rfl) (by decide) rfl rfl rfl rfl ?_
  generalize hA : real = A
  generalize hM : MeetsB Try.prog = M
  cbv
  repeat' first
    | apply And.intro
    | exact True.intro
    | with_reducible rfl
    | exact same_of hA rfl
    | refine br_of hA (fun _ => ?_) (fun _ => ?_)
    | exact imp_of hA id
    | (refine imp_of hA ?_; subst hA; simp only [real, Bool.true_and]; exact id)
    | (refine ind_of hA ?_; decide +kernel)
    | (refine call_ex2 hA hM cH (by subst hA; first | rfl | (simp only [sub0r]; try rfl)) (fun _ _ => ?_); cbv)
  refine stop_ofG hA ⟨[(0, .c (.bp 1920 1 0)), (3, .c (.bp 1192 1 0)), (5, .c (.d (eI i)))], [(1920, 1, .box [.d y0, .d y1, .d y2, .d y3, .d y4, .d y5, .d y6, .d y7, .d y8, .d y9, .d (eI mk), .own 1793 0 n 1, .own 2001 0 c pv, .own 2002 0 d 1]), (1793, 1, .arr 13 n fun i => eRow (R i)), (2001, pv, .arr 9 c fun i => ePane (P i)), (2002, 1, .arr 7 d fun i => eLat (Q i)), (1192, 1, .box ([x0, x1, x2, x3, x4, x5, x6, x7, x8, x9, x10, x11, x12].map .d))]⟩ (cov_ofG ?_ ?_ ?_) ?_
  · cbv; try (repeat' first | apply And.intro | exact True.intro | rfl)
  · cbv; try (repeat' first | apply And.intro | exact True.intro | rfl | (intro _ _; rfl))
  · cbv; try (repeat' first | apply And.intro | exact True.intro | rfl | exact .inr (Nat.le_refl _) | exact .inl trivial | exact .inr trivial)
  cbv
  repeat' first
    | apply And.intro
    | exact True.intro
    | with_reducible rfl
    | exact same_of hA rfl
    | refine br_of hA (fun _ => ?_) (fun _ => ?_)
    | exact imp_of hA id
    | (refine imp_of hA ?_; subst hA; simp only [real, Bool.true_and]; exact id)
    | (refine ind_of hA ?_; decide +kernel)
    | (refine call_of2 hA hM _ (hIn (A.app 1 (A.rep [x0, x1, x2, x3, x4, x5, x6, x7, x8, x9, x10, x11, x12]) (A.rep (eRow zRow))) (by subst hA; rfl)) (by subst hA; rfl) ?_; cbv)
    | exact room_add2 hA (by omega) (by decide)
    | exact flat_row hA _ _
    | (refine inb_of hA fun h => ?_; exact ⟨Int.natCast_nonneg _, Int.ofNat_lt.2 (by omega)⟩)
    | (intro _ _; first | rfl | trivial)
    | (subst hA; exact congrArg (fun q => AV.c (.op 2664 1 q 0)) (Nat.zero_add _).symm)
  refine stop_ofG hA ⟨[(0, .c (.bp 1920 1 0)), (5, .c (.d (eI i)))], [(1920, 1, .box [.d y0, .d y1, .d y2, .d y3, .d y4, .d y5, .d y6, .d y7, .d y8, .d y9, .d (eI mk), .own 2664 0 (n + 1) 1, .own 2001 0 c pv, .own 2002 0 d 1]), (2664, 1, .arr 13 (n + 1) fun i => eRow (R' i)), (2001, pv, .arr 9 c fun i => ePane (P i)), (2002, 1, .arr 7 d fun i => eLat (Q i)), (1793, 2, .dead), (1192, 1, .dead), (2600, 2, .dead)]⟩ (cov_ofG ?_ ?_ ?_) ?_
  · cbv; try (repeat' first | apply And.intro | exact True.intro | rfl)
  · cbv; try (repeat' first | apply And.intro | exact True.intro | rfl | (intro _ _; first | rfl | trivial))
  · cbv; try (repeat' first | apply And.intro | exact True.intro | rfl | exact .inr (Nat.le_refl _) | exact .inl trivial | exact .inr trivial)
  cbv
  repeat' first
    | apply And.intro
    | exact True.intro
    | with_reducible rfl
    | exact same_of hA rfl
    | refine br_of hA (fun _ => ?_) (fun _ => ?_)
    | exact imp_of hA id
    | (refine imp_of hA ?_; subst hA; simp only [real, Bool.true_and]; exact id)
    | (refine ind_of hA ?_; decide +kernel)
    | exact room_add2 hA (by omega) (by decide)
    | exact flat_row hA _ _
    | (refine inb_of hA fun h => ?_; exact ⟨Int.natCast_nonneg _, Int.ofNat_lt.2 (by omega)⟩)
    | (intro _ _; first | rfl | trivial)
    | (subst hA; exact congrArg (fun q => AV.c (.op 2664 1 q 0)) (Nat.zero_add _).symm)
def EXPs : FuncId → List Nat × Bool := fun f => bif nbeq f 1 then ([1000], false) else bif nbeq f 156 then ([0, 2], false) else ([], false)
theorem k_puts (j : JobT) (mk : Int) (n : Nat) (R : Nat → RowT) (c : Nat) (hc : c ≤ 1080000) (P : Nat → PaneT) (d : Nat) (hd : d ≤ 1080000) (Q : Nat → LatT) (pv : Nat) (hn : n ≤ 1080000) (r : RowT) (i : Nat) (hi : i ≤ n) (h1 : ∀ q, q < i → RA (R q) r) (h2 : ∀ q, i ≤ q → q < n → ¬ RA (R q) r) (R' : Nat → RowT) (hR' : ∀ q, q < n + 1 → R' q = if q < i then R q else if q = i then r else R (q - 1)) : MeetsO Try.prog 141 [.c (.bp 1920 1 0), .agg ((eRow r).map .d)]
    [(1920, 1, .box [.d (eI j.srcs), .d (eI j.tsks), .d (eI j.kind), .d (eI j.size), .d (eI j.step), .d (eI j.late), .d (eI j.tell), .d (eB j.piece), .d (eI j.least), .d (eI j.room), .d (eI mk), .own 8440 0 n 1, .own 2001 0 c pv, .own 2002 0 d 1]), (8440, 1, .arr 13 n fun i => eRow (R i)), (2001, pv, .arr 9 c fun i => ePane (P i)), (2002, 1, .arr 7 d fun i => eLat (Q i))] (.c (.op 2664 1 i 0))
    [(1920, 1, .box [.d (eI j.srcs), .d (eI j.tsks), .d (eI j.kind), .d (eI j.size), .d (eI j.step), .d (eI j.late), .d (eI j.tell), .d (eB j.piece), .d (eI j.least), .d (eI j.room), .d (eI mk), .own 2664 0 (n + 1) 1, .own 2001 0 c pv, .own 2002 0 d 1]), (2664, 1, .arr 13 (n + 1) fun i => eRow (R' i)), (2001, pv, .arr 9 c fun i => ePane (P i)), (2002, 1, .arr 7 d fun i => eLat (Q i)), (8440, 2, .dead), (1192, 1, .dead), (2600, 2, .dead)] := by
  have hIn : ∀ row1 : Nat → List DV, row1 0 = eRow r → Meets Try.prog 156 [.c (.own 13 n fun k => eRow (R k)), .c (.d (eI i)), .c (.own 13 1 row1)] ⟨.one (.c (.own 13 (n + 1) fun k => eRow (R' k))), [none, none, none]⟩ := fun row1 hr1 => by
    refine c_Insert n i (by omega) hi _ row1 _ fun k hk => ?_
    show eRow (R' k) = _
    rw [hR' k hk]
    split
    · rfl
    · split
      · exact hr1.symm
      · rfl
  have cH := c_Half n hn R r i hi h1 h2
  obtain ⟨x0, x1, x2, x3, x4, x5, x6, x7, x8, x9, x10, x11, x12, hr⟩ : ∃ x0 x1 x2 x3 x4 x5 x6 x7 x8 x9 x10 x11 x12 : DV, eRow r = [x0, x1, x2, x3, x4, x5, x6, x7, x8, x9, x10, x11, x12] := ⟨_, _, _, _, _, _, _, _, _, _, _, _, _, rfl⟩
  rw [hr] at cH hIn ⊢
  generalize eI j.srcs = y0
  generalize eI j.tsks = y1
  generalize eI j.kind = y2
  generalize eI j.size = y3
  generalize eI j.step = y4
  generalize eI j.late = y5
  generalize eI j.tell = y6
  generalize eB j.piece = y7
  generalize eI j.least = y8
  generalize eI j.room = y9
  refine inl_ofH [999, 2, 3] (EX := EXPs) ttok mixed Try.func141 rfl (by kernel_rfl) (by decide) rfl rfl rfl rfl ?_
  generalize hA : real = A
  generalize hM : MeetsB Try.prog = M
  cbv
  repeat' first
    | apply And.intro
    | exact True.intro
    | with_reducible rfl
    | exact same_of hA rfl
    | refine br_of hA (fun _ => ?_) (fun _ => ?_)
    | exact imp_of hA id
    | (refine imp_of hA ?_; subst hA; simp only [real, Bool.true_and]; exact id)
    | (refine ind_of hA ?_; decide +kernel)
    | (refine call_ex2 hA hM cH (by subst hA; first | rfl | (simp only [sub0r]; try rfl)) (fun _ _ => ?_); cbv)
  refine stop_ofG hA ⟨[(0, .c (.bp 1920 1 0)), (3, .c (.bp 1192 1 0)), (5, .c (.d (eI i)))], [(1920, 1, .box [.d y0, .d y1, .d y2, .d y3, .d y4, .d y5, .d y6, .d y7, .d y8, .d y9, .d (eI mk), .own 8440 0 n 1, .own 2001 0 c pv, .own 2002 0 d 1]), (8440, 1, .arr 13 n fun i => eRow (R i)), (2001, pv, .arr 9 c fun i => ePane (P i)), (2002, 1, .arr 7 d fun i => eLat (Q i)), (1192, 1, .box ([x0, x1, x2, x3, x4, x5, x6, x7, x8, x9, x10, x11, x12].map .d))]⟩ (cov_ofG ?_ ?_ ?_) ?_
  · cbv; try (repeat' first | apply And.intro | exact True.intro | rfl)
  · cbv; try (repeat' first | apply And.intro | exact True.intro | rfl | (intro _ _; rfl))
  · cbv; try (repeat' first | apply And.intro | exact True.intro | rfl | exact .inr (Nat.le_refl _) | exact .inl trivial | exact .inr trivial)
  cbv
  repeat' first
    | apply And.intro
    | exact True.intro
    | with_reducible rfl
    | exact same_of hA rfl
    | refine br_of hA (fun _ => ?_) (fun _ => ?_)
    | exact imp_of hA id
    | (refine imp_of hA ?_; subst hA; simp only [real, Bool.true_and]; exact id)
    | (refine ind_of hA ?_; decide +kernel)
    | (refine call_of2 hA hM _ (hIn (A.app 1 (A.rep [x0, x1, x2, x3, x4, x5, x6, x7, x8, x9, x10, x11, x12]) (A.rep (eRow zRow))) (by subst hA; rfl)) (by subst hA; rfl) ?_; cbv)
    | exact room_add2 hA (by omega) (by decide)
    | exact flat_row hA _ _
    | (refine inb_of hA fun h => ?_; exact ⟨Int.natCast_nonneg _, Int.ofNat_lt.2 (by omega)⟩)
    | (intro _ _; first | rfl | trivial)
    | (subst hA; exact congrArg (fun q => AV.c (.op 2664 1 q 0)) (Nat.zero_add _).symm)
  refine stop_ofG hA ⟨[(0, .c (.bp 1920 1 0)), (5, .c (.d (eI i)))], [(1920, 1, .box [.d y0, .d y1, .d y2, .d y3, .d y4, .d y5, .d y6, .d y7, .d y8, .d y9, .d (eI mk), .own 2664 0 (n + 1) 1, .own 2001 0 c pv, .own 2002 0 d 1]), (2664, 1, .arr 13 (n + 1) fun i => eRow (R' i)), (2001, pv, .arr 9 c fun i => ePane (P i)), (2002, 1, .arr 7 d fun i => eLat (Q i)), (8440, 2, .dead), (1192, 1, .dead), (2600, 2, .dead)]⟩ (cov_ofG ?_ ?_ ?_) ?_
  · cbv; try (repeat' first | apply And.intro | exact True.intro | rfl)
  · cbv; try (repeat' first | apply And.intro | exact True.intro | rfl | (intro _ _; first | rfl | trivial))
  · cbv; try (repeat' first | apply And.intro | exact True.intro | rfl | exact .inr (Nat.le_refl _) | exact .inl trivial | exact .inr trivial)
  cbv
  repeat' first
    | apply And.intro
    | exact True.intro
    | with_reducible rfl
    | exact same_of hA rfl
    | refine br_of hA (fun _ => ?_) (fun _ => ?_)
    | exact imp_of hA id
    | (refine imp_of hA ?_; subst hA; simp only [real, Bool.true_and]; exact id)
    | (refine ind_of hA ?_; decide +kernel)
    | exact room_add2 hA (by omega) (by decide)
    | exact flat_row hA _ _
    | (refine inb_of hA fun h => ?_; exact ⟨Int.natCast_nonneg _, Int.ofNat_lt.2 (by omega)⟩)
    | (intro _ _; first | rfl | trivial)
    | (subst hA; exact congrArg (fun q => AV.c (.op 2664 1 q 0)) (Nat.zero_add _).symm)
end Go.Rk
/- A worker's methods: gone, add. -/
namespace Go.Rk
set_option linter.unusedSimpArgs false
set_option linter.unusedVariables false
open Go.Proofs
set_option maxRecDepth 100000
set_option maxHeartbeats 1000000
def EXGf : FuncId → List Nat × Bool := fun f => bif nbeq f 1 then ([4000], false) else ([], false)
theorem k_gonef (j : JobT) (mk : Int) (n : Nat) (R : Nat → RowT) (c : Nat) (hc : c ≤ 1080000) (P : Nat → PaneT) (d : Nat) (hd : d ≤ 1080000) (Q : Nat → LatT) (x : ItmT) (w ov : WinT) (hov : (mk < w64 (ov.e + j.late))) : MeetsO Try.prog 139 [.c (.bp 1920 1 0), .agg ((eItm x).map .d), .agg ((eWin w).map .d), .agg ((eWin ov).map .d)]
    [(1920, 1, .box [.d (eI j.srcs), .d (eI j.tsks), .d (eI j.kind), .d (eI j.size), .d (eI j.step), .d (eI j.late), .d (eI j.tell), .d (eB j.piece), .d (eI j.least), .d (eI j.room), .d (eI mk), .own 1793 0 n 1, .own 2001 0 c 1, .own 2002 0 d 1]), (1793, 1, .arr 13 n fun i => eRow (R i)), (2001, 1, .arr 9 c fun i => ePane (P i)), (2002, 1, .arr 7 d fun i => eLat (Q i))] (.c (.d (eB false)))
    [(1920, 1, .box [.d (eI j.srcs), .d (eI j.tsks), .d (eI j.kind), .d (eI j.size), .d (eI j.step), .d (eI j.late), .d (eI j.tell), .d (eB j.piece), .d (eI j.least), .d (eI j.room), .d (eI mk), .own 1793 0 n 1, .own 2001 0 c 1, .own 2002 0 d 1]), (1793, 1, .arr 13 n fun i => eRow (R i)), (2001, 1, .arr 9 c fun i => ePane (P i)), (2002, 1, .arr 7 d fun i => eLat (Q i)), (4320, 1, .dead), (4384, 1, .dead), (4448, 1, .dead)] := by
  have no : ∀ {A : Ar}, real = A → A.cmp .lss mk (A.ar .add .i64 ov.e j.late) = false → False := fun hA h => by
    subst hA
    have h : decide (mk < w64 (ov.e + j.late)) = false := h
    simp at h; omega
  refine inl_of (EX := EXGf) ttok mixed Try.func139 rfl (by kernel_rfl) (by decide) (by kernel_rfl) rfl rfl ?_
  generalize hA : real = A
  generalize hM : MeetsB Try.prog = M
  cbv
  repeat' first
    | exact (no hA (by assumption)).elim
    | apply And.intro
    | exact True.intro
    | with_reducible rfl
    | exact same_of hA rfl
    | refine br_of hA (fun _ => ?_) (fun _ => ?_)
    | exact imp_of hA id
    | (refine imp_of hA ?_; subst hA; simp only [real, Bool.true_and]; exact id)
    | (refine ind_of hA ?_; decide +kernel)
    | exact room_add2 hA (by omega) (by decide)
    | (intro _ _; first | rfl | trivial)
def EXGt : FuncId → List Nat × Bool := fun f => bif nbeq f 1 then ([4000], false) else ([], false)
theorem k_gonet (j : JobT) (mk : Int) (n : Nat) (R : Nat → RowT) (c : Nat) (hc : c ≤ 1080000) (P : Nat → PaneT) (d : Nat) (hd : d ≤ 1080000) (Q : Nat → LatT) (x : ItmT) (w ov : WinT) (hov : (w64 (ov.e + j.late) ≤ mk)) (Q' : Nat → LatT) (hQ' : ∀ i, i < d + 1 → Q' i = if i < d then Q i else ⟨x, w⟩) : MeetsO Try.prog 139 [.c (.bp 1920 1 0), .agg ((eItm x).map .d), .agg ((eWin w).map .d), .agg ((eWin ov).map .d)]
    [(1920, 1, .box [.d (eI j.srcs), .d (eI j.tsks), .d (eI j.kind), .d (eI j.size), .d (eI j.step), .d (eI j.late), .d (eI j.tell), .d (eB j.piece), .d (eI j.least), .d (eI j.room), .d (eI mk), .own 1793 0 n 1, .own 2001 0 c 1, .own 2002 0 d 1]), (1793, 1, .arr 13 n fun i => eRow (R i)), (2001, 1, .arr 9 c fun i => ePane (P i)), (2002, 1, .arr 7 d fun i => eLat (Q i))] (.c (.d (eB true)))
    [(1920, 1, .box [.d (eI j.srcs), .d (eI j.tsks), .d (eI j.kind), .d (eI j.size), .d (eI j.step), .d (eI j.late), .d (eI j.tell), .d (eB j.piece), .d (eI j.least), .d (eI j.room), .d (eI mk), .own 1793 0 n 1, .own 2001 0 c 1, .own 2002 0 (d + 1) 2]), (1793, 1, .arr 13 n fun i => eRow (R i)), (2001, 1, .arr 9 c fun i => ePane (P i)), (2002, 2, .arr 7 (d + 1) fun i => eLat (Q' i)), (4320, 1, .dead), (4384, 1, .dead), (4448, 1, .dead), (5984, 1, .dead)] := by
  have no : ∀ {A : Ar}, real = A → A.cmp .lss mk (A.ar .add .i64 ov.e j.late) = true → False := fun hA h => by
    subst hA
    have h : decide (mk < w64 (ov.e + j.late)) = true := h
    simp at h; omega
  refine inl_of (EX := EXGt) ttok mixed Try.func139 rfl (by kernel_rfl) (by decide) (by kernel_rfl) rfl rfl ?_
  generalize hA : real = A
  generalize hM : MeetsB Try.prog = M
  cbv
  repeat' first
    | exact (no hA (by assumption)).elim
    | apply And.intro
    | exact True.intro
    | with_reducible rfl
    | exact same_of hA rfl
    | refine br_of hA (fun _ => ?_) (fun _ => ?_)
    | exact imp_of hA id
    | (refine imp_of hA ?_; subst hA; simp only [real, Bool.true_and]; exact id)
    | (refine ind_of hA ?_; decide +kernel)
    | exact room_add2 hA (by omega) (by decide)
    | (intro _ _; first | rfl | trivial)
  all_goals subst hA
  all_goals first
    | rfl
    | (intro i hi
       refine Eq.trans ?_ (congrArg eLat (hQ' i hi).symm)
       exact push_if (A := real) eLat rfl d Q ⟨x, w⟩ (fun _ => [eI 0, eI 0, eI 0, eI 0, eI 0, eI 0, eI 0]) i hi)
def EXAft : FuncId → List Nat × Bool := fun f => bif nbeq f 1 then ([3000], false) else bif nbeq f 65 then ([99], false) else ([], false)
theorem k_addft (j : JobT) (mk : Int) (n : Nat) (R : Nat → RowT) (c : Nat) (hc : c ≤ 1080000) (P : Nat → PaneT) (d : Nat) (hd : d ≤ 1080000) (Q : Nat → LatT) (q : Nat) (hq : q < n) (v : Int) (r : RowT) (hr : r = addR (R q) v) (hm : ¬ mk < (R q).win.e) (R' : Nat → RowT) (hR' : ∀ i, i < n → R' i = if i = q then toldR r else R i) (P' : Nat → PaneT) (hP' : ∀ i, i < c + 1 → P' i = if i < c then P i else paneP j.piece r (kindT r)) : MeetsO Try.prog 140 [.c (.bp 1920 1 0), .c (.op 1793 1 q 0), .c (.d (eI v))]
    [(1920, 1, .box [.d (eI j.srcs), .d (eI j.tsks), .d (eI j.kind), .d (eI j.size), .d (eI j.step), .d (eI j.late), .d (eI j.tell), .d (eB j.piece), .d (eI j.least), .d (eI j.room), .d (eI mk), .own 1793 0 n 1, .own 2001 0 c 1, .own 2002 0 d 1]), (1793, 1, .arr 13 n fun i => eRow (R i)), (2001, 1, .arr 9 c fun i => ePane (P i)), (2002, 1, .arr 7 d fun i => eLat (Q i))] (.tup [])
    [(1920, 1, .box [.d (eI j.srcs), .d (eI j.tsks), .d (eI j.kind), .d (eI j.size), .d (eI j.step), .d (eI j.late), .d (eI j.tell), .d (eB j.piece), .d (eI j.least), .d (eI j.room), .d (eI mk), .own 1793 0 n 1, .own 2001 0 (c + 1) 2, .own 2002 0 d 1]), (1793, 1, .arr 13 n fun i => eRow (R' i)), (2001, 2, .arr 9 (c + 1) fun i => ePane (P' i)), (2002, 1, .arr 7 d fun i => eLat (Q i)), (6384, 1, .dead), (8560, 1, .dead)] := by
  have cA := c_AggAdd (R q).all v r.all (by rw [hr]; rfl)
  have cF := c_AggAdd (R q).fresh v r.fresh (by rw [hr]; rfl)
  obtain ⟨R1, hR1⟩ : ∃ R1 : Nat → RowT, R1 = fun i => if i = q then r else R i := ⟨_, rfl⟩
  have e1 : R1 q = r := (congrFun hR1 q).trans (if_pos rfl)
  have ew : (R1 q).win = (R q).win := by rw [e1, hr]; rfl
  have no : ∀ {A : Ar}, real = A → A.cmp .lss mk (R1 q).win.e = true → False := fun hA h => by
    subst hA
    have h : decide (mk < (R1 q).win.e) = true := h
    rw [ew] at h
    simp at h; omega
  refine inl_ofH [999, 1] (EX := EXAft) ttok mixed Try.func140 rfl (by kernel_rfl) (by decide) rfl rfl rfl rfl ?_
  generalize hA : real = A
  generalize hM : MeetsB Try.prog = M
  rcases A with ⟨a1, a2, a3, a4, a5, a6, a7, a8, a9, a10, a11, a12, a13, a14, a15, a16, a17, a18, a19, a20, a21, a22, up, a24, a25, a26, a27, a28, a29⟩
  have hup : ∀ (f : Nat → List DV) (q : Nat) (l : List DV), up f q l q = l := by
    have h : real.upd = up := congrArg Ar.upd hA
    intro f q l; rw [← h]; exact if_pos rfl
  cbv
  repeat' first
    | apply And.intro
    | exact True.intro
    | with_reducible rfl
    | exact same_of hA rfl
    | refine br_of hA (fun _ => ?_) (fun _ => ?_)
    | exact imp_of hA id
    | (refine imp_of hA ?_; subst hA; simp only [real, Bool.true_and]; exact id)
    | (refine ind_of hA ?_; decide +kernel)
    | (refine call_of hA hM _ cA ?_; cbv)
    | (refine call_of hA hM _ cF ?_; cbv)
    | (simp only [hup]; cbv)
    | (intro _ _; first | rfl | trivial)
  refine stop_ofG hA ⟨[(0, .c (.bp 1920 1 0)), (1, .c (.op 1793 1 q 0))], [(1920, 1, .box [.d (eI j.srcs), .d (eI j.tsks), .d (eI j.kind), .d (eI j.size), .d (eI j.step), .d (eI j.late), .d (eI j.tell), .d (eB j.piece), .d (eI j.least), .d (eI j.room), .d (eI mk), .own 1793 0 n 1, .own 2001 0 c 1, .own 2002 0 d 1]), (1793, 1, .arr 13 n fun i => eRow (R1 i)), (2001, 1, .arr 9 c fun i => ePane (P i)), (2002, 1, .arr 7 d fun i => eLat (Q i))]⟩ (cov_ofG ?_ ?_ ?_) ?_
  · (repeat' first | exact True.intro | exact rfl | apply And.intro | (intro _ _; first | rfl | trivial))
  · skip
    repeat' first
      | exact True.intro
      | exact rfl
      | apply And.intro
      | (intro _ _; first | rfl | trivial)
      | (intro i hi
         unfold real at hA
         cases hA
         by_cases e : i = q
         · refine Eq.trans ?_ (congrArg eRow ((congrFun hR1 i).trans (if_pos e)).symm)
           dsimp only
           simp only [if_pos e]
           rw [hr]
           rfl
         · refine Eq.trans ?_ (congrArg eRow ((congrFun hR1 i).trans (if_neg e)).symm)
           dsimp only
           simp only [if_neg e])
  · (repeat' first | exact True.intro | exact rfl | apply And.intro | exact .inl rfl | exact .inr (le_of_nble rfl))
  cbv
  repeat' first
    | exact (no hA (by assumption)).elim
    | apply And.intro
    | exact True.intro
    | with_reducible rfl
    | exact same_of hA rfl
    | refine br_of hA (fun _ => ?_) (fun _ => ?_)
    | exact imp_of hA id
    | (refine imp_of hA ?_; subst hA; simp only [real, Bool.true_and]; exact id)
    | (refine ind_of hA ?_; decide +kernel)
    | (intro _ _; first | rfl | trivial)
  · rename_i ht
    have htm : r.timely = true := by rw [← e1]; exact ht
    have hkd : kindT r = 2 := if_pos htm
    (refine inl_call hA _ _ _ ⟨fun _ => (by rw [← hM]; exact k_tellf j mk n R1 c hc P d hd Q 1 q hq 2 R' (fun i hi => by rw [hR' i hi, e1, hR1]; dsimp only; split <;> first | rfl | (rename_i e; simp [e])) P' (fun i hi => by rw [hP' i hi, e1, hkd])), (by cbv; repeat' first | apply And.intro | exact True.intro | rfl | exact .inr trivial | exact .inl trivial), ?_⟩; cbv)
    repeat' first
      | apply And.intro
      | exact True.intro
      | with_reducible rfl
      | exact same_of hA rfl
      | refine br_of hA (fun _ => ?_) (fun _ => ?_)
      | exact imp_of hA id
      | (refine imp_of hA ?_; subst hA; simp only [real, Bool.true_and]; exact id)
      | (refine ind_of hA ?_; decide +kernel)
      | (intro _ _; first | rfl | trivial)
  · rename_i ht
    have htm : ¬ r.timely = true := fun h => (by rw [← e1] at h; exact absurd (ht.symm.trans h) (by decide))
    have hkd : kindT r = 1 := if_neg htm
    (refine inl_call hA _ _ _ ⟨fun _ => (by rw [← hM]; exact k_tellf j mk n R1 c hc P d hd Q 1 q hq 1 R' (fun i hi => by rw [hR' i hi, e1, hR1]; dsimp only; split <;> first | rfl | (rename_i e; simp [e])) P' (fun i hi => by rw [hP' i hi, e1, hkd])), (by cbv; repeat' first | apply And.intro | exact True.intro | rfl | exact .inr trivial | exact .inl trivial), ?_⟩; cbv)
    repeat' first
      | apply And.intro
      | exact True.intro
      | with_reducible rfl
      | exact same_of hA rfl
      | refine br_of hA (fun _ => ?_) (fun _ => ?_)
      | exact imp_of hA id
      | (refine imp_of hA ?_; subst hA; simp only [real, Bool.true_and]; exact id)
      | (refine ind_of hA ?_; decide +kernel)
      | (intro _ _; first | rfl | trivial)
def EXAfn : FuncId → List Nat × Bool := fun f => bif nbeq f 1 then ([3000], false) else bif nbeq f 65 then ([99], false) else ([], false)
theorem k_addfn (j : JobT) (mk : Int) (n : Nat) (R : Nat → RowT) (c : Nat) (hc : c ≤ 1080000) (P : Nat → PaneT) (d : Nat) (hd : d ≤ 1080000) (Q : Nat → LatT) (q : Nat) (hq : q < n) (v : Int) (r : RowT) (hr : r = addR (R q) v) (hm : mk < (R q).win.e) (R' : Nat → RowT) (hR' : ∀ i, i < n → R' i = if i = q then r else R i) : MeetsO Try.prog 140 [.c (.bp 1920 1 0), .c (.op 1793 1 q 0), .c (.d (eI v))]
    [(1920, 1, .box [.d (eI j.srcs), .d (eI j.tsks), .d (eI j.kind), .d (eI j.size), .d (eI j.step), .d (eI j.late), .d (eI j.tell), .d (eB j.piece), .d (eI j.least), .d (eI j.room), .d (eI mk), .own 1793 0 n 1, .own 2001 0 c 1, .own 2002 0 d 1]), (1793, 1, .arr 13 n fun i => eRow (R i)), (2001, 1, .arr 9 c fun i => ePane (P i)), (2002, 1, .arr 7 d fun i => eLat (Q i))] (.tup [])
    [(1920, 1, .box [.d (eI j.srcs), .d (eI j.tsks), .d (eI j.kind), .d (eI j.size), .d (eI j.step), .d (eI j.late), .d (eI j.tell), .d (eB j.piece), .d (eI j.least), .d (eI j.room), .d (eI mk), .own 1793 0 n 1, .own 2001 0 c 2, .own 2002 0 d 1]), (1793, 1, .arr 13 n fun i => eRow (R' i)), (2001, 2, .arr 9 c fun i => ePane (P i)), (2002, 1, .arr 7 d fun i => eLat (Q i)), (6384, 1, .dead), (8560, 1, .dead)] := by
  have cA := c_AggAdd (R q).all v r.all (by rw [hr]; rfl)
  have cF := c_AggAdd (R q).fresh v r.fresh (by rw [hr]; rfl)
  obtain ⟨R1, hR1⟩ : ∃ R1 : Nat → RowT, R1 = fun i => if i = q then r else R i := ⟨_, rfl⟩
  have e1 : R1 q = r := (congrFun hR1 q).trans (if_pos rfl)
  have ew : (R1 q).win = (R q).win := by rw [e1, hr]; rfl
  have no : ∀ {A : Ar}, real = A → A.cmp .lss mk (R1 q).win.e = false → False := fun hA h => by
    subst hA
    have h : decide (mk < (R1 q).win.e) = false := h
    rw [ew] at h
    simp at h; omega
  refine inl_ofH [999, 1] (EX := EXAfn) ttok mixed Try.func140 rfl (by kernel_rfl) (by decide) rfl rfl rfl rfl ?_
  generalize hA : real = A
  generalize hM : MeetsB Try.prog = M
  rcases A with ⟨a1, a2, a3, a4, a5, a6, a7, a8, a9, a10, a11, a12, a13, a14, a15, a16, a17, a18, a19, a20, a21, a22, up, a24, a25, a26, a27, a28, a29⟩
  have hup : ∀ (f : Nat → List DV) (q : Nat) (l : List DV), up f q l q = l := by
    have h : real.upd = up := congrArg Ar.upd hA
    intro f q l; rw [← h]; exact if_pos rfl
  cbv
  repeat' first
    | apply And.intro
    | exact True.intro
    | with_reducible rfl
    | exact same_of hA rfl
    | refine br_of hA (fun _ => ?_) (fun _ => ?_)
    | exact imp_of hA id
    | (refine imp_of hA ?_; subst hA; simp only [real, Bool.true_and]; exact id)
    | (refine ind_of hA ?_; decide +kernel)
    | (refine call_of hA hM _ cA ?_; cbv)
    | (refine call_of hA hM _ cF ?_; cbv)
    | (simp only [hup]; cbv)
    | (intro _ _; first | rfl | trivial)
  refine stop_ofG hA ⟨[(0, .c (.bp 1920 1 0)), (1, .c (.op 1793 1 q 0))], [(1920, 1, .box [.d (eI j.srcs), .d (eI j.tsks), .d (eI j.kind), .d (eI j.size), .d (eI j.step), .d (eI j.late), .d (eI j.tell), .d (eB j.piece), .d (eI j.least), .d (eI j.room), .d (eI mk), .own 1793 0 n 1, .own 2001 0 c 2, .own 2002 0 d 1]), (1793, 1, .arr 13 n fun i => eRow (R1 i)), (2001, 2, .arr 9 c fun i => ePane (P i)), (2002, 1, .arr 7 d fun i => eLat (Q i)), (6384, 1, .dead), (8560, 1, .dead)]⟩ (cov_ofG ?_ ?_ ?_) ?_
  · (repeat' first | exact True.intro | exact rfl | apply And.intro | (intro _ _; first | rfl | trivial))
  · skip
    repeat' first
      | exact True.intro
      | exact rfl
      | apply And.intro
      | (intro _ _; first | rfl | trivial)
      | (intro i hi
         unfold real at hA
         cases hA
         by_cases e : i = q
         · refine Eq.trans ?_ (congrArg eRow ((congrFun hR1 i).trans (if_pos e)).symm)
           dsimp only
           simp only [if_pos e]
           rw [hr]
           rfl
         · refine Eq.trans ?_ (congrArg eRow ((congrFun hR1 i).trans (if_neg e)).symm)
           dsimp only
           simp only [if_neg e])
  · (repeat' first | exact True.intro | exact rfl | apply And.intro | exact .inl rfl | exact .inr (le_of_nble rfl))
  cbv
  repeat' first
    | exact (no hA (by assumption)).elim
    | apply And.intro
    | exact True.intro
    | with_reducible rfl
    | exact same_of hA rfl
    | refine br_of hA (fun _ => ?_) (fun _ => ?_)
    | exact imp_of hA id
    | (refine imp_of hA ?_; subst hA; simp only [real, Bool.true_and]; exact id)
    | (refine ind_of hA ?_; decide +kernel)
    | (intro _ _; first | rfl | trivial)
  all_goals
    intro i hi
    exact congrArg eRow ((congrFun hR1 i).trans (hR' i hi).symm)
def EXAnt : FuncId → List Nat × Bool := fun f => bif nbeq f 1 then ([3000], false) else bif nbeq f 65 then ([99], false) else ([], false)
theorem k_addnt (j : JobT) (mk : Int) (n : Nat) (R : Nat → RowT) (c : Nat) (hc : c ≤ 1080000) (P : Nat → PaneT) (d : Nat) (hd : d ≤ 1080000) (Q : Nat → LatT) (q : Nat) (hq : q < n) (v : Int) (r : RowT) (hr : r = addR (R q) v) (hm : ¬ mk < (R q).win.e) (R' : Nat → RowT) (hR' : ∀ i, i < n → R' i = if i = q then toldR r else R i) (P' : Nat → PaneT) (hP' : ∀ i, i < c + 1 → P' i = if i < c then P i else paneP j.piece r (kindT r)) : MeetsO Try.prog 140 [.c (.bp 1920 1 0), .c (.op 2664 1 q 0), .c (.d (eI v))]
    [(1920, 1, .box [.d (eI j.srcs), .d (eI j.tsks), .d (eI j.kind), .d (eI j.size), .d (eI j.step), .d (eI j.late), .d (eI j.tell), .d (eB j.piece), .d (eI j.least), .d (eI j.room), .d (eI mk), .own 2664 0 n 1, .own 2001 0 c 1, .own 2002 0 d 1]), (2664, 1, .arr 13 n fun i => eRow (R i)), (2001, 1, .arr 9 c fun i => ePane (P i)), (2002, 1, .arr 7 d fun i => eLat (Q i))] (.tup [])
    [(1920, 1, .box [.d (eI j.srcs), .d (eI j.tsks), .d (eI j.kind), .d (eI j.size), .d (eI j.step), .d (eI j.late), .d (eI j.tell), .d (eB j.piece), .d (eI j.least), .d (eI j.room), .d (eI mk), .own 2664 0 n 1, .own 2001 0 (c + 1) 2, .own 2002 0 d 1]), (2664, 1, .arr 13 n fun i => eRow (R' i)), (2001, 2, .arr 9 (c + 1) fun i => ePane (P' i)), (2002, 1, .arr 7 d fun i => eLat (Q i)), (6384, 1, .dead), (8560, 1, .dead)] := by
  have cA := c_AggAdd (R q).all v r.all (by rw [hr]; rfl)
  have cF := c_AggAdd (R q).fresh v r.fresh (by rw [hr]; rfl)
  obtain ⟨R1, hR1⟩ : ∃ R1 : Nat → RowT, R1 = fun i => if i = q then r else R i := ⟨_, rfl⟩
  have e1 : R1 q = r := (congrFun hR1 q).trans (if_pos rfl)
  have ew : (R1 q).win = (R q).win := by rw [e1, hr]; rfl
  have no : ∀ {A : Ar}, real = A → A.cmp .lss mk (R1 q).win.e = true → False := fun hA h => by
    subst hA
    have h : decide (mk < (R1 q).win.e) = true := h
    rw [ew] at h
    simp at h; omega
  refine inl_ofH [999, 1] (EX := EXAnt) ttok mixed Try.func140 rfl (by kernel_rfl) (by decide) rfl rfl rfl rfl ?_
  generalize hA : real = A
  generalize hM : MeetsB Try.prog = M
  rcases A with ⟨a1, a2, a3, a4, a5, a6, a7, a8, a9, a10, a11, a12, a13, a14, a15, a16, a17, a18, a19, a20, a21, a22, up, a24, a25, a26, a27, a28, a29⟩
  have hup : ∀ (f : Nat → List DV) (q : Nat) (l : List DV), up f q l q = l := by
    have h : real.upd = up := congrArg Ar.upd hA
    intro f q l; rw [← h]; exact if_pos rfl
  cbv
  repeat' first
    | apply And.intro
    | exact True.intro
    | with_reducible rfl
    | exact same_of hA rfl
    | refine br_of hA (fun _ => ?_) (fun _ => ?_)
    | exact imp_of hA id
    | (refine imp_of hA ?_; subst hA; simp only [real, Bool.true_and]; exact id)
    | (refine ind_of hA ?_; decide +kernel)
    | (refine call_of hA hM _ cA ?_; cbv)
    | (refine call_of hA hM _ cF ?_; cbv)
    | (simp only [hup]; cbv)
    | (intro _ _; first | rfl | trivial)
  refine stop_ofG hA ⟨[(0, .c (.bp 1920 1 0)), (1, .c (.op 2664 1 q 0))], [(1920, 1, .box [.d (eI j.srcs), .d (eI j.tsks), .d (eI j.kind), .d (eI j.size), .d (eI j.step), .d (eI j.late), .d (eI j.tell), .d (eB j.piece), .d (eI j.least), .d (eI j.room), .d (eI mk), .own 2664 0 n 1, .own 2001 0 c 1, .own 2002 0 d 1]), (2664, 1, .arr 13 n fun i => eRow (R1 i)), (2001, 1, .arr 9 c fun i => ePane (P i)), (2002, 1, .arr 7 d fun i => eLat (Q i))]⟩ (cov_ofG ?_ ?_ ?_) ?_
  · (repeat' first | exact True.intro | exact rfl | apply And.intro | (intro _ _; first | rfl | trivial))
  · skip
    repeat' first
      | exact True.intro
      | exact rfl
      | apply And.intro
      | (intro _ _; first | rfl | trivial)
      | (intro i hi
         unfold real at hA
         cases hA
         by_cases e : i = q
         · refine Eq.trans ?_ (congrArg eRow ((congrFun hR1 i).trans (if_pos e)).symm)
           dsimp only
           simp only [if_pos e]
           rw [hr]
           rfl
         · refine Eq.trans ?_ (congrArg eRow ((congrFun hR1 i).trans (if_neg e)).symm)
           dsimp only
           simp only [if_neg e])
  · (repeat' first | exact True.intro | exact rfl | apply And.intro | exact .inl rfl | exact .inr (le_of_nble rfl))
  cbv
  repeat' first
    | exact (no hA (by assumption)).elim
    | apply And.intro
    | exact True.intro
    | with_reducible rfl
    | exact same_of hA rfl
    | refine br_of hA (fun _ => ?_) (fun _ => ?_)
    | exact imp_of hA id
    | (refine imp_of hA ?_; subst hA; simp only [real, Bool.true_and]; exact id)
    | (refine ind_of hA ?_; decide +kernel)
    | (intro _ _; first | rfl | trivial)
  · rename_i ht
    have htm : r.timely = true := by rw [← e1]; exact ht
    have hkd : kindT r = 2 := if_pos htm
    (refine inl_call hA _ _ _ ⟨fun _ => (by rw [← hM]; exact k_telln j mk n R1 c hc P d hd Q 1 q hq 2 R' (fun i hi => by rw [hR' i hi, e1, hR1]; dsimp only; split <;> first | rfl | (rename_i e; simp [e])) P' (fun i hi => by rw [hP' i hi, e1, hkd])), (by cbv; repeat' first | apply And.intro | exact True.intro | rfl | exact .inr trivial | exact .inl trivial), ?_⟩; cbv)
    repeat' first
      | apply And.intro
      | exact True.intro
      | with_reducible rfl
      | exact same_of hA rfl
      | refine br_of hA (fun _ => ?_) (fun _ => ?_)
      | exact imp_of hA id
      | (refine imp_of hA ?_; subst hA; simp only [real, Bool.true_and]; exact id)
      | (refine ind_of hA ?_; decide +kernel)
      | (intro _ _; first | rfl | trivial)
  · rename_i ht
    have htm : ¬ r.timely = true := fun h => (by rw [← e1] at h; exact absurd (ht.symm.trans h) (by decide))
    have hkd : kindT r = 1 := if_neg htm
    (refine inl_call hA _ _ _ ⟨fun _ => (by rw [← hM]; exact k_telln j mk n R1 c hc P d hd Q 1 q hq 1 R' (fun i hi => by rw [hR' i hi, e1, hR1]; dsimp only; split <;> first | rfl | (rename_i e; simp [e])) P' (fun i hi => by rw [hP' i hi, e1, hkd])), (by cbv; repeat' first | apply And.intro | exact True.intro | rfl | exact .inr trivial | exact .inl trivial), ?_⟩; cbv)
    repeat' first
      | apply And.intro
      | exact True.intro
      | with_reducible rfl
      | exact same_of hA rfl
      | refine br_of hA (fun _ => ?_) (fun _ => ?_)
      | exact imp_of hA id
      | (refine imp_of hA ?_; subst hA; simp only [real, Bool.true_and]; exact id)
      | (refine ind_of hA ?_; decide +kernel)
      | (intro _ _; first | rfl | trivial)
def EXAnn : FuncId → List Nat × Bool := fun f => bif nbeq f 1 then ([3000], false) else bif nbeq f 65 then ([99], false) else ([], false)
theorem k_addnn (j : JobT) (mk : Int) (n : Nat) (R : Nat → RowT) (c : Nat) (hc : c ≤ 1080000) (P : Nat → PaneT) (d : Nat) (hd : d ≤ 1080000) (Q : Nat → LatT) (q : Nat) (hq : q < n) (v : Int) (r : RowT) (hr : r = addR (R q) v) (hm : mk < (R q).win.e) (R' : Nat → RowT) (hR' : ∀ i, i < n → R' i = if i = q then r else R i) : MeetsO Try.prog 140 [.c (.bp 1920 1 0), .c (.op 2664 1 q 0), .c (.d (eI v))]
    [(1920, 1, .box [.d (eI j.srcs), .d (eI j.tsks), .d (eI j.kind), .d (eI j.size), .d (eI j.step), .d (eI j.late), .d (eI j.tell), .d (eB j.piece), .d (eI j.least), .d (eI j.room), .d (eI mk), .own 2664 0 n 1, .own 2001 0 c 1, .own 2002 0 d 1]), (2664, 1, .arr 13 n fun i => eRow (R i)), (2001, 1, .arr 9 c fun i => ePane (P i)), (2002, 1, .arr 7 d fun i => eLat (Q i))] (.tup [])
    [(1920, 1, .box [.d (eI j.srcs), .d (eI j.tsks), .d (eI j.kind), .d (eI j.size), .d (eI j.step), .d (eI j.late), .d (eI j.tell), .d (eB j.piece), .d (eI j.least), .d (eI j.room), .d (eI mk), .own 2664 0 n 1, .own 2001 0 c 2, .own 2002 0 d 1]), (2664, 1, .arr 13 n fun i => eRow (R' i)), (2001, 2, .arr 9 c fun i => ePane (P i)), (2002, 1, .arr 7 d fun i => eLat (Q i)), (6384, 1, .dead), (8560, 1, .dead)] := by
  have cA := c_AggAdd (R q).all v r.all (by rw [hr]; rfl)
  have cF := c_AggAdd (R q).fresh v r.fresh (by rw [hr]; rfl)
  obtain ⟨R1, hR1⟩ : ∃ R1 : Nat → RowT, R1 = fun i => if i = q then r else R i := ⟨_, rfl⟩
  have e1 : R1 q = r := (congrFun hR1 q).trans (if_pos rfl)
  have ew : (R1 q).win = (R q).win := by rw [e1, hr]; rfl
  have no : ∀ {A : Ar}, real = A → A.cmp .lss mk (R1 q).win.e = false → False := fun hA h => by
    subst hA
    have h : decide (mk < (R1 q).win.e) = false := h
    rw [ew] at h
    simp at h; omega
  refine inl_ofH [999, 1] (EX := EXAnn) ttok mixed Try.func140 rfl (by kernel_rfl) (by decide) rfl rfl rfl rfl ?_
  generalize hA : real = A
  generalize hM : MeetsB Try.prog = M
  rcases A with ⟨a1, a2, a3, a4, a5, a6, a7, a8, a9, a10, a11, a12, a13, a14, a15, a16, a17, a18, a19, a20, a21, a22, up, a24, a25, a26, a27, a28, a29⟩
  have hup : ∀ (f : Nat → List DV) (q : Nat) (l : List DV), up f q l q = l := by
    have h : real.upd = up := congrArg Ar.upd hA
    intro f q l; rw [← h]; exact if_pos rfl
  cbv
  repeat' first
    | apply And.intro
    | exact True.intro
    | with_reducible rfl
    | exact same_of hA rfl
    | refine br_of hA (fun _ => ?_) (fun _ => ?_)
    | exact imp_of hA id
    | (refine imp_of hA ?_; subst hA; simp only [real, Bool.true_and]; exact id)
    | (refine ind_of hA ?_; decide +kernel)
    | (refine call_of hA hM _ cA ?_; cbv)
    | (refine call_of hA hM _ cF ?_; cbv)
    | (simp only [hup]; cbv)
    | (intro _ _; first | rfl | trivial)
  refine stop_ofG hA ⟨[(0, .c (.bp 1920 1 0)), (1, .c (.op 2664 1 q 0))], [(1920, 1, .box [.d (eI j.srcs), .d (eI j.tsks), .d (eI j.kind), .d (eI j.size), .d (eI j.step), .d (eI j.late), .d (eI j.tell), .d (eB j.piece), .d (eI j.least), .d (eI j.room), .d (eI mk), .own 2664 0 n 1, .own 2001 0 c 2, .own 2002 0 d 1]), (2664, 1, .arr 13 n fun i => eRow (R1 i)), (2001, 2, .arr 9 c fun i => ePane (P i)), (2002, 1, .arr 7 d fun i => eLat (Q i)), (6384, 1, .dead), (8560, 1, .dead)]⟩ (cov_ofG ?_ ?_ ?_) ?_
  · (repeat' first | exact True.intro | exact rfl | apply And.intro | (intro _ _; first | rfl | trivial))
  · skip
    repeat' first
      | exact True.intro
      | exact rfl
      | apply And.intro
      | (intro _ _; first | rfl | trivial)
      | (intro i hi
         unfold real at hA
         cases hA
         by_cases e : i = q
         · refine Eq.trans ?_ (congrArg eRow ((congrFun hR1 i).trans (if_pos e)).symm)
           dsimp only
           simp only [if_pos e]
           rw [hr]
           rfl
         · refine Eq.trans ?_ (congrArg eRow ((congrFun hR1 i).trans (if_neg e)).symm)
           dsimp only
           simp only [if_neg e])
  · (repeat' first | exact True.intro | exact rfl | apply And.intro | exact .inl rfl | exact .inr (le_of_nble rfl))
  cbv
  repeat' first
    | exact (no hA (by assumption)).elim
    | apply And.intro
    | exact True.intro
    | with_reducible rfl
    | exact same_of hA rfl
    | refine br_of hA (fun _ => ?_) (fun _ => ?_)
    | exact imp_of hA id
    | (refine imp_of hA ?_; subst hA; simp only [real, Bool.true_and]; exact id)
    | (refine ind_of hA ?_; decide +kernel)
    | (intro _ _; first | rfl | trivial)
  all_goals
    intro i hi
    exact congrArg eRow ((congrFun hR1 i).trans (hR' i hi).symm)
end Go.Rk
/- A worker's methods: window. -/
namespace Go.Rk
set_option linter.unusedSimpArgs false
set_option linter.unusedVariables false
open Go.Proofs
set_option maxRecDepth 100000
set_option maxHeartbeats 1000000
theorem k_addf (j : JobT) (mk : Int) (n : Nat) (R : Nat → RowT) (c : Nat) (hc : c ≤ 1080000) (P : Nat → PaneT) (d : Nat) (hd : d ≤ 1080000) (Q : Nat → LatT) (q : Nat) (hq : q < n) (v : Int) (r : RowT) (hr : r = addR (R q) v) (t : RowT × List PaneT) (ht : t = tellS j mk r) (R' : Nat → RowT) (hR' : ∀ i, i < n → R' i = if i = q then t.1 else R i) (c' : Nat) (hc' : c' = c + t.2.length) (P' : Nat → PaneT) (hP' : ∀ i, i < c' → P' i = if i < c then P i else t.2.getD (i - c) zPan) : MeetsO Try.prog 140 [.c (.bp 1920 1 0), .c (.op 1793 1 q 0), .c (.d (eI v))]
    [(1920, 1, .box [.d (eI j.srcs), .d (eI j.tsks), .d (eI j.kind), .d (eI j.size), .d (eI j.step), .d (eI j.late), .d (eI j.tell), .d (eB j.piece), .d (eI j.least), .d (eI j.room), .d (eI mk), .own 1793 0 n 1, .own 2001 0 c 1, .own 2002 0 d 1]), (1793, 1, .arr 13 n fun i => eRow (R i)), (2001, 1, .arr 9 c fun i => ePane (P i)), (2002, 1, .arr 7 d fun i => eLat (Q i))] (.tup [])
    [(1920, 1, .box [.d (eI j.srcs), .d (eI j.tsks), .d (eI j.kind), .d (eI j.size), .d (eI j.step), .d (eI j.late), .d (eI j.tell), .d (eB j.piece), .d (eI j.least), .d (eI j.room), .d (eI mk), .own 1793 0 n 1, .own 2001 0 c' 2, .own 2002 0 d 1]), (1793, 1, .arr 13 n fun i => eRow (R' i)), (2001, 2, .arr 9 c' fun i => ePane (P' i)), (2002, 1, .arr 7 d fun i => eLat (Q i)), (6384, 1, .dead), (8560, 1, .dead)] := by
  have hw : r.win = (R q).win := by rw [hr]; rfl
  unfold tellS at ht
  by_cases hm : mk < r.win.e
  · rw [if_pos hm] at ht
    subst ht
    have hcc : c' = c := hc'
    subst hcc
    have hPP : P' = fun i => if i < c' then P i else P' i := by
      funext i
      by_cases h : i < c'
      · rw [if_pos h, hP' i h, if_pos h]
      · rw [if_neg h]
    have := k_addfn j mk n R c' hc P d hd Q q hq v r hr (by rw [← hw]; exact hm) R' hR'
    have e : ∀ i, i < c' → ePane (P i) = ePane (P' i) := fun i hi => by rw [hP' i hi, if_pos hi]
    exact meetsO_up this ⟨⟨rfl, rfl, okR_refl _⟩, ⟨rfl, rfl, okR_refl _⟩, ⟨rfl, rfl, rfl, rfl, e⟩, ⟨rfl, rfl, okR_refl _⟩, ⟨rfl, rfl, okR_refl _⟩, ⟨rfl, rfl, okR_refl _⟩, trivial⟩
  · rw [if_neg hm] at ht
    subst ht
    have hcc : c' = c + 1 := hc'
    subst hcc
    refine k_addft j mk n R c hc P d hd Q q hq v r hr (by rw [← hw]; exact hm) R' hR' P' fun i hi => ?_
    rw [hP' i hi]
    by_cases h : i < c
    · rw [if_pos h, if_pos h]
    · rw [if_neg h, if_neg h, show i - c = 0 by omega]; rfl
theorem k_addn (j : JobT) (mk : Int) (n : Nat) (R : Nat → RowT) (c : Nat) (hc : c ≤ 1080000) (P : Nat → PaneT) (d : Nat) (hd : d ≤ 1080000) (Q : Nat → LatT) (q : Nat) (hq : q < n) (v : Int) (r : RowT) (hr : r = addR (R q) v) (t : RowT × List PaneT) (ht : t = tellS j mk r) (R' : Nat → RowT) (hR' : ∀ i, i < n → R' i = if i = q then t.1 else R i) (c' : Nat) (hc' : c' = c + t.2.length) (P' : Nat → PaneT) (hP' : ∀ i, i < c' → P' i = if i < c then P i else t.2.getD (i - c) zPan) : MeetsO Try.prog 140 [.c (.bp 1920 1 0), .c (.op 2664 1 q 0), .c (.d (eI v))]
    [(1920, 1, .box [.d (eI j.srcs), .d (eI j.tsks), .d (eI j.kind), .d (eI j.size), .d (eI j.step), .d (eI j.late), .d (eI j.tell), .d (eB j.piece), .d (eI j.least), .d (eI j.room), .d (eI mk), .own 2664 0 n 1, .own 2001 0 c 1, .own 2002 0 d 1]), (2664, 1, .arr 13 n fun i => eRow (R i)), (2001, 1, .arr 9 c fun i => ePane (P i)), (2002, 1, .arr 7 d fun i => eLat (Q i))] (.tup [])
    [(1920, 1, .box [.d (eI j.srcs), .d (eI j.tsks), .d (eI j.kind), .d (eI j.size), .d (eI j.step), .d (eI j.late), .d (eI j.tell), .d (eB j.piece), .d (eI j.least), .d (eI j.room), .d (eI mk), .own 2664 0 n 1, .own 2001 0 c' 2, .own 2002 0 d 1]), (2664, 1, .arr 13 n fun i => eRow (R' i)), (2001, 2, .arr 9 c' fun i => ePane (P' i)), (2002, 1, .arr 7 d fun i => eLat (Q i)), (6384, 1, .dead), (8560, 1, .dead)] := by
  have hw : r.win = (R q).win := by rw [hr]; rfl
  unfold tellS at ht
  by_cases hm : mk < r.win.e
  · rw [if_pos hm] at ht
    subst ht
    have hcc : c' = c := hc'
    subst hcc
    have hPP : P' = fun i => if i < c' then P i else P' i := by
      funext i
      by_cases h : i < c'
      · rw [if_pos h, hP' i h, if_pos h]
      · rw [if_neg h]
    have := k_addnn j mk n R c' hc P d hd Q q hq v r hr (by rw [← hw]; exact hm) R' hR'
    have e : ∀ i, i < c' → ePane (P i) = ePane (P' i) := fun i hi => by rw [hP' i hi, if_pos hi]
    exact meetsO_up this ⟨⟨rfl, rfl, okR_refl _⟩, ⟨rfl, rfl, okR_refl _⟩, ⟨rfl, rfl, rfl, rfl, e⟩, ⟨rfl, rfl, okR_refl _⟩, ⟨rfl, rfl, okR_refl _⟩, ⟨rfl, rfl, okR_refl _⟩, trivial⟩
  · rw [if_neg hm] at ht
    subst ht
    have hcc : c' = c + 1 := hc'
    subst hcc
    refine k_addnt j mk n R c hc P d hd Q q hq v r hr (by rw [← hw]; exact hm) R' hR' P' fun i hi => ?_
    rw [hP' i hi]
    by_cases h : i < c
    · rw [if_pos h, if_pos h]
    · rw [if_neg h, if_neg h, show i - c = 0 by omega]; rfl
def EXW : FuncId → List Nat × Bool := fun f => bif nbeq f 1 then ([3000], false) else bif nbeq f 140 then ([99], false) else bif nbeq f 141 then ([99], false) else bif nbeq f 139 then ([99], false) else ([], false)
theorem k_wgone (j : JobT) (mk : Int) (n : Nat) (R : Nat → RowT) (c : Nat) (hc : c ≤ 1080000) (P : Nat → PaneT) (d : Nat) (hd : d ≤ 1080000) (Q : Nat → LatT) (x : ItmT) (w : WinT) (hov : w64 (w.e + j.late) ≤ mk) (Q' : Nat → LatT) (hQ' : ∀ i, i < d + 1 → Q' i = if i < d then Q i else ⟨x, w⟩) : MeetsO Try.prog 106 [.c (.bp 1920 1 0), .agg ((eItm x).map .d), .agg ((eWin w).map .d)]
    [(1920, 1, .box [.d (eI j.srcs), .d (eI j.tsks), .d (eI j.kind), .d (eI j.size), .d (eI j.step), .d (eI j.late), .d (eI j.tell), .d (eB j.piece), .d (eI j.least), .d (eI j.room), .d (eI mk), .own 1793 0 n 1, .own 2001 0 c 1, .own 2002 0 d 1]), (1793, 1, .arr 13 n fun i => eRow (R i)), (2001, 1, .arr 9 c fun i => ePane (P i)), (2002, 1, .arr 7 d fun i => eLat (Q i))] (.tup [])
    [(1920, 1, .box [.d (eI j.srcs), .d (eI j.tsks), .d (eI j.kind), .d (eI j.size), .d (eI j.step), .d (eI j.late), .d (eI j.tell), .d (eB j.piece), .d (eI j.least), .d (eI j.room), .d (eI mk), .own 1793 0 n 1, .own 2001 0 c 1, .own 2002 0 (d + 1) 2]), (1793, 1, .arr 13 n fun i => eRow (R i)), (2001, 1, .arr 9 c fun i => ePane (P i)), (2002, 2, .arr 7 (d + 1) fun i => eLat (Q' i)), (3256, 1, .dead), (3320, 1, .dead), (4320, 1, .dead), (4384, 1, .dead), (4448, 1, .dead), (5984, 1, .dead)] := by
  have kG := k_gonet j mk n R c hc P d hd Q x w w hov Q' hQ'
  refine inl_of (EX := EXW) ttok mixed Try.func106 rfl (by kernel_rfl) (by decide) (by kernel_rfl) rfl rfl ?_
  generalize hA : real = A
  generalize hM : MeetsB Try.prog = M
  cbv
  repeat' first
    | (exfalso; rename_i h; cases h; done)
    | apply And.intro
    | exact True.intro
    | with_reducible rfl
    | exact same_of hA rfl
    | refine br_of hA (fun _ => ?_) (fun _ => ?_)
    | exact imp_of hA id
    | (refine imp_of hA ?_; subst hA; simp only [real, Bool.true_and]; exact id)
    | (refine ind_of hA ?_; decide +kernel)
    | (refine inl_call hA _ _ _ ⟨fun _ => (by rw [← hM]; exact kG), (by cbv; repeat' first | apply And.intro | exact True.intro | rfl | exact .inr trivial | exact .inl trivial), ?_⟩; cbv)
    | (intro _ _; first | rfl | trivial)
theorem k_wfound (j : JobT) (mk : Int) (n : Nat) (R : Nat → RowT) (c : Nat) (hc : c ≤ 1080000) (P : Nat → PaneT) (d : Nat) (hd : d ≤ 1080000) (Q : Nat → LatT) (x : ItmT) (w : WinT) (hn : n ≤ 1080000) (hov : mk < w64 (w.e + j.late)) (i : Nat) (hi : i < n) (he : IsR x.key w (R i)) (hb : ∀ q, q < i → ¬ IsR x.key w (R q)) (t : RowT × List PaneT) (ht : t = tellS j mk (addR (R i) x.v)) (R' : Nat → RowT) (hR' : ∀ q, q < n → R' q = if q = i then t.1 else R q) (c' : Nat) (hc' : c' = c + t.2.length) (P' : Nat → PaneT) (hP' : ∀ q, q < c' → P' q = if q < c then P q else t.2.getD (q - c) zPan) : MeetsO Try.prog 106 [.c (.bp 1920 1 0), .agg ((eItm x).map .d), .agg ((eWin w).map .d)]
    [(1920, 1, .box [.d (eI j.srcs), .d (eI j.tsks), .d (eI j.kind), .d (eI j.size), .d (eI j.step), .d (eI j.late), .d (eI j.tell), .d (eB j.piece), .d (eI j.least), .d (eI j.room), .d (eI mk), .own 1793 0 n 1, .own 2001 0 c 1, .own 2002 0 d 1]), (1793, 1, .arr 13 n fun i => eRow (R i)), (2001, 1, .arr 9 c fun i => ePane (P i)), (2002, 1, .arr 7 d fun i => eLat (Q i))] (.tup [])
    [(1920, 1, .box [.d (eI j.srcs), .d (eI j.tsks), .d (eI j.kind), .d (eI j.size), .d (eI j.step), .d (eI j.late), .d (eI j.tell), .d (eB j.piece), .d (eI j.least), .d (eI j.room), .d (eI mk), .own 1793 0 n 1, .own 2001 0 c' 2, .own 2002 0 d 1]), (1793, 1, .arr 13 n fun i => eRow (R' i)), (2001, 2, .arr 9 c' fun i => ePane (P' i)), (2002, 1, .arr 7 d fun i => eLat (Q i)), (3256, 1, .dead), (3320, 1, .dead), (4320, 1, .dead), (4384, 1, .dead), (4448, 1, .dead), (6384, 1, .dead), (8560, 1, .dead)] := by
  have kG := k_gonef j mk n R c hc P d hd Q x w w hov
  obtain ⟨z, hz, cF⟩ := c_find mk n hn R x.key w
  have hzi : z = (i : Int) := firstIx_one hz (.at i hi he hb)
  subst hzi
  have kA := fun q (e : q = i) => k_addf j mk n R c hc P d hd Q q (by omega) x.v (addR (R q) x.v) rfl t (by rw [e]; exact ht) R' (by rw [e]; exact hR') c' hc' P' hP'
  refine inl_of (EX := EXW) ttok mixed Try.func106 rfl (by kernel_rfl) (by decide) (by kernel_rfl) rfl rfl ?_
  generalize hA : real = A
  generalize hM : MeetsB Try.prog = M
  cbv
  repeat' first
    | (exfalso; rename_i h; cases h; done)
    | (exfalso; rename_i h; subst hA; exact (of_decide_eq_false h) (Int.natCast_nonneg i))
    | apply And.intro
    | exact True.intro
    | with_reducible rfl
    | exact same_of hA rfl
    | refine br_of hA (fun _ => ?_) (fun _ => ?_)
    | exact imp_of hA id
    | (refine imp_of hA ?_; subst hA; simp only [real, Bool.true_and]; exact id)
    | (refine ind_of hA ?_; decide +kernel)
    | (refine inl_call hA _ _ _ ⟨fun _ => (by rw [← hM]; exact kG), (by cbv; repeat' first | apply And.intro | exact True.intro | rfl | exact .inr trivial | exact .inl trivial), ?_⟩; cbv)
    | (refine call_of2 hA hM _ cF (by (subst hA; first | rfl | (simp only [sub0r]; try rfl))) ?_; cbv)
    | (refine inl_call hA _ _ _ ⟨fun _ => (by rw [← hM]; exact kA (A.add 0 (A.nat (i : Int))) (by subst hA; exact Nat.zero_add i)), (by cbv; repeat' first | apply And.intro | exact True.intro | rfl | exact .inr trivial | exact .inl trivial), ?_⟩; cbv)
    | (refine inb_of hA fun h => ?_; exact ⟨Int.natCast_nonneg _, Int.ofNat_lt.2 hi⟩)
    | (intro _ _; first | rfl | trivial)
theorem k_wnew (j : JobT) (mk : Int) (n : Nat) (R : Nat → RowT) (c : Nat) (hc : c ≤ 1080000) (P : Nat → PaneT) (d : Nat) (hd : d ≤ 1080000) (Q : Nat → LatT) (x : ItmT) (w : WinT) (hn : n ≤ 1070000) (hov : mk < w64 (w.e + j.late)) (hno : ∀ q, q < n → ¬ IsR x.key w (R q)) (i : Nat) (hi : i ≤ n) (h1 : ∀ q, q < i → RA (R q) (nrow x.key w)) (h2 : ∀ q, i ≤ q → q < n → ¬ RA (R q) (nrow x.key w)) (t : RowT × List PaneT) (ht : t = tellS j mk (addR (nrow x.key w) x.v)) (R' : Nat → RowT) (hR' : ∀ q, q < n + 1 → R' q = if q < i then R q else if q = i then t.1 else R (q - 1)) (c' : Nat) (hc' : c' = c + t.2.length) (P' : Nat → PaneT) (hP' : ∀ q, q < c' → P' q = if q < c then P q else t.2.getD (q - c) zPan) : MeetsO Try.prog 106 [.c (.bp 1920 1 0), .agg ((eItm x).map .d), .agg ((eWin w).map .d)]
    [(1920, 1, .box [.d (eI j.srcs), .d (eI j.tsks), .d (eI j.kind), .d (eI j.size), .d (eI j.step), .d (eI j.late), .d (eI j.tell), .d (eB j.piece), .d (eI j.least), .d (eI j.room), .d (eI mk), .own 1793 0 n 1, .own 2001 0 c 1, .own 2002 0 d 1]), (1793, 1, .arr 13 n fun i => eRow (R i)), (2001, 1, .arr 9 c fun i => ePane (P i)), (2002, 1, .arr 7 d fun i => eLat (Q i))] (.tup [])
    [(1920, 1, .box [.d (eI j.srcs), .d (eI j.tsks), .d (eI j.kind), .d (eI j.size), .d (eI j.step), .d (eI j.late), .d (eI j.tell), .d (eB j.piece), .d (eI j.least), .d (eI j.room), .d (eI mk), .own 2664 0 (n + 1) 1, .own 2001 0 c' 2, .own 2002 0 d 1]), (2664, 1, .arr 13 (n + 1) fun i => eRow (R' i)), (2001, 2, .arr 9 c' fun i => ePane (P' i)), (2002, 1, .arr 7 d fun i => eLat (Q i)), (3256, 1, .dead), (3320, 1, .dead), (4320, 1, .dead), (4384, 1, .dead), (4448, 1, .dead), (6384, 1, .dead), (8560, 1, .dead), (1793, 2, .dead), (1192, 1, .dead), (2600, 2, .dead)] := by
  have kG := k_gonef j mk n R c hc P d hd Q x w w hov
  obtain ⟨z, hz, cF⟩ := c_find mk n (by omega) R x.key w
  have hzi : z = -1 := firstIx_one hz (.none hno)
  subst hzi
  obtain ⟨R1, hR1⟩ : ∃ R1 : Nat → RowT, R1 = fun q => if q < i then R q else if q = i then nrow x.key w else R (q - 1) := ⟨_, rfl⟩
  have e1 : R1 i = nrow x.key w := by rw [hR1]; dsimp only; rw [if_neg (Nat.lt_irrefl i), if_pos rfl]
  have kP := k_putw j mk n R c hc P d hd Q 1 (by omega) (nrow x.key w) i hi h1 h2 R1 (fun q _ => by rw [hR1])
  have kA := k_addn j mk (n + 1) R1 c hc P d hd Q i (by omega) x.v (addR (R1 i) x.v) rfl t (by rw [e1]; exact ht) R' (fun q hq => by
    rw [hR' q hq, hR1]
    dsimp only
    by_cases a : q < i
    · rw [if_pos a, if_neg (by omega), if_pos a]
    · rw [if_neg a]
      by_cases b : q = i
      · rw [if_pos b, if_pos b]
      · rw [if_neg b, if_neg b, if_neg a, if_neg b]) c' hc' P' hP'
  refine inl_of (EX := EXW) ttok mixed Try.func106 rfl (by kernel_rfl) (by decide) (by kernel_rfl) rfl rfl ?_
  generalize hA : real = A
  generalize hM : MeetsB Try.prog = M
  cbv
  repeat' first
    | (exfalso; rename_i h; cases h; done)
    | (exfalso; rename_i h; subst hA; exact absurd (show (0 : Int) ≤ -1 from of_decide_eq_true h) (by omega))
    | apply And.intro
    | exact True.intro
    | with_reducible rfl
    | exact same_of hA rfl
    | refine br_of hA (fun _ => ?_) (fun _ => ?_)
    | exact imp_of hA id
    | (refine imp_of hA ?_; subst hA; simp only [real, Bool.true_and]; exact id)
    | (refine ind_of hA ?_; decide +kernel)
    | (refine inl_call hA _ _ _ ⟨fun _ => (by rw [← hM]; exact kG), (by cbv; repeat' first | apply And.intro | exact True.intro | rfl | exact .inr trivial | exact .inl trivial), ?_⟩; cbv)
    | (refine call_of2 hA hM _ cF (by (subst hA; first | rfl | (simp only [sub0r]; try rfl))) ?_; cbv)
    | (refine inl_call hA _ _ _ ⟨fun _ => (by rw [← hM]; exact kP), (by cbv; repeat' first | apply And.intro | exact True.intro | rfl | exact .inr trivial | exact .inl trivial), ?_⟩; cbv)
    | (refine inl_call hA _ _ _ ⟨fun _ => (by rw [← hM]; exact kA), (by cbv; repeat' first | apply And.intro | exact True.intro | rfl | exact .inr trivial | exact .inl trivial), ?_⟩; cbv)
    | (intro _ _; first | rfl | trivial)
end Go.Rk
/- Lists that grow at their end, by number and members. -/
namespace Go.Rk
set_option linter.unusedSimpArgs false
set_option linter.unusedVariables false
def Ext {α : Type} (z : α) (c : Nat) (P : Nat → α) (ps : List α) (c' : Nat) (P' : Nat → α) : Prop := c' = c + ps.length ∧ ∀ q, q < c' → P' q = if q < c then P q else ps.getD (q - c) z
theorem ext_nil {α : Type} (z : α) (c : Nat) (P : Nat → α) : Ext z c P [] c P := ⟨rfl, fun q hq => (if_pos hq).symm⟩
theorem ext_ex {α : Type} (z : α) (c : Nat) (P : Nat → α) (ps : List α) : ∃ c' P', Ext z c P ps c' P' := ⟨c + ps.length, fun q => if q < c then P q else ps.getD (q - c) z, rfl, fun _ _ => rfl⟩
theorem ext_snoc {α : Type} {z : α} {c c1 : Nat} {P P1 P2 : Nat → α} {ps : List α} {x : α} (h : Ext z c P ps c1 P1) (h2 : ∀ q, q < c1 + 1 → P2 q = if q < c1 then P1 q else x) : Ext z c P (ps ++ [x]) (c1 + 1) P2 := by
  obtain ⟨rfl, h1⟩ := h
  refine ⟨by simp; omega, fun q hq => ?_⟩
  rw [h2 q hq]
  by_cases a : q < c + ps.length
  · rw [if_pos a, h1 q a]
    by_cases b : q < c
    · rw [if_pos b, if_pos b]
    · rw [if_neg b, if_neg b, List.getD_eq_getElem?_getD, List.getD_eq_getElem?_getD, List.getElem?_append_left (by omega)]
  · rw [if_neg a, if_neg (by omega)]
    have e : q - c = ps.length := by omega
    rw [e]; simp
theorem ext_app {α : Type} {z : α} {c c1 c2 : Nat} {P P1 P2 : Nat → α} {ps qs : List α} (h : Ext z c P ps c1 P1) (h2 : Ext z c1 P1 qs c2 P2) : Ext z c P (ps ++ qs) c2 P2 := by
  obtain ⟨rfl, h1⟩ := h
  obtain ⟨rfl, h2⟩ := h2
  refine ⟨by simp; omega, fun q hq => ?_⟩
  rw [h2 q hq]
  by_cases a : q < c + ps.length
  · rw [if_pos a, h1 q a]
    by_cases b : q < c
    · rw [if_pos b, if_pos b]
    · rw [if_neg b, if_neg b, List.getD_eq_getElem?_getD, List.getD_eq_getElem?_getD, List.getElem?_append_left (by omega)]
  · rw [if_neg a, if_neg (by omega), List.getD_eq_getElem?_getD, List.getD_eq_getElem?_getD, List.getElem?_append_right (by omega), show q - (c + ps.length) = q - c - ps.length by omega]
theorem ext_lst {α : Type} {z : α} {c c' : Nat} {P P' : Nat → α} {l ps : List α} (h : Lst z l c P) (h2 : Ext z c P ps c' P') : Lst z (l ++ ps) c' P' := by
  obtain ⟨rfl, h1⟩ := h
  obtain ⟨rfl, h2⟩ := h2
  refine ⟨by simp, fun q hq => ?_⟩
  rw [h2 q hq]
  by_cases b : q < l.length
  · rw [if_pos b, h1 q b, List.getD_eq_getElem?_getD, List.getD_eq_getElem?_getD, List.getElem?_append_left b]
  · rw [if_neg b, List.getD_eq_getElem?_getD, List.getD_eq_getElem?_getD, List.getElem?_append_right (by omega)]
theorem oldL_snoc (k : Int) (w : WinT) (l : List RowT) (r : RowT) : oldL k w (l ++ [r]) = oldL k w l ++ if tchR k w r = true then [r] else [] := by
  unfold oldL; rw [List.filter_append]; congr 1
  cases h : tchR k w r <;> simp [h]
theorem goneL_snoc (l : List RowT) (r : RowT) : goneL (l ++ [r]) = goneL l ++ if 0 < r.told then [goneP r] else [] := by
  unfold goneL; rw [List.filter_append, List.map_append]; congr 1
  by_cases h : 0 < r.told <;> simp [h]
theorem oldL_len (k : Int) (w : WinT) (l : List RowT) : (oldL k w l).length ≤ l.length := List.length_filter_le _ _
theorem restL_len (k : Int) (w : WinT) (l : List RowT) : (restL k w l).length ≤ l.length := List.length_filter_le _ _
theorem one_iff {w : WinT} {l : List RowT} {k : Nat} {G : Nat → RowT} (h : Lst zRow l k G) : oneB w l = true ↔ k = 1 ∧ (G 0).win.s = w.s ∧ (G 0).win.e = w.e := by
  obtain ⟨rfl, h2⟩ := h
  match l, h2 with
  | [], _ => simp [oneB]
  | [o], h2 =>
    have e : G 0 = o := h2 0 (by simp)
    simp [oneB, e]
  | a :: b :: r, _ => simp [oneB]
theorem lst_eq {α : Type} {z : α} {l : List α} {n : Nat} {g : Nat → α} (h : Lst z l n g) : l = (List.range n).map g := by
  obtain ⟨rfl, h2⟩ := h
  refine List.ext_getElem (by simp) fun i h1 h3 => ?_
  have := h2 i h1
  rw [List.getD_eq_getElem?_getD, List.getElem?_eq_getElem h1] at this
  simp [this]
end Go.Rk
/- A worker's methods: session. -/
namespace Go.Rk
set_option linter.unusedSimpArgs false
set_option linter.unusedVariables false
open Go.Proofs
set_option maxRecDepth 100000
set_option maxHeartbeats 1000000
open Classical in
set_option maxRecDepth 100000 in
theorem c_touched (r : RowT) (x : ItmT) (w : WinT) : ∃ b, (b = true ↔ tchR x.key w r = true) ∧ Meets Try.prog 138 [xd (eRow r), .c (.d (.p (eItm x))), .c (.d (.p (eWin w)))] ⟨.one (.c (.d (eB b))), [none, none, none]⟩ := by
  obtain ⟨b, hb⟩ : ∃ b, b = decide (tchR x.key w r = true) := ⟨_, rfl⟩
  refine ⟨b, by rw [hb, decide_eq_true_eq], ?_⟩
  refine meets_of (H := []) (EX := EXA) ttok mixed Try.func138 rfl (by kernel_rfl) (by decide) ?_
  generalize hA : real = A
  generalize hM : MeetsB Try.prog = M
  cbv
  repeat' first
    | apply And.intro
    | exact True.intro
    | with_reducible rfl
    | exact same_of hA rfl
    | refine br_of hA (fun _ => ?_) (fun _ => ?_)
    | exact imp_of hA id
    | (refine imp_of hA ?_; subst hA; simp only [real, Bool.true_and]; exact id)
    | (refine ind_of hA ?_; decide +kernel)
    | (refine call_ex hA hM (c_WinTouch _ _ _ _) (fun _ _ => ?_); cbv)
  all_goals obtain ⟨k, ⟨s, e⟩, ⟨x1, x2, x3, x4⟩, ⟨x5, x6, x7, x8⟩, x9, x10⟩ := r; obtain ⟨s2, e2⟩ := w; obtain ⟨z1, z2, z3, z4, z5⟩ := x
  all_goals subst hA
  all_goals refine congrArg (fun b => XA.one (.c (.d (eB b)))) (Bool.eq_iff_iff.2 ?_)
  all_goals subst_vars
  all_goals simp only [real, bifA, bifB, bifC, bifD, beqB, decide_eq_true_eq, decide_eq_false_iff_not, beqI, bneI, beqIF, bneIF, ne_eq, Bool.and_eq_true, Bool.or_eq_true, Bool.not_eq_true', Bool.not_eq_false', Bool.and_eq_false_iff, Bool.or_eq_false_iff, Bool.false_eq_true, and_false, false_and, or_false, false_or, and_true, true_and, not_true_eq_false, not_false_eq_true, true_iff, false_iff, IntKind.wrap_i64, tchR, WinOkP, AggOkP] at *
  all_goals first | omega | exact decide_eq_true_iff.symm
def EXSg : FuncId → List Nat × Bool := fun f => bif nbeq f 1 then ([3000], false) else bif nbeq f 66 then ([0], false) else bif nbeq f 65 then ([99], false) else bif nbeq f 140 then ([99], false) else bif nbeq f 141 then ([99], false) else bif nbeq f 139 then ([99], false) else ([], false)
def st_s1g (j : JobT) (mk : Int) (n : Nat) (R : Nat → RowT) (c : Nat) (P : Nat → PaneT) (d : Nat) (Q : Nat → LatT) (x : ItmT) (w : WinT) (i k : Nat) (G : Nat → RowT) (sp : WinT) (kn : AggT) : St := ⟨[(24, .c (.d (eI i))), (23, .c (.d (eI n))), (22, .c (.own 1793 0 n 1)), (9, .c (.own 3600 0 k 1)), (6, .c (.clo 138 [(3256, 1), (3320, 1)])), (4, .c (.bp 3256 1 0)), (5, .c (.bp 3320 1 0)), (7, .c (.bp 3448 1 0)), (8, .c (.bp 3512 1 0)), (0, .c (.bp 1920 1 0))], [(1920, 1, .box [.d (eI j.srcs), .d (eI j.tsks), .d (eI j.kind), .d (eI j.size), .d (eI j.step), .d (eI j.late), .d (eI j.tell), .d (eB j.piece), .d (eI j.least), .d (eI j.room), .d (eI mk), .own 1793 0 n 1, .own 2001 0 c 1, .own 2002 0 d 1]), (1793, 1, .arr 13 n fun i => eRow (R i)), (2001, 1, .arr 9 c fun i => ePane (P i)), (2002, 1, .arr 7 d fun i => eLat (Q i)), (3256, 1, .box ((eItm x).map .d)), (3320, 1, .box ((eWin w).map .d)), (3448, 1, .box ((eWin sp).map .d)), (3512, 1, .box ((eAgg kn).map .d)), (3600, 1, .arr 13 k fun i => eRow (G i))]⟩
theorem k_sg (j : JobT) (mk : Int) (n : Nat) (R : Nat → RowT) (c : Nat) (hc : c ≤ 1080000) (P : Nat → PaneT) (d : Nat) (hd : d ≤ 1080000) (Q : Nat → LatT) (x : ItmT) (w : WinT) (hn : n ≤ 300) (hcs : c ≤ 1000000) (L : List RowT) (hl : Lst zRow L n R) (sp : WinT) (hsp : sp = spanL w (oldL x.key w L)) (hov : w64 (sp.e + j.late) ≤ mk) (Q' : Nat → LatT) (hQ' : ∀ i, i < d + 1 → Q' i = if i < d then Q i else ⟨x, w⟩) : MeetsO Try.prog 105 [.c (.bp 1920 1 0), .agg ((eItm x).map .d), .agg ((eWin w).map .d)]
    [(1920, 1, .box [.d (eI j.srcs), .d (eI j.tsks), .d (eI j.kind), .d (eI j.size), .d (eI j.step), .d (eI j.late), .d (eI j.tell), .d (eB j.piece), .d (eI j.least), .d (eI j.room), .d (eI mk), .own 1793 0 n 1, .own 2001 0 c 1, .own 2002 0 d 1]), (1793, 1, .arr 13 n fun i => eRow (R i)), (2001, 1, .arr 9 c fun i => ePane (P i)), (2002, 1, .arr 7 d fun i => eLat (Q i))] (.tup [])
    [(1920, 1, .box [.d (eI j.srcs), .d (eI j.tsks), .d (eI j.kind), .d (eI j.size), .d (eI j.step), .d (eI j.late), .d (eI j.tell), .d (eB j.piece), .d (eI j.least), .d (eI j.room), .d (eI mk), .own 1793 0 n 1, .own 2001 0 c 1, .own 2002 0 (d + 1) 2]), (1793, 1, .arr 13 n fun i => eRow (R i)), (2001, 1, .arr 9 c fun i => ePane (P i)), (2002, 2, .arr 7 (d + 1) fun i => eLat (Q' i)), (3256, 1, .dead), (3320, 1, .dead), (3448, 1, .dead), (3512, 1, .dead), (3600, 1, .dead), (4320, 1, .dead), (4384, 1, .dead), (4448, 1, .dead), (5984, 1, .dead)] := by
  have hnL : n ≤ maxLen := Nat.le_trans (show n ≤ 1080000 by omega) (by decide)
  refine inl_ofH [999, 10] (EX := EXSg) ttok mixed Try.func105 rfl (by kernel_rfl) (by decide) rfl rfl rfl rfl ?_
  generalize hA : real = A
  generalize hM : MeetsB Try.prog = M
  cbv
  repeat' first
    | apply And.intro
    | exact True.intro
    | with_reducible rfl
    | exact same_of hA rfl
    | refine br_of hA (fun _ => ?_) (fun _ => ?_)
    | exact imp_of hA id
    | (refine imp_of hA ?_; subst hA; simp only [real, Bool.true_and]; exact id)
    | (refine ind_of hA ?_; decide +kernel)
  refine loop_ofG hA (α := { y : Nat × Nat × (Nat → RowT) × WinT × AggT // y.1 ≤ n ∧ Lst zRow (oldL x.key w (L.take y.1)) y.2.1 y.2.2.1 ∧ y.2.2.2.1 = spanL w (oldL x.key w (L.take y.1)) ∧ y.2.2.2.2 = ((oldL x.key w (L.take y.1)).map (·.all)).foldl aggB zAgg }) (fun y => st_s1g j mk n R c P d Q x w y.1.1 y.1.2.1 y.1.2.2.1 y.1.2.2.2.1 y.1.2.2.2.2) (fun y => n - y.1.1) ⟨(0, 0, (fun _ => zRow), w, zAgg), Nat.zero_le _, ⟨rfl, fun k h => absurd h (Nat.not_lt_zero k)⟩, rfl, rfl⟩ ?_ ?_
  · refine cov_prom 9 3600 1 13 (fun _ => eRow zRow) rfl rfl (cov_ofG ?_ ?_ ?_)
    · subst hA; (repeat' first | exact True.intro | exact rfl | apply And.intro | (intro _ _; first | rfl | trivial))
    · subst hA; (repeat' first | exact True.intro | exact rfl | apply And.intro | (intro _ _; first | rfl | trivial) )
    · subst hA; (repeat' first | exact True.intro | exact rfl | apply And.intro | exact .inl rfl | exact .inr (le_of_nble rfl))
  rintro ⟨⟨u, k, G, s1, kn⟩, hu, hG, hs1, hkn⟩
  have hu : u ≤ n := hu
  have hG : Lst zRow (oldL x.key w (L.take u)) k G := hG
  have hs1 : s1 = spanL w (oldL x.key w (L.take u)) := hs1
  have hkn : kn = ((oldL x.key w (L.take u)).map (·.all)).foldl aggB zAgg := hkn
  have hki : k ≤ u := by
    rw [hG.1]
    refine Nat.le_trans (oldL_len _ _ _) ?_
    rw [List.length_take]; omega
  obtain ⟨sp2, hsp2⟩ : ∃ z, z = winSpan s1 (R u).win := ⟨_, rfl⟩
  obtain ⟨kn2, hkn2⟩ : ∃ z, z = aggB kn (R u).all := ⟨_, rfl⟩
  have cS := fun q (e : q = u) => c_WinSpan s1 (R q).win sp2 (by rw [e]; exact hsp2)
  have cB := fun q (e : q = u) => c_AggBoth kn (R q).all kn2 (by rw [e]; exact hkn2)
  have eq0 : A.add 0 (A.nat (Int.ofNat u)) = u := by subst hA; exact Nat.zero_add u
  have hsn : u < n → oldL x.key w (L.take (u + 1)) = oldL x.key w (L.take u) ++ if tchR x.key w (R u) = true then [R u] else [] := fun h => by rw [lst_take hl h, oldL_snoc]
  cbv
  repeat' first
    | apply And.intro
    | exact True.intro
    | with_reducible rfl
    | exact same_of hA rfl
    | refine br_of hA (fun _ => ?_) (fun _ => ?_)
    | exact imp_of hA id
    | (refine imp_of hA ?_; subst hA; simp only [real, Bool.true_and]; exact id)
    | (refine ind_of hA ?_; decide +kernel)
    | (refine call_of hA hM _ (cS _ eq0) ?_; cbv)
    | (refine call_of hA hM _ (cB _ eq0) ?_; cbv)
    | (refine call_ex hA hM (c_touched _ x w) (fun _ _ => ?_); cbv)
    | (refine inb_lt hA ?_; first | exact lt2_of hA (by assumption) | exact lt_of hA (by assumption))
    | exact room_add2 hA (by omega) (by decide)
    | exact flat_row hA _ _
  · rename_i hlt b hb hc
    have hlt' : u < n := lt2_of hA hlt
    have ht : tchR x.key w (R u) = true := by
      rw [← eq0]
      exact hb.1 hc
    refine ⟨⟨(u + 1, k + 1, (fun q => if q < k then G q else R u), sp2, kn2), hlt', ?_, ?_, ?_⟩, by dsimp only; omega, cov_ofG ?_ ?_ ?_⟩
    · dsimp only; rw [hsn hlt', if_pos ht]
      exact lst_snoc hG
    · dsimp only; rw [hsn hlt', if_pos ht]
      rw [spanL_app, ← hs1]; exact hsp2
    · dsimp only; rw [hsn hlt', if_pos ht]
      rw [List.map_append, List.foldl_append, ← hkn]; exact hkn2
    · subst hA; (repeat' first | exact True.intro | exact rfl | apply And.intro | exact congrArg (fun x => DV.v (.int .i64 x)) (up64 hlt' hnL))
    · subst hA
      (repeat' first | exact True.intro | exact rfl | apply And.intro | (intro _ _; first | rfl | trivial) | (intro q hq; refine Eq.trans (push_if (A := real) eRow rfl k G (R (0 + u)) (fun _ => eRow zRow) q hq) (congrArg eRow (by rw [Nat.zero_add]))))
    · subst hA; (repeat' first | exact True.intro | exact rfl | apply And.intro | exact .inl rfl | exact .inr (le_of_nble rfl))
  · rename_i hlt b hb hc
    have hlt' : u < n := lt2_of hA hlt
    have ht : ¬ tchR x.key w (R u) = true := by
      rw [← eq0]
      intro h; have := hb.2 h; rw [hc] at this; cases this
    refine ⟨⟨(u + 1, k, G, s1, kn), hlt', ?_, ?_, ?_⟩, by dsimp only; omega, cov_ofG ?_ ?_ ?_⟩
    · dsimp only; rw [hsn hlt', if_neg ht]
      rw [List.append_nil]; exact hG
    · dsimp only; rw [hsn hlt', if_neg ht]
      rw [List.append_nil]; exact hs1
    · dsimp only; rw [hsn hlt', if_neg ht]
      rw [List.append_nil]; exact hkn
    · subst hA; (repeat' first | exact True.intro | exact rfl | apply And.intro | exact congrArg (fun x => DV.v (.int .i64 x)) (up64 hlt' hnL))
    · subst hA; (repeat' first | exact True.intro | exact rfl | apply And.intro | (intro _ _; first | rfl | trivial))
    · subst hA; (repeat' first | exact True.intro | exact rfl | apply And.intro | exact .inl rfl | exact .inr (le_of_nble rfl))
  rename_i hge
  have hin : n = u := by have := ge2_of hA hge; omega
  subst hin
  rw [lst_all hl] at hG hs1 hkn
  have hss : s1 = sp := hs1.trans hsp.symm
  subst hss
  refine stop_ofG hA ⟨[(0, .c (.bp 1920 1 0)), (4, .c (.bp 3256 1 0)), (5, .c (.bp 3320 1 0)), (6, .c (.clo 138 [(3256, 1), (3320, 1)])), (7, .c (.bp 3448 1 0)), (8, .c (.bp 3512 1 0)), (9, .c (.own 3600 0 k 1))], [(1920, 1, .box [.d (eI j.srcs), .d (eI j.tsks), .d (eI j.kind), .d (eI j.size), .d (eI j.step), .d (eI j.late), .d (eI j.tell), .d (eB j.piece), .d (eI j.least), .d (eI j.room), .d (eI mk), .own 1793 0 n 1, .own 2001 0 c 1, .own 2002 0 d 1]), (1793, 1, .arr 13 n fun i => eRow (R i)), (2001, 1, .arr 9 c fun i => ePane (P i)), (2002, 1, .arr 7 d fun i => eLat (Q i)), (3256, 1, .box ((eItm x).map .d)), (3320, 1, .box ((eWin w).map .d)), (3448, 1, .box ((eWin s1).map .d)), (3512, 1, .box ((eAgg kn).map .d)), (3600, 1, .arr 13 k fun i => eRow (G i))]⟩ (cov_ofG ?_ ?_ ?_) ?_
  · subst hA; (repeat' first | exact True.intro | exact rfl | apply And.intro | (intro _ _; first | rfl | trivial))
  · subst hA; (repeat' first | exact True.intro | exact rfl | apply And.intro | (intro _ _; first | rfl | trivial) )
  · subst hA; (repeat' first | exact True.intro | exact rfl | apply And.intro | exact .inl rfl | exact .inr (le_of_nble rfl))
  cbv
  have kG := k_gonet j mk n R c hc P d hd Q x w s1 hov Q' hQ'
  repeat' first
    | (exfalso; rename_i h; cases h; done)
    | apply And.intro
    | exact True.intro
    | with_reducible rfl
    | exact same_of hA rfl
    | refine br_of hA (fun _ => ?_) (fun _ => ?_)
    | exact imp_of hA id
    | (refine imp_of hA ?_; subst hA; simp only [real, Bool.true_and]; exact id)
    | (refine ind_of hA ?_; decide +kernel)
    | (refine inl_call hA _ _ _ ⟨fun _ => (by rw [← hM]; exact kG), (by cbv; repeat' first | apply And.intro | exact True.intro | rfl | exact .inr trivial | exact .inl trivial), ?_⟩; cbv)
    | (intro _ _; first | rfl | trivial)
def EXSo : FuncId → List Nat × Bool := fun f => bif nbeq f 1 then ([3000], false) else bif nbeq f 66 then ([0], false) else bif nbeq f 65 then ([99], false) else bif nbeq f 140 then ([99], false) else bif nbeq f 141 then ([99], false) else bif nbeq f 139 then ([99], false) else ([], false)
def st_s1o (j : JobT) (mk : Int) (n : Nat) (R : Nat → RowT) (c : Nat) (P : Nat → PaneT) (d : Nat) (Q : Nat → LatT) (x : ItmT) (w : WinT) (i k : Nat) (G : Nat → RowT) (sp : WinT) (kn : AggT) : St := ⟨[(24, .c (.d (eI i))), (23, .c (.d (eI n))), (22, .c (.own 1793 0 n 1)), (9, .c (.own 3600 0 k 1)), (6, .c (.clo 138 [(3256, 1), (3320, 1)])), (4, .c (.bp 3256 1 0)), (5, .c (.bp 3320 1 0)), (7, .c (.bp 3448 1 0)), (8, .c (.bp 3512 1 0)), (0, .c (.bp 1920 1 0))], [(1920, 1, .box [.d (eI j.srcs), .d (eI j.tsks), .d (eI j.kind), .d (eI j.size), .d (eI j.step), .d (eI j.late), .d (eI j.tell), .d (eB j.piece), .d (eI j.least), .d (eI j.room), .d (eI mk), .own 1793 0 n 1, .own 2001 0 c 1, .own 2002 0 d 1]), (1793, 1, .arr 13 n fun i => eRow (R i)), (2001, 1, .arr 9 c fun i => ePane (P i)), (2002, 1, .arr 7 d fun i => eLat (Q i)), (3256, 1, .box ((eItm x).map .d)), (3320, 1, .box ((eWin w).map .d)), (3448, 1, .box ((eWin sp).map .d)), (3512, 1, .box ((eAgg kn).map .d)), (3600, 1, .arr 13 k fun i => eRow (G i))]⟩
theorem k_so (j : JobT) (mk : Int) (n : Nat) (R : Nat → RowT) (c : Nat) (hc : c ≤ 1080000) (P : Nat → PaneT) (d : Nat) (hd : d ≤ 1080000) (Q : Nat → LatT) (x : ItmT) (w : WinT) (hn : n ≤ 300) (hcs : c ≤ 1000000) (L : List RowT) (hl : Lst zRow L n R) (sp : WinT) (hsp : sp = spanL w (oldL x.key w L)) (hov : mk < w64 (sp.e + j.late)) (hone : oneB sp (oldL x.key w L) = true) (i : Nat) (hi : i < n) (he : IsR x.key sp (R i)) (hb : ∀ q, q < i → ¬ IsR x.key sp (R q)) (t : RowT × List PaneT) (ht : t = tellS j mk (addR (R i) x.v)) (R' : Nat → RowT) (hR' : ∀ q, q < n → R' q = if q = i then t.1 else R q) (c' : Nat) (P' : Nat → PaneT) (hP' : Ext zPan c P t.2 c' P') : MeetsO Try.prog 105 [.c (.bp 1920 1 0), .agg ((eItm x).map .d), .agg ((eWin w).map .d)]
    [(1920, 1, .box [.d (eI j.srcs), .d (eI j.tsks), .d (eI j.kind), .d (eI j.size), .d (eI j.step), .d (eI j.late), .d (eI j.tell), .d (eB j.piece), .d (eI j.least), .d (eI j.room), .d (eI mk), .own 1793 0 n 1, .own 2001 0 c 1, .own 2002 0 d 1]), (1793, 1, .arr 13 n fun i => eRow (R i)), (2001, 1, .arr 9 c fun i => ePane (P i)), (2002, 1, .arr 7 d fun i => eLat (Q i))] (.tup [])
    [(1920, 1, .box [.d (eI j.srcs), .d (eI j.tsks), .d (eI j.kind), .d (eI j.size), .d (eI j.step), .d (eI j.late), .d (eI j.tell), .d (eB j.piece), .d (eI j.least), .d (eI j.room), .d (eI mk), .own 1793 0 n 1, .own 2001 0 c' 2, .own 2002 0 d 1]), (1793, 1, .arr 13 n fun i => eRow (R' i)), (2001, 2, .arr 9 c' fun i => ePane (P' i)), (2002, 1, .arr 7 d fun i => eLat (Q i)), (3256, 1, .dead), (3320, 1, .dead), (3448, 1, .dead), (3512, 1, .dead), (3600, 1, .dead), (4320, 1, .dead), (4384, 1, .dead), (4448, 1, .dead), (6384, 1, .dead), (8560, 1, .dead)] := by
  have hnL : n ≤ maxLen := Nat.le_trans (show n ≤ 1080000 by omega) (by decide)
  refine inl_ofH [999, 10] (EX := EXSo) ttok mixed Try.func105 rfl (by kernel_rfl) (by decide) rfl rfl rfl rfl ?_
  generalize hA : real = A
  generalize hM : MeetsB Try.prog = M
  cbv
  repeat' first
    | apply And.intro
    | exact True.intro
    | with_reducible rfl
    | exact same_of hA rfl
    | refine br_of hA (fun _ => ?_) (fun _ => ?_)
    | exact imp_of hA id
    | (refine imp_of hA ?_; subst hA; simp only [real, Bool.true_and]; exact id)
    | (refine ind_of hA ?_; decide +kernel)
  refine loop_ofG hA (α := { y : Nat × Nat × (Nat → RowT) × WinT × AggT // y.1 ≤ n ∧ Lst zRow (oldL x.key w (L.take y.1)) y.2.1 y.2.2.1 ∧ y.2.2.2.1 = spanL w (oldL x.key w (L.take y.1)) ∧ y.2.2.2.2 = ((oldL x.key w (L.take y.1)).map (·.all)).foldl aggB zAgg }) (fun y => st_s1o j mk n R c P d Q x w y.1.1 y.1.2.1 y.1.2.2.1 y.1.2.2.2.1 y.1.2.2.2.2) (fun y => n - y.1.1) ⟨(0, 0, (fun _ => zRow), w, zAgg), Nat.zero_le _, ⟨rfl, fun k h => absurd h (Nat.not_lt_zero k)⟩, rfl, rfl⟩ ?_ ?_
  · refine cov_prom 9 3600 1 13 (fun _ => eRow zRow) rfl rfl (cov_ofG ?_ ?_ ?_)
    · subst hA; (repeat' first | exact True.intro | exact rfl | apply And.intro | (intro _ _; first | rfl | trivial))
    · subst hA; (repeat' first | exact True.intro | exact rfl | apply And.intro | (intro _ _; first | rfl | trivial) )
    · subst hA; (repeat' first | exact True.intro | exact rfl | apply And.intro | exact .inl rfl | exact .inr (le_of_nble rfl))
  rintro ⟨⟨u, k, G, s1, kn⟩, hu, hG, hs1, hkn⟩
  have hu : u ≤ n := hu
  have hG : Lst zRow (oldL x.key w (L.take u)) k G := hG
  have hs1 : s1 = spanL w (oldL x.key w (L.take u)) := hs1
  have hkn : kn = ((oldL x.key w (L.take u)).map (·.all)).foldl aggB zAgg := hkn
  have hki : k ≤ u := by
    rw [hG.1]
    refine Nat.le_trans (oldL_len _ _ _) ?_
    rw [List.length_take]; omega
  obtain ⟨sp2, hsp2⟩ : ∃ z, z = winSpan s1 (R u).win := ⟨_, rfl⟩
  obtain ⟨kn2, hkn2⟩ : ∃ z, z = aggB kn (R u).all := ⟨_, rfl⟩
  have cS := fun q (e : q = u) => c_WinSpan s1 (R q).win sp2 (by rw [e]; exact hsp2)
  have cB := fun q (e : q = u) => c_AggBoth kn (R q).all kn2 (by rw [e]; exact hkn2)
  have eq0 : A.add 0 (A.nat (Int.ofNat u)) = u := by subst hA; exact Nat.zero_add u
  have hsn : u < n → oldL x.key w (L.take (u + 1)) = oldL x.key w (L.take u) ++ if tchR x.key w (R u) = true then [R u] else [] := fun h => by rw [lst_take hl h, oldL_snoc]
  cbv
  repeat' first
    | apply And.intro
    | exact True.intro
    | with_reducible rfl
    | exact same_of hA rfl
    | refine br_of hA (fun _ => ?_) (fun _ => ?_)
    | exact imp_of hA id
    | (refine imp_of hA ?_; subst hA; simp only [real, Bool.true_and]; exact id)
    | (refine ind_of hA ?_; decide +kernel)
    | (refine call_of hA hM _ (cS _ eq0) ?_; cbv)
    | (refine call_of hA hM _ (cB _ eq0) ?_; cbv)
    | (refine call_ex hA hM (c_touched _ x w) (fun _ _ => ?_); cbv)
    | (refine inb_lt hA ?_; first | exact lt2_of hA (by assumption) | exact lt_of hA (by assumption))
    | exact room_add2 hA (by omega) (by decide)
    | exact flat_row hA _ _
  · rename_i hlt b hb hc
    have hlt' : u < n := lt2_of hA hlt
    have ht : tchR x.key w (R u) = true := by
      rw [← eq0]
      exact hb.1 hc
    refine ⟨⟨(u + 1, k + 1, (fun q => if q < k then G q else R u), sp2, kn2), hlt', ?_, ?_, ?_⟩, by dsimp only; omega, cov_ofG ?_ ?_ ?_⟩
    · dsimp only; rw [hsn hlt', if_pos ht]
      exact lst_snoc hG
    · dsimp only; rw [hsn hlt', if_pos ht]
      rw [spanL_app, ← hs1]; exact hsp2
    · dsimp only; rw [hsn hlt', if_pos ht]
      rw [List.map_append, List.foldl_append, ← hkn]; exact hkn2
    · subst hA; (repeat' first | exact True.intro | exact rfl | apply And.intro | exact congrArg (fun x => DV.v (.int .i64 x)) (up64 hlt' hnL))
    · subst hA
      (repeat' first | exact True.intro | exact rfl | apply And.intro | (intro _ _; first | rfl | trivial) | (intro q hq; refine Eq.trans (push_if (A := real) eRow rfl k G (R (0 + u)) (fun _ => eRow zRow) q hq) (congrArg eRow (by rw [Nat.zero_add]))))
    · subst hA; (repeat' first | exact True.intro | exact rfl | apply And.intro | exact .inl rfl | exact .inr (le_of_nble rfl))
  · rename_i hlt b hb hc
    have hlt' : u < n := lt2_of hA hlt
    have ht : ¬ tchR x.key w (R u) = true := by
      rw [← eq0]
      intro h; have := hb.2 h; rw [hc] at this; cases this
    refine ⟨⟨(u + 1, k, G, s1, kn), hlt', ?_, ?_, ?_⟩, by dsimp only; omega, cov_ofG ?_ ?_ ?_⟩
    · dsimp only; rw [hsn hlt', if_neg ht]
      rw [List.append_nil]; exact hG
    · dsimp only; rw [hsn hlt', if_neg ht]
      rw [List.append_nil]; exact hs1
    · dsimp only; rw [hsn hlt', if_neg ht]
      rw [List.append_nil]; exact hkn
    · subst hA; (repeat' first | exact True.intro | exact rfl | apply And.intro | exact congrArg (fun x => DV.v (.int .i64 x)) (up64 hlt' hnL))
    · subst hA; (repeat' first | exact True.intro | exact rfl | apply And.intro | (intro _ _; first | rfl | trivial))
    · subst hA; (repeat' first | exact True.intro | exact rfl | apply And.intro | exact .inl rfl | exact .inr (le_of_nble rfl))
  rename_i hge
  have hin : n = u := by have := ge2_of hA hge; omega
  subst hin
  rw [lst_all hl] at hG hs1 hkn
  have hss : s1 = sp := hs1.trans hsp.symm
  subst hss
  refine stop_ofG hA ⟨[(0, .c (.bp 1920 1 0)), (4, .c (.bp 3256 1 0)), (5, .c (.bp 3320 1 0)), (6, .c (.clo 138 [(3256, 1), (3320, 1)])), (7, .c (.bp 3448 1 0)), (8, .c (.bp 3512 1 0)), (9, .c (.own 3600 0 k 1))], [(1920, 1, .box [.d (eI j.srcs), .d (eI j.tsks), .d (eI j.kind), .d (eI j.size), .d (eI j.step), .d (eI j.late), .d (eI j.tell), .d (eB j.piece), .d (eI j.least), .d (eI j.room), .d (eI mk), .own 1793 0 n 1, .own 2001 0 c 1, .own 2002 0 d 1]), (1793, 1, .arr 13 n fun i => eRow (R i)), (2001, 1, .arr 9 c fun i => ePane (P i)), (2002, 1, .arr 7 d fun i => eLat (Q i)), (3256, 1, .box ((eItm x).map .d)), (3320, 1, .box ((eWin w).map .d)), (3448, 1, .box ((eWin s1).map .d)), (3512, 1, .box ((eAgg kn).map .d)), (3600, 1, .arr 13 k fun i => eRow (G i))]⟩ (cov_ofG ?_ ?_ ?_) ?_
  · subst hA; (repeat' first | exact True.intro | exact rfl | apply And.intro | (intro _ _; first | rfl | trivial))
  · subst hA; (repeat' first | exact True.intro | exact rfl | apply And.intro | (intro _ _; first | rfl | trivial) )
  · subst hA; (repeat' first | exact True.intro | exact rfl | apply And.intro | exact .inl rfl | exact .inr (le_of_nble rfl))
  cbv
  have kG := k_gonef j mk n R c hc P d hd Q x w s1 hov
  have hk1 : k = 1 ∧ (G 0).win.s = s1.s ∧ (G 0).win.e = s1.e := (one_iff hG).1 hone
  obtain ⟨hk1, hg1, hg2⟩ := hk1
  subst hk1
  obtain ⟨z, hz, cF⟩ := c_find mk n (by omega) R x.key s1
  have hzi : z = (i : Int) := firstIx_one hz (.at i hi he hb)
  subst hzi
  have kA := fun q (e : q = i) => k_addf j mk n R c hc P d hd Q q (by omega) x.v (addR (R q) x.v) rfl t (by rw [e]; exact ht) R' (by rw [e]; exact hR') c' hP'.1 P' hP'.2
  repeat' first
    | (exfalso; rename_i h; cases h; done)
    | (exfalso; rename_i h; subst hA; simp [real, hg1, hg2] at h; done)
    | apply And.intro
    | exact True.intro
    | with_reducible rfl
    | exact same_of hA rfl
    | refine br_of hA (fun _ => ?_) (fun _ => ?_)
    | exact imp_of hA id
    | (refine imp_of hA ?_; subst hA; simp only [real, Bool.true_and]; exact id)
    | (refine ind_of hA ?_; decide +kernel)
    | (refine inl_call hA _ _ _ ⟨fun _ => (by rw [← hM]; exact kG), (by cbv; repeat' first | apply And.intro | exact True.intro | rfl | exact .inr trivial | exact .inl trivial), ?_⟩; cbv)
    | exact flat_row hA _ _
    | (refine inb_of hA fun _ => ?_; exact ⟨Int.le_refl 0, Int.one_pos⟩)
    | (refine call_of2 hA hM _ cF (by (subst hA; first | rfl | (simp only [sub0r]; try rfl))) ?_; cbv)
    | (refine inl_call hA _ _ _ ⟨fun _ => (by rw [← hM]; exact kA (A.add 0 (A.nat (i : Int))) (by subst hA; exact Nat.zero_add i)), (by cbv; repeat' first | apply And.intro | exact True.intro | rfl | exact .inr trivial | exact .inl trivial), ?_⟩; cbv)
    | (refine inb_of hA fun h => ?_; exact ⟨Int.natCast_nonneg _, Int.ofNat_lt.2 hi⟩)
    | (intro _ _; first | rfl | trivial)
end Go.Rk
