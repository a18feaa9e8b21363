/- Rows of a table, as lists. -/
import Derived.Test.YtbkpfnddpnccmaaDSp
namespace Go.Rk
set_option linter.unusedSimpArgs false
set_option linter.unusedVariables false
def zTab : TabT := ⟨0, ⟨0, 0⟩, ⟨0, 0, 0, 0⟩⟩
def IsRow (key : Int) (w : WinT) (r : TabT) : Prop := r.key = key ∧ (r.win.s = w.s ∧ r.win.e = w.e)
instance (key : Int) (w : WinT) (r : TabT) : Decidable (IsRow key w r) := inferInstanceAs (Decidable (_ ∧ _))
def Ahead (r q : TabT) : Prop := r.key < q.key ∨ (r.key = q.key ∧ (r.win.s < q.win.s ∨ (r.win.s = q.win.s ∧ r.win.e < q.win.e)))
instance (r q : TabT) : Decidable (Ahead r q) := inferInstanceAs (Decidable (_ ∨ _))
/-- A list, by its number and its members. -/
def Lst {α : Type} (z : α) (l : List α) (n : Nat) (g : Nat → α) : Prop := n = l.length ∧ ∀ k, k < n → g k = l.getD k z
theorem lst_self {α : Type} (z : α) (l : List α) : Lst z l l.length (fun k => l.getD k z) := ⟨rfl, fun _ _ => rfl⟩
theorem lst_tells {α : Type} {z : α} {l : List α} {n : Nat} {g : Nat → α} (e : α → List DV) (h : Lst z l n g) : Tells z e l n (fun i => e (g i)) := ⟨h.1, fun k hk => congrArg e (h.2 k hk)⟩
theorem lst_take {α : Type} {z : α} {l : List α} {n : Nat} {g : Nat → α} (h : Lst z l n g) {i : Nat} (hi : i < n) : l.take (i + 1) = l.take i ++ [g i] := by
  rw [h.2 i hi]
  exact take_succ_getD (by rw [← h.1]; exact hi)
theorem lst_all {α : Type} {z : α} {l : List α} {n : Nat} {g : Nat → α} (h : Lst z l n g) : l.take n = l := by rw [h.1, List.take_length]
theorem lst_drop {α : Type} {z : α} {l : List α} {n : Nat} {g : Nat → α} (h : Lst z l n g) {i : Nat} (hi : i < n) : l.drop i = g i :: l.drop (i + 1) := by
  have hl : i < l.length := by rw [← h.1]; exact hi
  rw [List.drop_eq_getElem_cons hl, h.2 i hi, List.getD_eq_getElem?_getD, List.getElem?_eq_getElem hl]
  rfl
theorem lst_mem {α : Type} {z : α} {l : List α} {n : Nat} {g : Nat → α} (h : Lst z l n g) {x : α} (hx : x ∈ l) : ∃ k, k < n ∧ g k = x := by
  obtain ⟨k, hk⟩ := List.mem_iff_getElem?.1 hx
  have hl : k < l.length := (List.getElem?_eq_some_iff.1 hk).1
  refine ⟨k, by rw [h.1]; exact hl, ?_⟩
  rw [h.2 k (by rw [h.1]; exact hl), List.getD_eq_getElem?_getD, hk]
  rfl
/-- From a function that has so many members. -/
theorem lst_of {α : Type} (z : α) (n : Nat) (g : Nat → α) : Lst z ((List.range n).map g) n g := by
  refine ⟨by simp, fun k hk => ?_⟩
  rw [List.getD_eq_getElem?_getD, List.getElem?_map, List.getElem?_range hk]
  rfl
def tOut (key : Int) (w : WinT) : List TabT → List TabT
  | [] => []
  | r :: l => if IsRow key w r then tOut key w l else r :: tOut key w l
theorem tOut_app (key : Int) (w : WinT) : ∀ l m, tOut key w (l ++ m) = tOut key w l ++ tOut key w m
  | [], _ => rfl
  | r :: l, m => by
    show (if IsRow key w r then tOut key w (l ++ m) else r :: tOut key w (l ++ m)) = _
    rw [tOut_app key w l m]
    show _ = (if IsRow key w r then tOut key w l else r :: tOut key w l) ++ tOut key w m
    split <;> rfl
theorem tOut_len (key : Int) (w : WinT) : ∀ l, (tOut key w l).length ≤ l.length
  | [] => Nat.le_refl _
  | r :: l => by
    have := tOut_len key w l
    show (if IsRow key w r then tOut key w l else r :: tOut key w l).length ≤ _
    split <;> simp <;> omega
theorem tOut_in {key : Int} {w : WinT} {r : TabT} : ∀ {l : List TabT}, r ∈ tOut key w l ↔ r ∈ l ∧ ¬ IsRow key w r
  | [] => ⟨fun h => absurd h (List.not_mem_nil), fun h => absurd h.1 (List.not_mem_nil)⟩
  | q :: l => by
    show r ∈ (if IsRow key w q then tOut key w l else q :: tOut key w l) ↔ _
    split
    · rename_i h
      rw [tOut_in, List.mem_cons]
      constructor
      · rintro ⟨h1, h2⟩; exact ⟨.inr h1, h2⟩
      · rintro ⟨rfl | h1, h2⟩
        · exact absurd h h2
        · exact ⟨h1, h2⟩
    · rename_i h
      rw [List.mem_cons, List.mem_cons, tOut_in]
      constructor
      · rintro (rfl | ⟨h1, h2⟩)
        · exact ⟨.inl rfl, h⟩
        · exact ⟨.inr h1, h2⟩
      · rintro ⟨rfl | h1, h2⟩
        · exact .inl rfl
        · exact .inr ⟨h1, h2⟩
def tIns (r : TabT) : List TabT → List TabT
  | [] => [r]
  | q :: l => if Ahead r q then r :: q :: l else q :: tIns r l
theorem tIns_len (r : TabT) : ∀ l, (tIns r l).length = l.length + 1
  | [] => rfl
  | q :: l => by
    have := tIns_len r l
    show (if Ahead r q then r :: q :: l else q :: tIns r l).length = _
    split <;> simp <;> omega
/-- At the first place that it stands ahead of. -/
theorem tIns_at (r : TabT) : ∀ (l : List TabT) (i : Nat), (∀ x, x ∈ l.take i → ¬ Ahead r x) → (∀ x, l[i]? = some x → Ahead r x) → i ≤ l.length → tIns r l = l.take i ++ r :: l.drop i
  | [], i, _, _, h => by
    have : i = 0 := by simpa using h
    subst this
    rfl
  | q :: l, 0, _, h2, _ => by
    show (if Ahead r q then r :: q :: l else q :: tIns r l) = _
    rw [if_pos (h2 q rfl)]
    rfl
  | q :: l, i + 1, h1, h2, h3 => by
    show (if Ahead r q then r :: q :: l else q :: tIns r l) = _
    rw [if_neg (h1 q (by simp)), tIns_at r l i (fun x hx => h1 x (by rw [List.take_succ_cons]; exact List.mem_cons_of_mem _ hx)) (fun x hx => h2 x hx) (by simpa using h3)]
    rfl
def tPut (r : TabT) (l : List TabT) : List TabT := tIns r (tOut r.key r.win l)
theorem tPut_len (r : TabT) (l : List TabT) : (tPut r l).length ≤ l.length + 1 := by
  unfold tPut
  rw [tIns_len]
  have := tOut_len r.key r.win l
  omega
def tFind (key : Int) (w : WinT) : List TabT → Option AggT
  | [] => none
  | r :: l => if IsRow key w r then some r.agg else tFind key w l
theorem tFind_app (key : Int) (w : WinT) (r : TabT) : ∀ l m, (∀ x, x ∈ l → ¬ IsRow key w x) → tFind key w (l ++ m) = tFind key w m
  | [], _, _ => rfl
  | q :: l, m, h => by
    show (if IsRow key w q then some q.agg else tFind key w (l ++ m)) = _
    rw [if_neg (h q (by simp)), tFind_app key w r l m fun x hx => h x (List.mem_cons_of_mem _ hx)]
theorem room_add2 {A : Ar} (hA : real = A) {n m b : Nat} (hn : n + m ≤ 2000000) (hb : b ≤ 100000) : A.room (A.add n m) b := by
  subst hA
  have h1 : (n + m) * b ≤ 2000000 * 100000 := Nat.mul_le_mul hn hb
  exact ⟨Nat.le_trans h1 (by omega), Nat.le_trans hn (by omega)⟩
def mkTab (k : Int) : TabT := ⟨k, ⟨k + 1, k + 2⟩, ⟨k + 3, k + 4, k + 5, k + 6⟩⟩
theorem lt_of {A : Ar} (hA : real = A) {i n : Nat} (h : A.cmp .lss (Int.ofNat i) (A.int n) = true) : i < n := by
  subst hA
  have h : decide ((i : Int) < (n : Int)) = true := h
  rw [decide_eq_true_eq] at h
  omega
theorem ge_of {A : Ar} (hA : real = A) {i n : Nat} (h : A.cmp .lss (Int.ofNat i) (A.int n) = false) : n ≤ i := by
  subst hA
  have h : decide ((i : Int) < (n : Int)) = false := h
  rw [decide_eq_false_iff_not] at h
  omega
theorem inb_lt {A : Ar} (hA : real = A) {g : Bool} {i n : Nat} (h : i < n) : A.inb g (Int.ofNat i) n := by
  refine inb_of hA fun _ => ?_
  have e : Int.ofNat i = (i : Int) := rfl
  rw [e]
  omega
theorem ix0 {A : Ar} (hA : real = A) (i : Nat) : A.add 0 (A.nat (Int.ofNat i)) = i := by subst hA; exact Nat.zero_add i
theorem ixn {A : Ar} (hA : real = A) (i : Nat) : A.nat (Int.ofNat i) = i := by subst hA; rfl
def zAgg : AggT := ⟨0, 0, 0, 0⟩
/-- A row that is put in its place, told by numbers. -/
theorem tIns_lst {r : TabT} {l : List TabT} {n0 n1 i : Nat} {G0 G : Nat → TabT} (h0 : Lst zTab l n0 G0) (h1 : Lst zTab (tIns r l) n1 G) (hi : i ≤ n0) (ha : ∀ k, k < i → ¬ Ahead r (G0 k)) (hb : i < n0 → Ahead r (G0 i)) :
    n1 = n0 + 1 ∧ ∀ k, k < n0 + 1 → G k = if k < i then G0 k else if k = i then r else G0 (k - 1) := by
  have e : tIns r l = l.take i ++ r :: l.drop i := by
    refine tIns_at r l i (fun x hx => ?_) (fun x hx => ?_) (by rw [← h0.1]; exact hi)
    · obtain ⟨k, hk⟩ := List.mem_iff_getElem?.1 hx
      rw [List.getElem?_take] at hk
      split at hk
      · rename_i hki
        have := h0.2 k (by omega)
        rw [List.getD_eq_getElem?_getD, hk] at this
        have := ha k hki
        simp_all
      · cases hk
    · have hin : i < n0 := by rw [h0.1]; exact (List.getElem?_eq_some_iff.1 hx).1
      have := h0.2 i hin
      rw [List.getD_eq_getElem?_getD, hx] at this
      have := hb hin
      simp_all
  have hlen := tIns_len r l
  have hn1 : n1 = n0 + 1 := by rw [h1.1, hlen, h0.1]
  refine ⟨hn1, fun k hk => ?_⟩
  have htl : (l.take i).length = i := by rw [List.length_take, ← h0.1]; omega
  rw [h1.2 k (by omega), e, List.getD_eq_getElem?_getD]
  by_cases hki : k < i
  · rw [if_pos hki, List.getElem?_append_left (by omega), List.getElem?_take, if_pos hki, h0.2 k (by omega), List.getD_eq_getElem?_getD]
  · rw [if_neg hki, List.getElem?_append_right (by omega), htl]
    by_cases hk2 : k = i
    · rw [if_pos hk2, hk2, Nat.sub_self]; rfl
    · rw [if_neg hk2, show k - i = (k - 1 - i) + 1 by omega, List.getElem?_cons_succ, List.getElem?_drop, show i + (k - 1 - i) = k - 1 by omega, h0.2 (k - 1) (by omega), List.getD_eq_getElem?_getD]
theorem tFind_first {key : Int} {w : WinT} {l : List TabT} {n i : Nat} {g : Nat → TabT} (h : Lst zTab l n g) (hi : i < n) (hq : IsRow key w (g i)) (hb : ∀ k, k < i → ¬ IsRow key w (g k)) : tFind key w l = some (g i).agg := by
  have e : l = l.take i ++ l.drop i := (List.take_append_drop i l).symm
  rw [e, tFind_app key w (g i) _ _ (fun x hx => ?_), lst_drop h hi]
  · show (if IsRow key w (g i) then some (g i).agg else _) = _
    rw [if_pos hq]
  · obtain ⟨k, hk⟩ := List.mem_iff_getElem?.1 hx
    rw [List.getElem?_take] at hk
    split at hk
    · rename_i hki
      have h2 := h.2 k (by omega)
      rw [List.getD_eq_getElem?_getD, hk] at h2
      have h2 : g k = x := h2
      rw [← h2]
      exact hb k hki
    · cases hk
theorem tFind_none {key : Int} {w : WinT} {l : List TabT} {n : Nat} {g : Nat → TabT} (h : Lst zTab l n g) (hb : ∀ k, k < n → ¬ IsRow key w (g k)) : tFind key w l = none := by
  have := tFind_app key w zTab l [] (fun x hx => by obtain ⟨k, hk, rfl⟩ := lst_mem h hx; exact hb k hk)
  rw [List.append_nil] at this
  rw [this]; rfl
end Go.Rk
