/- Windows of a time, and pairs of records and windows, as lists. -/
import Derived.Test.YtbkpfnddpnccmaaDFm
namespace Go.Rk
set_option linter.unusedSimpArgs false
set_option linter.unusedVariables false
def zWin : WinT := ⟨0, 0⟩
def zLat : LatT := ⟨⟨0, 0, 0, 0, 0⟩, ⟨0, 0⟩⟩
def slideF (size step t : Int) : Nat → Int → List WinT
  | 0, _ => []
  | k + 1, f => if f ≤ t then (if t < f + size then [⟨f, f + size⟩] else []) ++ slideF size step t k (f + step) else []
theorem slideF_len (size step t : Int) : ∀ k f, (slideF size step t k f).length ≤ k
  | 0, _ => Nat.le_refl _
  | k + 1, f => by
    have := slideF_len size step t k (f + step)
    unfold slideF
    split
    · rw [List.length_append]
      split <;> simp <;> omega
    · simp
theorem slideF_st {size step t : Int} (hs : 1 ≤ step) : ∀ k f, (t + 1 - f).toNat ≤ k → slideF size step t (k + 1) f = slideF size step t k f
  | 0, f, h => by
    unfold slideF
    rw [if_neg (by omega)]
  | k + 1, f, h => by
    have ih := slideF_st (size := size) (t := t) hs k (f + step)
    unfold slideF
    by_cases hf : f ≤ t
    · rw [if_pos hf, if_pos hf, ih (by omega)]
    · rw [if_neg hf, if_neg hf]
/-- One step of it, with room to spare. -/
theorem slideF_go {size step t f : Int} (hs : 1 ≤ step) (h0 : 0 ≤ f) (h1 : t ≤ 60) (hf : f ≤ t) : slideF size step t 100 f = (if t < f + size then [⟨f, f + size⟩] else []) ++ slideF size step t 100 (f + step) := by
  have e : slideF size step t 100 (f + step) = slideF size step t 99 (f + step) := slideF_st hs 99 (f + step) (by omega)
  rw [e]
  show slideF size step t (99 + 1) f = _
  unfold slideF
  rw [if_pos hf]
  rfl
theorem slideF_end {size step t f : Int} (hf : ¬ f ≤ t) : slideF size step t 100 f = [] := by
  show slideF size step t (99 + 1) f = _
  unfold slideF
  rw [if_neg hf]
def winFrom (j : JobT) (t : Int) : Int := if j.kind = 1 then t - t.tmod j.size else if j.kind = 2 then 0 else t
def winStep (j : JobT) : Int := if j.kind = 1 then j.size else if j.kind = 2 then j.step else 1
def winsL (j : JobT) (t : Int) : List WinT := slideF j.size (winStep j) t 100 (winFrom j t)
theorem winsL_len (j : JobT) (t : Int) : (winsL j t).length ≤ 100 := slideF_len _ _ _ _ _
theorem winsL_fixed {j : JobT} {t : Int} (hk : j.kind = 1) (hs : 1 ≤ j.size) (h0 : 0 ≤ t) (h1 : t ≤ 60) : winsL j t = [⟨t - t.tmod j.size, t - t.tmod j.size + j.size⟩] := by
  have a := Int.tmod_nonneg j.size h0
  have b := Int.tmod_lt_of_pos t (show 0 < j.size by omega)
  have c : t.tmod j.size ≤ t := by
    rw [Int.tmod_eq_emod_of_nonneg h0]
    have := Int.emod_add_mul_ediv t j.size
    have := Int.mul_nonneg (show 0 ≤ j.size by omega) (Int.ediv_nonneg h0 (show 0 ≤ j.size by omega))
    omega
  unfold winsL winStep winFrom
  rw [if_pos hk, if_pos hk, slideF_go hs (by omega) h1 (by omega), if_pos (by omega), slideF_end (by omega)]
  rfl
theorem winsL_sess {j : JobT} {t : Int} (hk : j.kind = 3) (hs : 1 ≤ j.size) (h0 : 0 ≤ t) (h1 : t ≤ 60) : winsL j t = [⟨t, t + j.size⟩] := by
  unfold winsL winStep winFrom
  rw [if_neg (by omega), if_neg (by omega), if_neg (by omega), if_neg (by omega), slideF_go (by omega) h0 h1 (by omega), if_pos (by omega), slideF_end (by omega)]
  rfl
def pairsL (j : JobT) (g : Nat → ItmT) : Nat → List LatT
  | 0 => []
  | i + 1 => pairsL j g i ++ (winsL j (g i).t).map fun w => ⟨g i, w⟩
theorem pairsL_len (j : JobT) (g : Nat → ItmT) : ∀ i, (pairsL j g i).length ≤ 100 * i
  | 0 => Nat.le_refl _
  | i + 1 => by
    have := pairsL_len j g i
    have := winsL_len j (g i).t
    unfold pairsL
    rw [List.length_append, List.length_map]
    omega
def RecP (x : ItmT) : Prop := x.kind = 1 ∧ ItmOkP x
theorem recP_t {x : ItmT} (h : RecP x) : 0 ≤ x.t ∧ x.t ≤ 60 := by
  obtain ⟨h1, h2⟩ := h
  unfold ItmOkP at h2
  omega
def SpcOkP (j : JobT) (m : Nat) (g : Nat → ItmT) : Prop := JobOkP j ∧ m ≤ 120 ∧ ∀ i, i < m → RecP (g i)
open Classical in
noncomputable def spcL (j : JobT) (m : Nat) (g : Nat → ItmT) : List LatT := if SpcOkP j m g then pairsL j g m else []
def mkItm (k : Int) : ItmT := ⟨k, k + 1, k + 2, k + 3, k + 4⟩
def mkLat (k : Int) : LatT := ⟨⟨k, k + 1, k + 2, k + 3, k + 4⟩, ⟨k + 5, k + 6⟩⟩
/-- The list that so many rows tell. -/
def Tells {α : Type} (z : α) (e : α → List DV) (l : List α) (n : Nat) (row : Nat → List DV) : Prop := n = l.length ∧ ∀ k, k < n → row k = e (l.getD k z)
theorem tells_snoc {α : Type} {z : α} {e : α → List DV} {l : List α} {n : Nat} {row row' : Nat → List DV} {x : α} (h : Tells z e l n row)
    (h' : ∀ k, k < n + 1 → row' k = if k < n then row k else e x) : Tells z e (l ++ [x]) (n + 1) row' := by
  obtain ⟨rfl, h2⟩ := h
  refine ⟨by simp, fun k hk => ?_⟩
  rw [h' k hk]
  by_cases hl : k < l.length
  · rw [if_pos hl, h2 k hl, List.getD_eq_getElem?_getD, List.getD_eq_getElem?_getD, List.getElem?_append_left hl]
  · have : k = l.length := by omega
    subst this
    rw [if_neg hl]
    simp
theorem take_succ_getD {α : Type} {z : α} {l : List α} {k : Nat} (h : k < l.length) : l.take (k + 1) = l.take k ++ [l.getD k z] := by
  rw [List.take_add_one, List.getElem?_eq_getElem h, List.getD_eq_getElem?_getD, List.getElem?_eq_getElem h]
  rfl
end Go.Rk
