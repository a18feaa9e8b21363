/- Rows that a call hands back may be named anew within their number. -/
import Derived.Test.YtbkpfnddpnccmaaRk28
namespace Go.Rk
theorem OwnRep.rows {w : World} {N : Nat → Prop} {sz n : Nat} {row row' : Nat → List DV} {v : Value} {F : List Nat} (h : ∀ i, i < n → row i = row' i) (hx : OwnRep w N sz n row v F) : OwnRep w N sz n row' v F := by
  refine ⟨fun i hi => by rw [← h i hi]; exact hx.1 i hi, hx.2.imp id fun ⟨b, base, cap, cs, e, h1, h2, h3, h4, h5, h6, h7⟩ => ⟨b, base, cap, cs, e, h1, h2, h3, h4, h5, h6, fun i j x hi hj => ?_⟩⟩
  rw [← h i hi] at hj
  exact h7 i j x hi hj
theorem meets_rows {P : Program} {f : FuncId} {args : List XT} {sz n : Nat} {row row' : Nat → List DV} {back : List (Option XV)} (h : ∀ i, i < n → row i = row' i)
    (hm : Meets P f args ⟨.one (.c (.own sz n row)), back⟩) : Meets P f args ⟨.one (.c (.own sz n row')), back⟩ := by
  refine ⟨hm.1, fun w vals F N h1 h2 h3 h4 => ?_⟩
  refine (hm.2 w vals F N h1 h2 h3 h4).mono ?_
  rintro e w' ⟨v, F1, F2, g1, g2, g3, g4, g5, g6, g7, g8, g9⟩
  exact ⟨v, F1, F2, g1, g2, g3, g4, g5, g6, g7, OwnRep.rows h g8, g9⟩
/-- A slice that is none, taken as no rows. -/
theorem meets_nil {P : Program} {f : FuncId} {args : List XT} {sz : Nat} {row : Nat → List DV} {back : List (Option XV)}
    (hm : Meets P f args ⟨.one (.c (.d (.v nilS))), back⟩) : Meets P f args ⟨.one (.c (.own sz 0 row)), back⟩ := by
  refine ⟨hm.1, fun w vals F N h1 h2 h3 h4 => ?_⟩
  refine (hm.2 w vals F N h1 h2 h3 h4).mono ?_
  rintro e w' ⟨v, F1, F2, g1, g2, g3, g4, g5, g6, g7, g8, g9⟩
  refine ⟨v, F1, F2, g1, g2, g3, g4, g5, g6, g7, ?_, g9⟩
  obtain ⟨e, hd⟩ := g8
  refine ⟨fun i hi => absurd hi (Nat.not_lt_zero i), .inl ⟨rfl, e, none, ?_⟩⟩
  cases hd with
  | v _ _ => rfl
end Go.Rk
