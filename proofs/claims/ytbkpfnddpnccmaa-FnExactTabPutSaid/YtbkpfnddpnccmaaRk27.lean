/- What a call hands back may be taken as data that nobody writes. -/
import Derived.Test.YtbkpfnddpnccmaaRk26
namespace Go.Rk
def frzV : XV → XV
  | .own sz n row => .d (.sl sz n row)
  | x => x
def frzT : XT → XT
  | .c x => .c (frzV x)
  | .agg xs => .agg (xs.map frzV)
def frzA : XA → XA
  | .one x => .one (frzT x)
  | .tup xs => .tup (xs.map frzT)
def nbV : XV → Bool
  | .box _ => false
  | _ => true
def nbT : XT → Bool
  | .c x => nbV x
  | .agg xs => xs.all nbV
def nbA : XA → Bool
  | .one x => nbT x
  | .tup xs => xs.all nbT
section
variable {w : World} {N N' : Nat → Prop}
theorem OwnRep.frz {sz n : Nat} {row : Nat → List DV} {v : Value} {F : List Nat} (h : OwnRep w N sz n row v F) (hN : ∀ b, N b → N' b) (hF : ∀ b, b ∈ F → N' b) : DRep w N' (.sl sz n row) v := by
  obtain ⟨hl, ⟨rfl, rfl, ad, rfl⟩ | ⟨b, base, cap, cs, e, rfl, rfl, h0, hc, hb, hs, hr⟩⟩ := h
  · cases ad with
    | none => exact .nil _ _
    | some ad => exact .empty _ _ _
  · refine .sl sz n row b base cap cs e (0, 0) (fun i j => cs.getD (base + i * sz + j) undef) (hF b (by simp)) hb hc hs hl (fun i j x hi hj => ?_) (fun i j x hi hj => ?_)
    · obtain ⟨u, hu, _⟩ := hr i j x hi hj
      simp only [Array.getD_eq_getD_getElem?, hu, Option.getD_some]
    · obtain ⟨u, hu, hd⟩ := hr i j x hi hj
      simp only [Array.getD_eq_getD_getElem?, hu, Option.getD_some]
      exact hd.mono hN
theorem XVRep.frz {x : XV} {v : Value} {F : List Nat} (hb : nbV x = true) (h : XVRep w N x v F) (hN : ∀ b, N b → N' b) (hF : ∀ b, b ∈ F → N' b) : XVRep w N' (frzV x) v [] := by
  cases x with
  | d x => exact ⟨rfl, h.2.mono hN⟩
  | own sz n row => exact ⟨rfl, OwnRep.frz h hN hF⟩
  | box c => cases hb
theorem XVsRep.frz : ∀ {xs : List XV} {vs : List Value} {F : List Nat}, xs.all nbV = true → XVsRep w N xs vs F → (∀ b, N b → N' b) → (∀ b, b ∈ F → N' b) → XVsRep w N' (xs.map frzV) vs []
  | [], [], _, _, _, _, _ => rfl
  | [], _ :: _, _, _, h, _, _ => h.elim
  | _ :: _, [], _, _, h, _, _ => h.elim
  | x :: r, v :: s, F, hb, ⟨F1, F2, e, h1, h2⟩, hN, hF => by
    subst e
    simp only [List.all_cons, Bool.and_eq_true] at hb
    exact ⟨[], [], rfl, h1.frz hb.1 hN fun b h => hF b (by simp [h]), XVsRep.frz hb.2 h2 hN fun b h => hF b (by simp [h])⟩
theorem XTRep.frz {x : XT} {v : Value} {F : List Nat} (hb : nbT x = true) (h : XTRep w N x v F) (hN : ∀ b, N b → N' b) (hF : ∀ b, b ∈ F → N' b) : XTRep w N' (frzT x) v [] := by
  cases x with
  | c x => exact XVRep.frz hb h hN hF
  | agg xs =>
    obtain ⟨cs, e, h⟩ := h
    exact ⟨cs, e, XVsRep.frz hb h hN hF⟩
theorem XTsRep.frz : ∀ {xs : List XT} {vs : List Value} {F : List Nat}, xs.all nbT = true → XTsRep w N xs vs F → (∀ b, N b → N' b) → (∀ b, b ∈ F → N' b) → XTsRep w N' (xs.map frzT) vs []
  | [], [], _, _, _, _, _ => rfl
  | [], _ :: _, _, _, h, _, _ => h.elim
  | _ :: _, [], _, _, h, _, _ => h.elim
  | x :: r, v :: s, F, hb, ⟨F1, F2, e, h1, h2⟩, hN, hF => by
    subst e
    simp only [List.all_cons, Bool.and_eq_true] at hb
    exact ⟨[], [], rfl, h1.frz hb.1 hN fun b h => hF b (by simp [h]), XTsRep.frz hb.2 h2 hN fun b h => hF b (by simp [h])⟩
theorem XARep.frz {x : XA} {v : Value} {F : List Nat} (hb : nbA x = true) (h : XARep w N x v F) (hN : ∀ b, N b → N' b) (hF : ∀ b, b ∈ F → N' b) : XARep w N' (frzA x) v [] := by
  cases x with
  | one x => exact XTRep.frz hb h hN hF
  | tup xs =>
    obtain ⟨cs, e, h⟩ := h
    exact ⟨cs, e, XTsRep.frz hb h hN hF⟩
end
theorem back_mono {w : World} {N N' : Nat → Prop} (hN : ∀ b, N b → N' b) : ∀ {bs : List (Option XV)} {vs : List Value} {F : List Nat}, BackRep w N bs vs F → BackRep w N' bs vs F
  | [], [], _, h => h
  | [], _ :: _, _, h => h.elim
  | none :: _, [], _, h => h.elim
  | some _ :: _, [], _, h => h.elim
  | none :: r, _ :: s, F, h => back_mono (bs := r) (vs := s) hN (show BackRep w N r s F from h)
  | some x :: r, v :: s, F, ⟨F1, F2, e, h1, h2⟩ => by
    refine ⟨F1, F2, e, ?_, back_mono hN h2⟩
    clear h2
    cases x with
    | d x => exact ⟨h1.1, h1.2.mono hN⟩
    | own sz n row => exact OwnRep.tr (.inl hN) h1
    | box c =>
      obtain ⟨b, cs, e, F', g1, g2, g3, g4⟩ := h1
      refine ⟨b, cs, e, F', g1, g2, g3, ?_⟩
      clear g1 g2 g3
      generalize cs.toList = l at g4
      induction c generalizing l F' with
      | nil => cases l with
        | nil => exact g4
        | cons _ _ => exact g4.elim
      | cons y r ih => cases l with
        | nil => exact g4.elim
        | cons u s =>
          obtain ⟨G1, G2, e1, e2, e3⟩ := g4
          refine ⟨G1, G2, e1, ?_, ih _ _ e3⟩
          cases y with
          | d y => exact ⟨e2.1, e2.2.mono hN⟩
          | own sz n row => exact OwnRep.tr (.inl hN) e2
theorem meets_frz {P : Program} {f : FuncId} {args : List XT} {r : XA} {back : List (Option XV)} (h : Meets P f args ⟨r, back⟩) (hb : nbA r = true) : Meets P f args ⟨frzA r, back⟩ := by
  refine ⟨h.1, fun w vals F N h1 h2 h3 h4 => ?_⟩
  refine (h.2 w vals F N h1 h2 h3 h4).mono ?_
  rintro e w' ⟨v, F1, F2, g1, g2, g3, g4, g5, g6, g7, g8, g9⟩
  have hsub : ∀ b, Nout w w' N F (F1 ++ F2) b → Nout w w' N F ([] ++ F2) b := fun b hb => ⟨hb.1, fun hm => hb.2.1 (by simp at hm; simp [hm]), hb.2.2⟩
  refine ⟨v, [], F2, g1, g2, g3, g4, g5, fun b hb => g6 b (by simp at hb; simp [hb]), by simpa using (List.nodup_append.1 g7).2.1, ?_, back_mono hsub g9⟩
  refine XARep.frz hb g8 hsub fun b hb => ?_
  have h6 := g6 b (by simp [hb])
  refine ⟨h6.1, fun hm => ?_, ?_⟩
  · have := (List.nodup_append.1 g7).2.2 b hb b (by simpa using hm)
    exact this rfl
  · rcases h6.2 with h | h
    · exact .inr (.inl h)
    · exact .inr (.inr h)
section
variable {A : Ar}
/-- A call of which only this is known: it answers 'out b', and 'S b' holds. -/
theorem call_ex {P : Program} {M : FuncId → List XT → Out → Prop} (hA : real = A) (hM : Meets P = M) {g : Bool} {f : FuncId} {args : List XT} {K : Out → Prop} {β : Type} {S : β → Prop} {out : β → Out}
    (h : ∃ b, S b ∧ Meets P f args (out b)) (k : ∀ b, S b → K (out b)) : A.hold fun _ => ∃ out, (g = true → M f args out) ∧ K out := by
  obtain ⟨b, hb, h⟩ := h
  exact call_of hA hM _ h (k b hb)
theorem call_ex2 {P : Program} {M : FuncId → List XT → Out → Prop} (hA : real = A) (hM : Meets P = M) {g : Bool} {f : FuncId} {args args' : List XT} {K : Out → Prop} {β : Type} {S : β → Prop} {out : β → Out}
    (h : ∃ b, S b ∧ Meets P f args' (out b)) (ha : args = args') (k : ∀ b, S b → K (out b)) : A.hold fun _ => ∃ out, (g = true → M f args out) ∧ K out := by
  subst ha
  exact call_ex hA hM h k
theorem made_of {A : Ar} (hA : real = A) {n c : Int} {b : Nat} (h : 0 ≤ n ∧ n = c ∧ n * b ≤ 140737488355328 ∧ n ≤ 140737488355328) : A.made n c b := by subst hA; exact h
end
end Go.Rk
