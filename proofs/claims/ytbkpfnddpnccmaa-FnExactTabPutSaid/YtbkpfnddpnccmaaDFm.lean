/- Counts and least numbers. -/
import Derived.Test.YtbkpfnddpnccmaaDSz
namespace Go.Rk
set_option linter.unusedSimpArgs false
set_option linter.unusedVariables false
def InOkP (j : JobT) (c : TskInT) : Prop := (c.queue.n : Int) ≤ j.room ∧ (0 ≤ c.mark ∧ c.mark ≤ 1000) ∧ ∀ i, i < c.queue.n → ItmOkP (c.queue.g i)
def ToldP (m : Int) (ps : Sl PaneT) (ls : Sl LatT) : Prop := (ps.n : Int) ≤ m ∧ (ls.n : Int) ≤ m ∧ (∀ i, i < ps.n → PaneOkP (ps.g i)) ∧ ∀ i, i < ls.n → LatOkP (ls.g i)
def TxnOkP (x : TxnT) : Prop := (0 ≤ x.n ∧ x.n ≤ 900) ∧ ToldP 1500 x.panes x.lates
/-- A call that is made where its guard holds alone. -/
theorem call_exg {A : Ar} {P : Program} {M : FuncId → List XT → Out → Prop} (hA : real = A) (hM : Meets P = M) {g : Bool} {f : FuncId} {args : List XT} {K : Out → Prop} {β : Type} {S : β → Prop} {out : β → Out}
    (hne : ∃ b, S b) (h : ∀ b, S b → g = true → Meets P f args (out b)) (k : ∀ b, S b → K (out b)) : A.hold fun _ => ∃ out, (g = true → M f args out) ∧ K out := by
  subst hA hM
  obtain ⟨b, hb⟩ := hne
  exact ⟨out b, fun hg => h b hb hg, k b hb⟩
theorem nex {b : Bool} {n : Nat} {P : Nat → Prop} (h : b = true ↔ ∃ i, i < n ∧ ¬ P i) : b = false ↔ ∀ i, i < n → P i := by
  rw [← Bool.not_eq_true, h]
  exact ⟨fun h i hi => Classical.byContradiction fun hn => h ⟨i, hi, hn⟩, fun h ⟨i, hi, hn⟩ => hn (h i hi)⟩
def cntB (p : Nat → Bool) : Nat → Nat
  | 0 => 0
  | i + 1 => cntB p i + (if p i = true then 1 else 0)
theorem cntB_le (p : Nat → Bool) : ∀ i, cntB p i ≤ i
  | 0 => Nat.le_refl _
  | i + 1 => by have := cntB_le p i; unfold cntB; split <;> omega
/-- The least of these and 'z'. -/
def LowP (z : Int) (n : Nat) (g : Nat → Int) (x : Int) : Prop := x ≤ z ∧ (∀ i, i < n → x ≤ g i) ∧ (x = z ∨ ∃ i, i < n ∧ x = g i)
theorem lowP_one {z : Int} {n : Nat} {g : Nat → Int} {x y : Int} (h : LowP z n g x) (h' : LowP z n g y) : x = y := by
  have a : x ≤ y := by
    rcases h'.2.2 with e | ⟨i, hi, e⟩
    · rw [e]; exact h.1
    · rw [e]; exact h.2.1 i hi
  have b : y ≤ x := by
    rcases h.2.2 with e | ⟨i, hi, e⟩
    · rw [e]; exact h'.1
    · rw [e]; exact h'.2.1 i hi
  omega
theorem lowP_step {z : Int} {n : Nat} {g : Nat → Int} {x : Int} (h : LowP z n g x) : LowP z (n + 1) g (if g n < x then g n else x) := by
  obtain ⟨h1, h2, h3⟩ := h
  split
  · refine ⟨by omega, fun i hi => ?_, .inr ⟨n, by omega, rfl⟩⟩
    rcases Nat.lt_succ_iff_lt_or_eq.1 hi with hi | rfl
    · have := h2 i hi; omega
    · omega
  · refine ⟨h1, fun i hi => ?_, h3.imp id fun ⟨i, hi, e⟩ => ⟨i, by omega, e⟩⟩
    rcases Nat.lt_succ_iff_lt_or_eq.1 hi with hi | rfl
    · exact h2 i hi
    · omega
theorem lowP_ex (z : Int) (n : Nat) (g : Nat → Int) : ∃ x, LowP z n g x := by
  induction n with
  | zero => exact ⟨z, by omega, fun i hi => absurd hi (Nat.not_lt_zero i), .inl rfl⟩
  | succ n ih => obtain ⟨x, hx⟩ := ih; exact ⟨_, lowP_step hx⟩
/-- The least of these, of which there is one. -/
def MinP (n : Nat) (g : Nat → Int) (x : Int) : Prop := (∀ i, i < n → x ≤ g i) ∧ ∃ i, i < n ∧ x = g i
theorem minP_of {n : Nat} {g : Nat → Int} {x : Int} (h0 : 0 < n) (h : LowP (g 0) n g x) : MinP n g x := ⟨h.2.1, h.2.2.elim (fun e => ⟨0, h0, e⟩) id⟩
theorem minP_one {n : Nat} {g : Nat → Int} {x y : Int} (h : MinP n g x) (h' : MinP n g y) : x = y := by
  obtain ⟨i, hi, e⟩ := h.2
  obtain ⟨j, hj, e'⟩ := h'.2
  have := h.1 j hj
  have := h'.1 i hi
  omega
def TskOkP (j : JobT) (t : TskT) : Prop := OpOkP j t.op ∧ (t.ins.n : Int) = j.srcs ∧ (0 ≤ t.wall ∧ t.wall ≤ 900) ∧ TxnOkP t.pend ∧ t.pend.n = 0 ∧ (∀ i, i < t.ins.n → InOkP j (t.ins.g i)) ∧
  cntB (fun i => (t.ins.g i).held) t.ins.n < t.ins.n ∧ LowP 1000 t.ins.n (fun i => (t.ins.g i).mark) t.op.mark
/-- With one more at the end. -/
theorem minP_low {n : Nat} {g h : Nat → Int} {x z : Int} (hg : ∀ i, i < n → h i = g i) (hz : h n = z) (hx : MinP (n + 1) h x) : LowP z n g x := by
  refine ⟨by rw [← hz]; exact hx.1 n (by omega), fun i hi => by rw [← hg i hi]; exact hx.1 i (by omega), ?_⟩
  obtain ⟨i, hi, e⟩ := hx.2
  rcases Nat.lt_succ_iff_lt_or_eq.1 hi with hi | rfl
  · exact .inr ⟨i, hi, by rw [e, hg i hi]⟩
  · exact .inl (by rw [e, hz])
theorem minP_ofLow {n : Nat} {g h : Nat → Int} {x z : Int} (hg : ∀ i, i < n → h i = g i) (hz : h n = z) (hx : LowP z n g x) : MinP (n + 1) h x := by
  refine ⟨fun i hi => ?_, ?_⟩
  · rcases Nat.lt_succ_iff_lt_or_eq.1 hi with hi | rfl
    · rw [hg i hi]; exact hx.2.1 i hi
    · rw [hz]; exact hx.1
  · rcases hx.2.2 with e | ⟨i, hi, e⟩
    · exact ⟨n, by omega, by rw [hz, e]⟩
    · exact ⟨i, by omega, by rw [hg i hi, e]⟩
theorem low_arg {A : Ar} (hA : real = A) (n : Nat) (f : Nat → Int) (c : Int) : DV.sl 1 (A.add n 1) (A.sub 0 (A.app n (fun i => [eI (f i)]) (A.sub 0 (A.app 1 (A.rep [eI c]) (A.rep [eI 0]))))) =
    .sl 1 (n + 1) fun i => [eI (if i < n then f i else if i = n then c else 0)] := by
  subst hA
  have e : (fun i => (if 0 + i < n then [eI (f (0 + i))] else (if 0 + (0 + i - n) < 1 then [eI c] else [eI 0]))) = fun i => [eI (if i < n then f i else if i = n then c else 0)] := by
    funext i
    simp only [Nat.zero_add]
    by_cases h : i < n
    · simp [h]
    · by_cases h2 : i = n
      · subst h2; simp
      · have : ¬ i - n < 1 := by omega
        simp [h, h2, this]
  exact congrArg (DV.sl 1 (n + 1)) e
theorem room_add {A : Ar} (hA : real = A) {n m b : Nat} (hn : n + m ≤ 1048577) (hb : b ≤ 100000) : A.room (A.add n m) b := by
  subst hA
  have h1 : (n + m) * b ≤ 1048577 * 100000 := Nat.mul_le_mul hn hb
  exact ⟨Nat.le_trans h1 (by omega), Nat.le_trans hn (by omega)⟩
/-- One row more at the end. -/
theorem push_at {A : Ar} (hA : real = A) (n : Nat) (row : Nat → List DV) (x : List DV) (z : Nat → List DV) (k : Nat) (hk : k < n + 1) : A.app n row (A.sub 0 (A.app 1 (A.rep x) z)) k = if k < n then row k else x := by
  subst hA
  show (if k < n then row k else (if 0 + (k - n) < 1 then x else z (0 + (k - n) - 1))) = _
  split
  · rfl
  · rw [if_pos (by omega)]
theorem room_n {A : Ar} (hA : real = A) {n b : Nat} (hn : n ≤ 1048577) (hb : b ≤ 100000) : A.room n b := by
  subst hA
  have h1 : n * b ≤ 1048577 * 100000 := Nat.mul_le_mul hn hb
  exact ⟨by omega, by omega⟩
end Go.Rk
