/- A part of the walk over this seat's functions: what each answers, at all data. -/
import Derived.Test.YtbkpfnddpnccmaaRA1
import Derived.IntWalk
namespace Go.Rk
open Go.Proofs
def hit (rd : Nat → RowT) (k : Int) (w : WinT) (i : Nat) : Bool := (rd i).key == k && ((rd i).win.s == w.s && (rd i).win.e == w.e)
/-- The first row of that key and window. -/
inductive First (n : Nat) (rd : Nat → RowT) (k : Int) (w : WinT) : RowT → Bool → Prop
  | at (i : Nat) (h : i < n) (hi : hit rd k w i = true) (hb : ∀ j, j < i → hit rd k w j = false) : First n rd k w (rd i) true
  | none (hb : ∀ j, j < n → hit rd k w j = false) : First n rd k w zRow false
theorem first_one {n : Nat} {rd : Nat → RowT} {k : Int} {w : WinT} {r r' : RowT} {b b' : Bool} (h : First n rd k w r b) (h' : First n rd k w r' b') : r = r' ∧ b = b' := by
  cases h with
  | «at» i hi hh hb =>
    cases h' with
    | «at» j hj hh' hb' =>
      have : i = j := by
        rcases Nat.lt_trichotomy i j with h | h | h
        · have := hb' i h; rw [hh] at this; cases this
        · exact h
        · have := hb j h; rw [hh'] at this; cases this
      subst this; exact ⟨rfl, rfl⟩
    | none hb' => have := hb' i hi; rw [hh] at this; cases this
  | none hb =>
    cases h' with
    | «at» j hj hh' hb' => have := hb j hj; rw [hh'] at this; cases this
    | none hb' => exact ⟨rfl, rfl⟩

theorem first_ex (n : Nat) (rd : Nat → RowT) (k : Int) (w : WinT) : ∃ r b, First n rd k w r b := by
  by_cases h : ∃ i, i < n ∧ hit rd k w i = true
  · obtain ⟨i, hi⟩ := h
    induction i using Nat.strongRecOn with
    | _ i ih =>
      by_cases hm : ∃ j, j < i ∧ hit rd k w j = true
      · obtain ⟨j, hj1, hj2⟩ := hm
        exact ih j hj1 ⟨by omega, hj2⟩
      · exact ⟨_, _, .at i hi.1 hi.2 fun j hj => by cases e : hit rd k w j with | false => rfl | true => exact absurd ⟨j, hj, e⟩ hm⟩
  · exact ⟨_, _, .none fun j hj => by cases e : hit rd k w j with | false => rfl | true => exact absurd ⟨j, hj, e⟩ h⟩
theorem up64 {i n : Nat} (h : i < n) (hn : n ≤ maxLen) : IntKind.i64.wrap ((i : Int) + 1) = ((i + 1 : Nat) : Int) := by
  have hm : maxLen = 9223372036854775807 := by decide
  rw [hm] at hn
  rw [IntWalk.i64_in _ (by omega)]
  simp

def st16 (mark : Int) (n : Nat) (rd : Nat → RowT) (k : Int) (w : WinT) (i : Nat) : St :=
  ⟨[(8, .c (.d (eI i))), (1, .c (.d (eI k))), (3, .c (.bp 192 1 0)), (5, .c (.bp 320 1 0)), (6, .c (.bp 384 1 0))],
   [(192, 1, .box ((eSt mark n rd).map .d)), (320, 1, .box ((eWin w).map .d)), (384, 1, .box ((eRow zRow).map .d))]⟩

def hitR (r : RowT) (k : Int) (w : WinT) : Bool := r.key == k && (r.win.s == w.s && r.win.e == w.e)
theorem m108 (r : RowT) (k : Int) (w : WinT) (b : Bool) (hb : hitR r k w = b) : Meets Try.prog 108 [xd (eRow r), .c (.d (.p [eI k])), .c (.d (.p (eWin w)))] ⟨.one (.c (.d (eB b))), [none, none, none]⟩ := by
  refine meets_of (H := []) (EX := EXA) ttok mixed Try.func108 rfl (by kernel_rfl) (by decide) ?_
  generalize hA : real = A
  generalize hM : Meets Try.prog = M
  cbv
  repeat' first | apply And.intro | refine br_of hA (fun _ => ?_) (fun _ => ?_)
  all_goals first | exact True.intro | exact same_of hA rfl | exact imp_of hA id | (refine imp_of hA ?_; subst hA; simp only [real, Bool.true_and]; exact id) | (refine ind_of hA ?_; decide +kernel) | skip
  subst hA
  simp only [real, Bool.and_true]
  rw [← hb]
  unfold hitR
  cases (r.key == k) <;> rfl
def st107 (n : Nat) (rd : Nat → RowT) (k : Int) (w : WinT) (i : Nat) : St :=
  ⟨[(8, .c (.d (eI i))), (7, .c (.d (eI n))), (0, .c (.d (.sl 13 n fun i => eRow (rd i)))), (1, .c (.d (.fn 108 [.p [eI k], .p (eWin w)])))], []⟩
/-- The first index, or -1. -/
inductive FirstI (n : Nat) (rd : Nat → RowT) (k : Int) (w : WinT) : Int → Prop
  | at (i : Nat) (h : i < n) (hi : hit rd k w i = true) (hb : ∀ j, j < i → hit rd k w j = false) : FirstI n rd k w i
  | none (hb : ∀ j, j < n → hit rd k w j = false) : FirstI n rd k w (-1)
theorem firstI_ex (n : Nat) (rd : Nat → RowT) (k : Int) (w : WinT) : ∃ x, FirstI n rd k w x := by
  obtain ⟨r, b, h⟩ := first_ex n rd k w
  cases h with
  | «at» i hi hh hb => exact ⟨_, .at i hi hh hb⟩
  | none hb => exact ⟨_, .none hb⟩
theorem firstI_one {n : Nat} {rd : Nat → RowT} {k : Int} {w : WinT} {x x' : Int} (h : FirstI n rd k w x) (h' : FirstI n rd k w x') : x = x' := by
  cases h with
  | «at» i hi hh hb =>
    cases h' with
    | «at» j hj hh' hb' =>
      have : i = j := by
        rcases Nat.lt_trichotomy i j with h | h | h
        · have := hb' i h; rw [hh] at this; cases this
        · exact h
        · have := hb j h; rw [hh'] at this; cases this
      subst this; rfl
    | none hb' => have := hb' i hi; rw [hh] at this; cases this
  | none hb =>
    cases h' with
    | «at» j hj hh' hb' => have := hb j hj; rw [hh'] at this; cases this
    | none hb' => rfl
set_option maxRecDepth 100000 in
theorem m107 (n : Nat) (hn : n ≤ maxLen) (rd : Nat → RowT) (k : Int) (w : WinT) (x : Int) (hF : FirstI n rd k w x) :
    Meets Try.prog 107 [.c (.d (.sl 13 n fun i => eRow (rd i))), .c (.d (.fn 108 [.p [eI k], .p (eWin w)]))] ⟨.one (.c (.d (eI x))), [none, none]⟩ := by
  refine meets_of (H := []) (EX := EXA) ttok mixed Try.func107 rfl (by kernel_rfl) (by decide) ?_
  generalize hA : real = A
  generalize hM : Meets Try.prog = M
  cbv
  repeat' apply And.intro
  all_goals first | exact True.intro | exact same_of hA rfl | skip
  refine loop_of hA (α := { i : Nat // i ≤ n ∧ ∀ j, j < i → hit rd k w j = false }) (fun x => st107 n rd k w x.1) (fun x => n - x.1) ⟨0, Nat.zero_le _, fun j h => absurd h (Nat.not_lt_zero _)⟩ ?_ ?_
  · refine cov_of ?_ ?_ ?_
    · cbv; subst hA; exact ⟨rfl, rfl, trivial⟩
    · cbv
    · cbv
  rintro ⟨i, hi, hb⟩
  cbv
  repeat' first | apply And.intro | refine br_of hA (fun _ => ?_) (fun _ => ?_)
  all_goals first | exact True.intro | exact same_of hA rfl | (refine inb_of hA fun _ => ?_; subst hA; simp only [real, decide_eq_true_eq, Int.ofNat_eq_natCast] at *; omega) | skip
  · obtain ⟨b, hbb⟩ : ∃ b, hitR (rd (A.nat (Int.ofNat i))) k w = b := ⟨_, rfl⟩
    refine call_of hA hM _ (m108 (rd (A.nat (Int.ofNat i))) k w b hbb) ?_
    cbv
    repeat' first | apply And.intro | refine br_of hA (fun _ => ?_) (fun _ => ?_)
    all_goals first | exact True.intro | exact same_of hA rfl | skip
    · rename_i hlt ht
      subst hA
      simp only [real, decide_eq_true_eq, Int.ofNat_eq_natCast, Int.toNat_natCast] at *
      obtain rfl := firstI_one hF (.at i (by omega) (by rw [← ht, ← hbb]; rfl) hb)
      rfl
    · rename_i hlt ht
      have hlt' : i < n := by subst hA; simp only [real, decide_eq_true_eq, Int.ofNat_eq_natCast] at hlt; omega
      refine ⟨⟨i + 1, by omega, fun j hj => ?_⟩, by simp only; omega, cov_of ?_ ?_ ?_⟩
      · by_cases e : j = i
        · subst e
          subst hA
          rw [← ht, ← hbb]
          rfl
        · exact hb j (by omega)
      · cbv
        subst hA
        exact ⟨congrArg (fun x => DV.v (.int .i64 x)) (up64 hlt' hn), trivial⟩
      · cbv
      · cbv
  · subst hA
    simp only [real, decide_eq_false_iff_not, Int.ofNat_eq_natCast] at *
    obtain rfl := firstI_one hF (.none fun j hj => hb j (by omega))
    rfl
set_option maxRecDepth 100000 in
theorem m67 (mark : Int) (n : Nat) (hn : n ≤ maxLen) (rd : Nat → RowT) (k : Int) (w : WinT) (x : Int) (hF : FirstI n rd k w x) :
    Meets Try.prog 67 [xd (eSt mark n rd), .c (.d (eI k)), xd (eWin w)] ⟨.one (.c (.d (eI x))), [none, none, none]⟩ := by
  refine meets_of (H := []) (EX := EXA) ttok mixed Try.func67 rfl (by kernel_rfl) (by decide) ?_
  generalize hA : real = A
  generalize hM : Meets Try.prog = M
  cbv
  repeat' apply And.intro
  all_goals first | exact True.intro | exact same_of hA rfl | skip
  refine call_of hA hM _ (m107 n hn rd k w x hF) ?_
  cbv
  repeat' apply And.intro
  all_goals first | exact True.intro | exact same_of hA rfl
set_option maxRecDepth 100000 in
theorem m19 (mark : Int) (n : Nat) (hn : n ≤ maxLen) (rd : Nat → RowT) (k : Int) (w : WinT) (r : RowT) (b : Bool) (hF : First n rd k w r b) :
    Meets Try.prog 19 [xd (eSt mark n rd), .c (.d (eI k)), xd (eWin w)] ⟨.tup [xd (eRow r), .c (.d (eB b))], [none, none, none]⟩ := by
  obtain ⟨x, hx⟩ := firstI_ex n rd k w
  refine meets_of (H := []) (EX := EXA) ttok mixed Try.func19 rfl (by kernel_rfl) (by decide) ?_
  generalize hA : real = A
  generalize hM : Meets Try.prog = M
  cbv
  repeat' apply And.intro
  all_goals first | exact True.intro | exact same_of hA rfl | skip
  refine call_of hA hM _ (m67 mark n hn rd k w x hx) ?_
  cbv
  repeat' first | apply And.intro | refine br_of hA (fun _ => ?_) (fun _ => ?_)
  all_goals first | exact True.intro | exact same_of hA rfl | skip
  · rename_i hlt
    subst hA
    simp only [real, decide_eq_true_eq] at hlt
    cases hx with
    | «at» i hi hh hb => omega
    | none hb =>
      obtain ⟨rfl, rfl⟩ := first_one hF (.none hb)
      rfl
  · rename_i hlt
    refine inb_of hA fun _ => ?_
    subst hA
    simp only [real, decide_eq_false_iff_not] at hlt
    cases hx with
    | «at» i hi hh hb => omega
    | none hb => omega
  · rename_i hlt
    subst hA
    simp only [real, decide_eq_false_iff_not] at hlt
    cases hx with
    | «at» i hi hh hb =>
      obtain ⟨rfl, rfl⟩ := first_one hF (.at i hi hh hb)
      rfl
    | none hb => omega
set_option maxRecDepth 100000 in
theorem m16 (mark : Int) (n : Nat) (hn : n ≤ maxLen) (rd : Nat → RowT) (k : Int) (w : WinT) : ∃ r b, First n rd k w r b ∧
    Meets Try.prog 16 [xd (eSt mark n rd), .c (.d (eI k)), xd (eWin w)] ⟨.tup [xd (eRow r), .c (.d (eB b))], [none, none, none]⟩ := by
  obtain ⟨r, b, hF⟩ := first_ex n rd k w
  refine ⟨r, b, hF, ?_⟩
  refine meets_of (H := []) (EX := EXA) ttok mixed Try.func16 rfl (by kernel_rfl) (by decide) ?_
  generalize hA : real = A
  generalize hM : Meets Try.prog = M
  cbv
  repeat' apply And.intro
  all_goals first | exact same_of hA rfl | skip
  refine loop_of hA (α := { i : Nat // i ≤ n ∧ ∀ j, j < i → hit rd k w j = false }) (fun x => st16 mark n rd k w x.1) (fun x => n - x.1) ⟨0, Nat.zero_le _, fun j h => absurd h (Nat.not_lt_zero _)⟩ ?_ ?_
  · refine cov_of ?_ ?_ ?_
    · cbv; exact ⟨rfl, trivial⟩
    · cbv
    · cbv
  rintro ⟨i, hi, hb⟩
  cbv
  repeat' first | apply And.intro | refine br_of hA (fun _ => ?_) (fun _ => ?_)
  all_goals first | exact True.intro | exact same_of hA rfl | exact imp_of hA id | (refine imp_of hA ?_; subst hA; simp only [real, Bool.true_and]; exact id) | (refine ind_of hA ?_; decide +kernel) | (refine inb_of hA fun _ => ?_; subst hA; simp only [real, decide_eq_true_eq, Int.ofNat_eq_natCast] at *; omega) | skip
  · subst hA
    simp only [real, decide_eq_true_eq, Int.ofNat_eq_natCast, Int.toNat_natCast, Bool.and_true, Bool.true_and] at *
    obtain ⟨rfl, rfl⟩ := first_one hF (.at i (by omega) (by unfold hit; rename_i hc; revert hc; cases h : (rd i).1 == k <;> simp_all [cond]) hb)
    rfl
  · rename_i hlt hc
    have hlt' : i < n := by subst hA; simp only [real, decide_eq_true_eq, Int.ofNat_eq_natCast] at hlt; omega
    refine ⟨⟨i + 1, by omega, fun j hj => ?_⟩, by simp only; omega, cov_of ?_ ?_ ?_⟩
    · by_cases e : j = i
      · subst e
        subst hA
        simp only [real, Int.ofNat_eq_natCast, Int.toNat_natCast, Bool.and_true, Bool.true_and] at hc
        unfold hit
        revert hc
        cases h : (rd j).1 == k <;> simp_all
      · exact hb j (by omega)
    · cbv
      subst hA
      exact ⟨congrArg (fun x => DV.v (.int .i64 x)) (up64 hlt' hn), trivial⟩
    · cbv
    · cbv
  · subst hA
    simp only [real, decide_eq_false_iff_not, Int.ofNat_eq_natCast] at *
    obtain ⟨rfl, rfl⟩ := first_one hF (.none fun j hj => hb j (by omega))
    rfl
end Go.Rk
