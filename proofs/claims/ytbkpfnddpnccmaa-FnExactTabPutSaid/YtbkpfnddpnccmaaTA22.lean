/- Tables: sput. -/
import Derived.Test.YtbkpfnddpnccmaaTA21
import Derived.Test.YtbkpfnddpnccmaaDTb
import Derived.Test.YtbkpfnddpnccmaaDDr
import Derived.Test.YtbkpfnddpnccmaaRk28
import Derived.Test.YtbkpfnddpnccmaaRk29
namespace Go.Rk
set_option linter.unusedSimpArgs false
set_option linter.unusedVariables false
open Go.Proofs
set_option maxRecDepth 100000
set_option maxHeartbeats 1000000
theorem tells_snoc2 {α : Type} {z : α} {e : α → List DV} {l : List α} {n : Nat} {row row' : Nat → List DV} {x y : α} (h : Tells z e l n row)
    (h' : ∀ k, k < n + 1 + 1 → row' k = if k < n + 1 then (if k < n then row k else e x) else e y) : Tells z e (l ++ [x, y]) (n + 1 + 1) row' := by
  have := tells_snoc (row' := row') (x := y) (tells_snoc (row' := fun k => if k < n then row k else e x) (x := x) h fun k _ => rfl) h'
  rw [List.append_assoc] at this
  exact this
def st_sPut (r : TabT) (n0 : Nat) (G0 : Nat → TabT) (i : Nat) (d : Bool) (c : Nat) (row : Nat → List DV) : St := ⟨[(8, .c (.d (eI i))), (5, .c (.own 896 0 n0 1)), (6, .c (.own 960 0 c 1)), (7, .c (.d (eB d))), (3, .c (.bp 192 1 0))], [(192, 1, .box ((eTab r).map .d)), (896, 1, .arr 7 n0 fun i => eTab (G0 i)), (960, 1, .arr 7 c row)]⟩
theorem c_sPut (l : List TabT) (n : Nat) (g : Nat → TabT) (hl : Lst zTab l n g) (hn : n ≤ 1090000) (r : TabT) (n1 : Nat) (G : Nat → TabT) (h1 : Lst zTab (tPut r l) n1 G) : Meets Try.prog 38 [.c (.d (.sl 7 n fun i => eTab (g i))), xd (eTab r)] ⟨.one (.c (.own 7 n1 fun i => eTab (G i))), [none, none]⟩ := by
  obtain ⟨o, ho⟩ : ∃ o, o = tOut r.key r.win l := ⟨_, rfl⟩
  obtain ⟨n0, hn0⟩ : ∃ n0, n0 = o.length := ⟨_, rfl⟩
  obtain ⟨G0, hG0⟩ : ∃ G0 : Nat → TabT, G0 = fun k => o.getD k zTab := ⟨_, rfl⟩
  have h0 : Lst zTab o n0 G0 := ⟨hn0, fun k _ => by rw [hG0]⟩
  have hn0n : n0 ≤ n := by rw [hn0, hl.1, ho]; exact tOut_len _ _ _
  have hnL : n0 ≤ maxLen := Nat.le_trans (show n0 ≤ 1090000 by omega) (by decide)
  have hO := c_sOut l n g hl (by omega) r.key r.win n0 G0 (by rw [← ho]; exact h0)
  unfold tPut at h1
  rw [← ho] at h1
  have h1T := lst_tells eTab h1
  refine meets_of (H := [13]) (EX := EXA) ttok mixed Try.func38 rfl (by kernel_rfl) (by decide) ?_
  generalize hA : real = A
  generalize hM : Meets Try.prog = M
  cbv
  repeat' first
    | apply And.intro
    | exact True.intro
    | with_reducible rfl
    | exact same_of hA rfl
    | refine br_of hA (fun _ => ?_) (fun _ => ?_)
    | exact imp_of hA id
    | (refine imp_of hA ?_; subst hA; simp only [real, Bool.true_and]; exact id)
    | (refine ind_of hA ?_; decide +kernel)
    | (refine call_of hA hM _ hO ?_; cbv)
  refine loop_of hA (α := { q : Nat × Bool × Nat × (Nat → List DV) × List TabT // q.1 ≤ n0 ∧ Tells zTab eTab q.2.2.2.2 q.2.2.1 q.2.2.2.1 ∧ ∀ s, tIns r (o.take q.1 ++ s) = q.2.2.2.2 ++ (if q.2.1 = true then s else tIns r s) }) (fun y => st_sPut r n0 G0 y.1.1 y.1.2.1 y.1.2.2.1 y.1.2.2.2.1) (fun y => n0 - y.1.1) ⟨(0, false, 0, fun _ => [], []), Nat.zero_le _, ⟨rfl, fun k h => absurd h (Nat.not_lt_zero k)⟩, fun s => rfl⟩ ?_ ?_
  · refine cov_of ?_ ?_ ?_
    · cbv; try (subst hA; repeat' first | apply And.intro | exact True.intro | rfl)
    · cbv; try (subst hA; repeat' first | apply And.intro | exact True.intro | rfl | (intro _ _; rfl) | (intro k hk; exact absurd hk (Nat.not_lt_zero k)))
    · cbv; try (subst hA; repeat' first | apply And.intro | exact True.intro | rfl | exact .inr trivial)
  rintro ⟨⟨i, d, c, row, lo⟩, hi, hT, hs⟩
  have hi : i ≤ n0 := hi
  have hT : Tells zTab eTab lo c row := hT
  have hs : ∀ s, tIns r (o.take i ++ s) = lo ++ (if d = true then s else tIns r s) := hs
  have hci : c ≤ i + 1 := by
    have h := congrArg List.length (hs [])
    rw [List.append_nil, tIns_len, List.length_append, List.length_take, ← hn0] at h
    have := hT.1
    omega
  cbv
  repeat' first
    | apply And.intro
    | exact True.intro
    | with_reducible rfl
    | exact same_of hA rfl
    | refine br_of hA (fun _ => ?_) (fun _ => ?_)
    | exact imp_of hA id
    | (refine imp_of hA ?_; subst hA; simp only [real, Bool.true_and]; exact id)
    | (refine ind_of hA ?_; decide +kernel)
    | (refine call_ex hA hM (c_l5Ahead _ _ _ _ _ _) (fun _ _ => ?_); cbv)
    | (rename_i hlt; refine inb_of hA fun _ => ?_; subst hA; simp only [real, decide_eq_true_eq, Int.ofNat_eq_natCast] at *; omega)
    | (refine inb_of hA fun _ => ?_; subst hA; simp only [real, Bool.and_eq_true, Bool.not_eq_true', Bool.not_eq_false', decide_eq_true_eq, Int.ofNat_eq_natCast, IntKind.wrap_i64] at *; omega)
    | exact room_add2 hA (by omega) (by decide)
    | (refine room_add2 hA ?_ (by decide); subst hA; show c + 1 + 1 ≤ _; omega)
  · rename_i hlt bq hbq hc
    have hlt' := lt_of hA hlt
    rw [ix0 hA i] at hbq
    have hbq : bq = decide (Ahead r (G0 i)) := hbq
    have hc : d = false ∧ bq = true := by subst hA; have hc : (bif (!d) then bq else false) = true := hc; cases d <;> simp_all
    obtain ⟨rfl, hb⟩ := hc
    have hq : Ahead r (G0 i) := by rw [hb] at hbq; exact of_decide_eq_true hbq.symm
    refine ⟨⟨(i + 1, true, c + 1 + 1, fun q => if q < c + 1 then (if q < c then row q else eTab r) else eTab (G0 i), lo ++ [r, G0 i]), by simp only; omega, tells_snoc2 hT (fun _ _ => rfl), fun s => ?_⟩, by simp only; omega, cov_of ?_ ?_ ?_⟩
    · simp only
      rw [lst_take h0 hlt', List.append_assoc]
      show tIns r (o.take i ++ (G0 i :: s)) = _
      rw [hs (G0 i :: s)]
      show lo ++ (if Ahead r (G0 i) then r :: G0 i :: s else G0 i :: tIns r s) = (lo ++ [r, G0 i]) ++ s
      rw [if_pos hq, List.append_assoc]
      rfl
    · cbv
      subst hA
      repeat' first | apply And.intro | exact True.intro | exact congrArg (fun x => DV.v (.int .i64 x)) (up64 hlt' hnL) | rfl
    · cbv
      rw [ix0 hA i]
      subst hA
      repeat' first | apply And.intro | exact True.intro | rfl | (intro _ _; rfl)
      all_goals
        intro q hq
        refine (push_at rfl (c + 1) _ _ _ q hq).trans ?_
        by_cases h1 : q < c + 1
        · rw [if_pos h1, if_pos h1]
          exact push_at rfl _ _ _ _ q h1
        · rw [if_neg h1, if_neg h1]
          rfl
    · cbv; try (subst hA; repeat' first | apply And.intro | exact True.intro | rfl | exact .inr trivial)
  · rename_i hlt bq hbq hc
    have hlt' := lt_of hA hlt
    rw [ix0 hA i] at hbq
    have hbq : bq = decide (Ahead r (G0 i)) := hbq
    have hc : d = true ∨ bq = false := by subst hA; have hc : (bif (!d) then bq else false) = false := hc; cases d <;> simp_all
    have hq : d = true ∨ ¬ Ahead r (G0 i) := by
      rcases hc with h | h
      · exact .inl h
      · rw [h] at hbq; exact .inr (of_decide_eq_false hbq.symm)
    refine ⟨⟨(i + 1, d, c + 1, fun q => if q < c then row q else eTab (G0 i), lo ++ [G0 i]), by simp only; omega, tells_snoc hT (fun _ _ => rfl), fun s => ?_⟩, by simp only; omega, cov_of ?_ ?_ ?_⟩
    · simp only
      rw [lst_take h0 hlt', List.append_assoc]
      show tIns r (o.take i ++ (G0 i :: s)) = _
      rw [hs (G0 i :: s)]
      by_cases hd : d = true
      · rw [if_pos hd, if_pos hd, List.append_assoc]; rfl
      · rw [if_neg hd, if_neg hd, List.append_assoc]
        show lo ++ (if Ahead r (G0 i) then r :: G0 i :: s else G0 i :: tIns r s) = lo ++ (G0 i :: tIns r s)
        rw [if_neg (hq.resolve_left hd)]
    · cbv
      subst hA
      repeat' first | apply And.intro | exact True.intro | exact congrArg (fun x => DV.v (.int .i64 x)) (up64 hlt' hnL) | rfl
    · cbv
      rw [ix0 hA i]
      subst hA
      repeat' first | apply And.intro | exact True.intro | rfl | (intro _ _; rfl) | (intro q hq; exact push_at rfl _ _ _ _ q hq)
    · cbv; try (subst hA; repeat' first | apply And.intro | exact True.intro | rfl | exact .inr trivial)
  · rename_i hge hd
    have hin : i = n0 := by have := ge_of hA hge; omega
    have hd : d = false := by subst hA; have hd : (!d) = true := hd; cases d <;> simp_all
    have hs0 := hs []
    rw [List.append_nil, hin, lst_all h0, hd] at hs0
    have hs0 : tIns r o = lo ++ [r] := hs0
    have hT2 : Tells zTab eTab (tIns r o) (c + 1) (fun q => if q < c then row q else eTab r) := by rw [hs0]; exact tells_snoc hT fun _ _ => rfl
    have hcc : c + 1 = n1 := hT2.1.trans h1T.1.symm
    subst hcc
    refine stop_of hA ⟨[(6, .c (.own 960 0 (c + 1) 1))], [(960, 1, .arr 7 (c + 1) fun i => eTab (G i))]⟩ (cov_of ?_ ?_ ?_) ?_
    · cbv; try (subst hA; repeat' first | apply And.intro | exact True.intro | rfl)
    · cbv
      subst hA
      repeat' first | apply And.intro | exact True.intro | rfl
      intro q hq
      exact (push_at rfl _ _ _ _ q hq).trans ((hT2.2 q hq).trans (h1T.2 q hq).symm)
    · cbv; try (subst hA; repeat' first | apply And.intro | exact True.intro | rfl | exact .inr trivial)
    · cbv
      repeat' first
        | apply And.intro
        | exact True.intro
        | with_reducible rfl
        | exact same_of hA rfl
        | refine br_of hA (fun _ => ?_) (fun _ => ?_)
        | exact imp_of hA id
        | (refine imp_of hA ?_; subst hA; simp only [real, Bool.true_and]; exact id)
        | (refine ind_of hA ?_; decide +kernel)
  · rename_i hge hd
    have hin : i = n0 := by have := ge_of hA hge; omega
    have hd : d = true := by subst hA; have hd : (!d) = false := hd; cases d <;> simp_all
    have hs0 := hs []
    rw [List.append_nil, hin, lst_all h0, hd] at hs0
    have hs0 : tIns r o = lo ++ [] := hs0
    rw [List.append_nil] at hs0
    rw [hs0] at h1T
    have hcc : c = n1 := hT.1.trans h1T.1.symm
    subst hcc
    refine stop_of hA ⟨[(6, .c (.own 960 0 c 1))], [(960, 1, .arr 7 c fun i => eTab (G i))]⟩ (cov_of ?_ ?_ ?_) ?_
    · cbv
    · cbv
      exact ⟨fun q hq => (hT.2 q hq).trans (h1T.2 q hq).symm, trivial⟩
    · cbv
    · cbv
      repeat' first
        | apply And.intro
        | exact True.intro
        | with_reducible rfl
        | exact same_of hA rfl
        | refine br_of hA (fun _ => ?_) (fun _ => ?_)
        | exact imp_of hA id
        | (refine imp_of hA ?_; subst hA; simp only [real, Bool.true_and]; exact id)
        | (refine ind_of hA ?_; decide +kernel)
end Go.Rk
