/- The walk over this seat's functions, part 9: what each of them answers, at all data. -/
import Derived.Test.YtgiomkpcpieplaaM1
import Derived.Test.YtgiomkpcpieplaaM2
import Derived.Test.YtgiomkpcpieplaaM3
import Derived.Test.YtgiomkpcpieplaaM4
import Derived.Test.YtgiomkpcpieplaaM5
import Derived.Test.YtgiomkpcpieplaaM6
import Derived.Test.YtgiomkpcpieplaaM7
import Derived.Test.YtgiomkpcpieplaaM8
/- A worker's methods: window. -/
namespace Go.Rk
set_option linter.unusedSimpArgs false
set_option linter.unusedVariables false
open Go.Proofs
set_option maxRecDepth 100000
set_option maxHeartbeats 1000000
theorem k_addf (j : JobT) (mk : Int) (n : Nat) (R : Nat → RowT) (c : Nat) (hc : c ≤ 1080000) (P : Nat → PaneT) (d : Nat) (hd : d ≤ 1080000) (Q : Nat → LatT) (q : Nat) (hq : q < n) (v : Int) (r : RowT) (hr : r = addR (R q) v) (t : RowT × List PaneT) (ht : t = tellS j mk r) (R' : Nat → RowT) (hR' : ∀ i, i < n → R' i = if i = q then t.1 else R i) (c' : Nat) (hc' : c' = c + t.2.length) (P' : Nat → PaneT) (hP' : ∀ i, i < c' → P' i = if i < c then P i else t.2.getD (i - c) zPan) : MeetsO Try.prog 113 [.c (.bp 1920 1 0), .c (.op 1793 1 q 0), .c (.d (eI v))]
    [(1920, 1, .box [.d (eI j.srcs), .d (eI j.tsks), .d (eI j.kind), .d (eI j.size), .d (eI j.step), .d (eI j.late), .d (eI j.tell), .d (eB j.piece), .d (eI j.least), .d (eI j.room), .d (eI mk), .own 1793 0 n 1, .own 2001 0 c 1, .own 2002 0 d 1]), (1793, 1, .arr 13 n fun i => eRow (R i)), (2001, 1, .arr 9 c fun i => ePane (P i)), (2002, 1, .arr 7 d fun i => eLat (Q i))] (.tup [])
    [(1920, 1, .box [.d (eI j.srcs), .d (eI j.tsks), .d (eI j.kind), .d (eI j.size), .d (eI j.step), .d (eI j.late), .d (eI j.tell), .d (eB j.piece), .d (eI j.least), .d (eI j.room), .d (eI mk), .own 1793 0 n 1, .own 2001 0 c' 2, .own 2002 0 d 1]), (1793, 1, .arr 13 n fun i => eRow (R' i)), (2001, 2, .arr 9 c' fun i => ePane (P' i)), (2002, 1, .arr 7 d fun i => eLat (Q i)), (6384, 1, .dead), (8560, 1, .dead)] := by
  have hw : r.win = (R q).win := by rw [hr]; rfl
  unfold tellS at ht
  by_cases hm : mk < r.win.e
  · rw [if_pos hm] at ht
    subst ht
    have hcc : c' = c := hc'
    subst hcc
    have hPP : P' = fun i => if i < c' then P i else P' i := by
      funext i
      by_cases h : i < c'
      · rw [if_pos h, hP' i h, if_pos h]
      · rw [if_neg h]
    have := k_addfn j mk n R c' hc P d hd Q q hq v r hr (by rw [← hw]; exact hm) R' hR'
    have e : ∀ i, i < c' → ePane (P i) = ePane (P' i) := fun i hi => by rw [hP' i hi, if_pos hi]
    exact meetsO_up this ⟨⟨rfl, rfl, okR_refl _⟩, ⟨rfl, rfl, okR_refl _⟩, ⟨rfl, rfl, rfl, rfl, e⟩, ⟨rfl, rfl, okR_refl _⟩, ⟨rfl, rfl, okR_refl _⟩, ⟨rfl, rfl, okR_refl _⟩, trivial⟩
  · rw [if_neg hm] at ht
    subst ht
    have hcc : c' = c + 1 := hc'
    subst hcc
    refine k_addft j mk n R c hc P d hd Q q hq v r hr (by rw [← hw]; exact hm) R' hR' P' fun i hi => ?_
    rw [hP' i hi]
    by_cases h : i < c
    · rw [if_pos h, if_pos h]
    · rw [if_neg h, if_neg h, show i - c = 0 by omega]; rfl
theorem k_addn (j : JobT) (mk : Int) (n : Nat) (R : Nat → RowT) (c : Nat) (hc : c ≤ 1080000) (P : Nat → PaneT) (d : Nat) (hd : d ≤ 1080000) (Q : Nat → LatT) (q : Nat) (hq : q < n) (v : Int) (r : RowT) (hr : r = addR (R q) v) (t : RowT × List PaneT) (ht : t = tellS j mk r) (R' : Nat → RowT) (hR' : ∀ i, i < n → R' i = if i = q then t.1 else R i) (c' : Nat) (hc' : c' = c + t.2.length) (P' : Nat → PaneT) (hP' : ∀ i, i < c' → P' i = if i < c then P i else t.2.getD (i - c) zPan) : MeetsO Try.prog 113 [.c (.bp 1920 1 0), .c (.op 2664 1 q 0), .c (.d (eI v))]
    [(1920, 1, .box [.d (eI j.srcs), .d (eI j.tsks), .d (eI j.kind), .d (eI j.size), .d (eI j.step), .d (eI j.late), .d (eI j.tell), .d (eB j.piece), .d (eI j.least), .d (eI j.room), .d (eI mk), .own 2664 0 n 1, .own 2001 0 c 1, .own 2002 0 d 1]), (2664, 1, .arr 13 n fun i => eRow (R i)), (2001, 1, .arr 9 c fun i => ePane (P i)), (2002, 1, .arr 7 d fun i => eLat (Q i))] (.tup [])
    [(1920, 1, .box [.d (eI j.srcs), .d (eI j.tsks), .d (eI j.kind), .d (eI j.size), .d (eI j.step), .d (eI j.late), .d (eI j.tell), .d (eB j.piece), .d (eI j.least), .d (eI j.room), .d (eI mk), .own 2664 0 n 1, .own 2001 0 c' 2, .own 2002 0 d 1]), (2664, 1, .arr 13 n fun i => eRow (R' i)), (2001, 2, .arr 9 c' fun i => ePane (P' i)), (2002, 1, .arr 7 d fun i => eLat (Q i)), (6384, 1, .dead), (8560, 1, .dead)] := by
  have hw : r.win = (R q).win := by rw [hr]; rfl
  unfold tellS at ht
  by_cases hm : mk < r.win.e
  · rw [if_pos hm] at ht
    subst ht
    have hcc : c' = c := hc'
    subst hcc
    have hPP : P' = fun i => if i < c' then P i else P' i := by
      funext i
      by_cases h : i < c'
      · rw [if_pos h, hP' i h, if_pos h]
      · rw [if_neg h]
    have := k_addnn j mk n R c' hc P d hd Q q hq v r hr (by rw [← hw]; exact hm) R' hR'
    have e : ∀ i, i < c' → ePane (P i) = ePane (P' i) := fun i hi => by rw [hP' i hi, if_pos hi]
    exact meetsO_up this ⟨⟨rfl, rfl, okR_refl _⟩, ⟨rfl, rfl, okR_refl _⟩, ⟨rfl, rfl, rfl, rfl, e⟩, ⟨rfl, rfl, okR_refl _⟩, ⟨rfl, rfl, okR_refl _⟩, ⟨rfl, rfl, okR_refl _⟩, trivial⟩
  · rw [if_neg hm] at ht
    subst ht
    have hcc : c' = c + 1 := hc'
    subst hcc
    refine k_addnt j mk n R c hc P d hd Q q hq v r hr (by rw [← hw]; exact hm) R' hR' P' fun i hi => ?_
    rw [hP' i hi]
    by_cases h : i < c
    · rw [if_pos h, if_pos h]
    · rw [if_neg h, if_neg h, show i - c = 0 by omega]; rfl
def EXW : FuncId → List Nat × Bool := fun f => bif nbeq f 1 then ([3000], false) else bif nbeq f 113 then ([99], false) else bif nbeq f 116 then ([99], false) else bif nbeq f 112 then ([99], false) else ([], false)
theorem k_wgone (j : JobT) (mk : Int) (n : Nat) (R : Nat → RowT) (c : Nat) (hc : c ≤ 1080000) (P : Nat → PaneT) (d : Nat) (hd : d ≤ 1080000) (Q : Nat → LatT) (x : ItmT) (w : WinT) (hov : w64 (w.e + j.late) ≤ mk) (Q' : Nat → LatT) (hQ' : ∀ i, i < d + 1 → Q' i = if i < d then Q i else ⟨x, w⟩) : MeetsO Try.prog 72 [.c (.bp 1920 1 0), .agg ((eItm x).map .d), .agg ((eWin w).map .d)]
    [(1920, 1, .box [.d (eI j.srcs), .d (eI j.tsks), .d (eI j.kind), .d (eI j.size), .d (eI j.step), .d (eI j.late), .d (eI j.tell), .d (eB j.piece), .d (eI j.least), .d (eI j.room), .d (eI mk), .own 1793 0 n 1, .own 2001 0 c 1, .own 2002 0 d 1]), (1793, 1, .arr 13 n fun i => eRow (R i)), (2001, 1, .arr 9 c fun i => ePane (P i)), (2002, 1, .arr 7 d fun i => eLat (Q i))] (.tup [])
    [(1920, 1, .box [.d (eI j.srcs), .d (eI j.tsks), .d (eI j.kind), .d (eI j.size), .d (eI j.step), .d (eI j.late), .d (eI j.tell), .d (eB j.piece), .d (eI j.least), .d (eI j.room), .d (eI mk), .own 1793 0 n 1, .own 2001 0 c 1, .own 2002 0 (d + 1) 2]), (1793, 1, .arr 13 n fun i => eRow (R i)), (2001, 1, .arr 9 c fun i => ePane (P i)), (2002, 2, .arr 7 (d + 1) fun i => eLat (Q' i)), (3256, 1, .dead), (3320, 1, .dead), (4320, 1, .dead), (4384, 1, .dead), (4448, 1, .dead), (5984, 1, .dead)] := by
  have kG := k_gonet j mk n R c hc P d hd Q x w w hov Q' hQ'
  refine inl_of (EX := EXW) ttok mixed Try.func72 rfl (by kernel_rfl) (by decide) (by kernel_rfl) rfl rfl ?_
  generalize hA : real = A
  generalize hM : MeetsB Try.prog = M
  cbv
  repeat' first
    | (exfalso; rename_i h; cases h; done)
    | apply And.intro
    | exact True.intro
    | with_reducible rfl
    | exact same_of hA rfl
    | refine br_of hA (fun _ => ?_) (fun _ => ?_)
    | exact imp_of hA id
    | (refine imp_of hA ?_; subst hA; simp only [real, Bool.true_and]; exact id)
    | (refine ind_of hA ?_; decide +kernel)
    | (refine inl_call hA _ _ _ ⟨fun _ => (by rw [← hM]; exact kG), (by cbv; repeat' first | apply And.intro | exact True.intro | rfl | exact .inr trivial | exact .inl trivial | exact .inl (Nat.le_refl _)), ?_⟩; cbv)
    | (intro _ _; first | rfl | trivial)
theorem k_wfound (j : JobT) (mk : Int) (n : Nat) (R : Nat → RowT) (c : Nat) (hc : c ≤ 1080000) (P : Nat → PaneT) (d : Nat) (hd : d ≤ 1080000) (Q : Nat → LatT) (x : ItmT) (w : WinT) (hn : n ≤ 1080000) (hov : mk < w64 (w.e + j.late)) (i : Nat) (hi : i < n) (he : IsR x.key w (R i)) (hb : ∀ q, q < i → ¬ IsR x.key w (R q)) (t : RowT × List PaneT) (ht : t = tellS j mk (addR (R i) x.v)) (R' : Nat → RowT) (hR' : ∀ q, q < n → R' q = if q = i then t.1 else R q) (c' : Nat) (hc' : c' = c + t.2.length) (P' : Nat → PaneT) (hP' : ∀ q, q < c' → P' q = if q < c then P q else t.2.getD (q - c) zPan) : MeetsO Try.prog 72 [.c (.bp 1920 1 0), .agg ((eItm x).map .d), .agg ((eWin w).map .d)]
    [(1920, 1, .box [.d (eI j.srcs), .d (eI j.tsks), .d (eI j.kind), .d (eI j.size), .d (eI j.step), .d (eI j.late), .d (eI j.tell), .d (eB j.piece), .d (eI j.least), .d (eI j.room), .d (eI mk), .own 1793 0 n 1, .own 2001 0 c 1, .own 2002 0 d 1]), (1793, 1, .arr 13 n fun i => eRow (R i)), (2001, 1, .arr 9 c fun i => ePane (P i)), (2002, 1, .arr 7 d fun i => eLat (Q i))] (.tup [])
    [(1920, 1, .box [.d (eI j.srcs), .d (eI j.tsks), .d (eI j.kind), .d (eI j.size), .d (eI j.step), .d (eI j.late), .d (eI j.tell), .d (eB j.piece), .d (eI j.least), .d (eI j.room), .d (eI mk), .own 1793 0 n 1, .own 2001 0 c' 2, .own 2002 0 d 1]), (1793, 1, .arr 13 n fun i => eRow (R' i)), (2001, 2, .arr 9 c' fun i => ePane (P' i)), (2002, 1, .arr 7 d fun i => eLat (Q i)), (3256, 1, .dead), (3320, 1, .dead), (4320, 1, .dead), (4384, 1, .dead), (4448, 1, .dead), (6384, 1, .dead), (8560, 1, .dead)] := by
  have kG := k_gonef j mk n R c hc P d hd Q x w w hov
  obtain ⟨z, hz, cF⟩ := c_find mk n hn R x.key w
  have hzi : z = (i : Int) := firstIx_one hz (.at i hi he hb)
  subst hzi
  have kA := fun q (e : q = i) => k_addf j mk n R c hc P d hd Q q (by omega) x.v (addR (R q) x.v) rfl t (by rw [e]; exact ht) R' (by rw [e]; exact hR') c' hc' P' hP'
  refine inl_of (EX := EXW) ttok mixed Try.func72 rfl (by kernel_rfl) (by decide) (by kernel_rfl) rfl rfl ?_
  generalize hA : real = A
  generalize hM : MeetsB Try.prog = M
  cbv
  repeat' first
    | (exfalso; rename_i h; cases h; done)
    | (exfalso; rename_i h; subst hA; exact (of_decide_eq_false h) (Int.natCast_nonneg i))
    | apply And.intro
    | exact True.intro
    | with_reducible rfl
    | exact same_of hA rfl
    | refine br_of hA (fun _ => ?_) (fun _ => ?_)
    | exact imp_of hA id
    | (refine imp_of hA ?_; subst hA; simp only [real, Bool.true_and]; exact id)
    | (refine ind_of hA ?_; decide +kernel)
    | (refine inl_call hA _ _ _ ⟨fun _ => (by rw [← hM]; exact kG), (by cbv; repeat' first | apply And.intro | exact True.intro | rfl | exact .inr trivial | exact .inl trivial | exact .inl (Nat.le_refl _)), ?_⟩; cbv)
    | (refine call_of2 hA hM _ cF (by (subst hA; first | rfl | (simp only [sub0r]; try rfl))) ?_; cbv)
    | (refine inl_call hA _ _ _ ⟨fun _ => (by rw [← hM]; exact kA (A.add 0 (A.nat (i : Int))) (by subst hA; exact Nat.zero_add i)), (by cbv; repeat' first | apply And.intro | exact True.intro | rfl | exact .inr trivial | exact .inl trivial | exact .inl (Nat.le_refl _)), ?_⟩; cbv)
    | (refine inb_of hA fun h => ?_; exact ⟨Int.natCast_nonneg _, Int.ofNat_lt.2 hi⟩)
    | (intro _ _; first | rfl | trivial)
theorem k_wnew (j : JobT) (mk : Int) (n : Nat) (R : Nat → RowT) (c : Nat) (hc : c ≤ 1080000) (P : Nat → PaneT) (d : Nat) (hd : d ≤ 1080000) (Q : Nat → LatT) (x : ItmT) (w : WinT) (hn : n ≤ 1070000) (hov : mk < w64 (w.e + j.late)) (hno : ∀ q, q < n → ¬ IsR x.key w (R q)) (i : Nat) (hi : i ≤ n) (h1 : ∀ q, q < i → RA (R q) (nrow x.key w)) (h2 : ∀ q, i ≤ q → q < n → ¬ RA (R q) (nrow x.key w)) (t : RowT × List PaneT) (ht : t = tellS j mk (addR (nrow x.key w) x.v)) (R' : Nat → RowT) (hR' : ∀ q, q < n + 1 → R' q = if q < i then R q else if q = i then t.1 else R (q - 1)) (c' : Nat) (hc' : c' = c + t.2.length) (P' : Nat → PaneT) (hP' : ∀ q, q < c' → P' q = if q < c then P q else t.2.getD (q - c) zPan) : MeetsO Try.prog 72 [.c (.bp 1920 1 0), .agg ((eItm x).map .d), .agg ((eWin w).map .d)]
    [(1920, 1, .box [.d (eI j.srcs), .d (eI j.tsks), .d (eI j.kind), .d (eI j.size), .d (eI j.step), .d (eI j.late), .d (eI j.tell), .d (eB j.piece), .d (eI j.least), .d (eI j.room), .d (eI mk), .own 1793 0 n 1, .own 2001 0 c 1, .own 2002 0 d 1]), (1793, 1, .arr 13 n fun i => eRow (R i)), (2001, 1, .arr 9 c fun i => ePane (P i)), (2002, 1, .arr 7 d fun i => eLat (Q i))] (.tup [])
    [(1920, 1, .box [.d (eI j.srcs), .d (eI j.tsks), .d (eI j.kind), .d (eI j.size), .d (eI j.step), .d (eI j.late), .d (eI j.tell), .d (eB j.piece), .d (eI j.least), .d (eI j.room), .d (eI mk), .own 2664 0 (n + 1) 1, .own 2001 0 c' 2, .own 2002 0 d 1]), (2664, 1, .arr 13 (n + 1) fun i => eRow (R' i)), (2001, 2, .arr 9 c' fun i => ePane (P' i)), (2002, 1, .arr 7 d fun i => eLat (Q i)), (3256, 1, .dead), (3320, 1, .dead), (4320, 1, .dead), (4384, 1, .dead), (4448, 1, .dead), (6384, 1, .dead), (8560, 1, .dead), (1793, 2, .dead), (1192, 1, .dead), (2600, 2, .dead)] := by
  have kG := k_gonef j mk n R c hc P d hd Q x w w hov
  obtain ⟨z, hz, cF⟩ := c_find mk n (by omega) R x.key w
  have hzi : z = -1 := firstIx_one hz (.none hno)
  subst hzi
  obtain ⟨R1, hR1⟩ : ∃ R1 : Nat → RowT, R1 = fun q => if q < i then R q else if q = i then nrow x.key w else R (q - 1) := ⟨_, rfl⟩
  have e1 : R1 i = nrow x.key w := by rw [hR1]; dsimp only; rw [if_neg (Nat.lt_irrefl i), if_pos rfl]
  have kP := k_putw j mk n R c hc P d hd Q 1 (by omega) (nrow x.key w) i hi h1 h2 R1 (fun q _ => by rw [hR1])
  have kA := k_addn j mk (n + 1) R1 c hc P d hd Q i (by omega) x.v (addR (R1 i) x.v) rfl t (by rw [e1]; exact ht) R' (fun q hq => by
    rw [hR' q hq, hR1]
    dsimp only
    by_cases a : q < i
    · rw [if_pos a, if_neg (by omega), if_pos a]
    · rw [if_neg a]
      by_cases b : q = i
      · rw [if_pos b, if_pos b]
      · rw [if_neg b, if_neg b, if_neg a, if_neg b]) c' hc' P' hP'
  refine inl_of (EX := EXW) ttok mixed Try.func72 rfl (by kernel_rfl) (by decide) (by kernel_rfl) rfl rfl ?_
  generalize hA : real = A
  generalize hM : MeetsB Try.prog = M
  cbv
  repeat' first
    | (exfalso; rename_i h; cases h; done)
    | (exfalso; rename_i h; subst hA; exact absurd (show (0 : Int) ≤ -1 from of_decide_eq_true h) (by omega))
    | apply And.intro
    | exact True.intro
    | with_reducible rfl
    | exact same_of hA rfl
    | refine br_of hA (fun _ => ?_) (fun _ => ?_)
    | exact imp_of hA id
    | (refine imp_of hA ?_; subst hA; simp only [real, Bool.true_and]; exact id)
    | (refine ind_of hA ?_; decide +kernel)
    | (refine inl_call hA _ _ _ ⟨fun _ => (by rw [← hM]; exact kG), (by cbv; repeat' first | apply And.intro | exact True.intro | rfl | exact .inr trivial | exact .inl trivial | exact .inl (Nat.le_refl _)), ?_⟩; cbv)
    | (refine call_of2 hA hM _ cF (by (subst hA; first | rfl | (simp only [sub0r]; try rfl))) ?_; cbv)
    | (refine inl_call hA _ _ _ ⟨fun _ => (by rw [← hM]; exact kP), (by cbv; repeat' first | apply And.intro | exact True.intro | rfl | exact .inr trivial | exact .inl trivial | exact .inl (Nat.le_refl _)), ?_⟩; cbv)
    | (refine inl_call hA _ _ _ ⟨fun _ => (by rw [← hM]; exact kA), (by cbv; repeat' first | apply And.intro | exact True.intro | rfl | exact .inr trivial | exact .inl trivial | exact .inl (Nat.le_refl _)), ?_⟩; cbv)
    | (intro _ _; first | rfl | trivial)
end Go.Rk
/- A worker's methods: session. -/
namespace Go.Rk
set_option linter.unusedSimpArgs false
set_option linter.unusedVariables false
open Go.Proofs
set_option maxRecDepth 100000
set_option maxHeartbeats 1000000
open Classical in
set_option maxRecDepth 100000 in
theorem c_touched (r : RowT) (x : ItmT) (w : WinT) : ∃ b, (b = true ↔ tchR x.key w r = true) ∧ Meets Try.prog 109 [xd (eRow r), .c (.d (.p (eItm x))), .c (.d (.p (eWin w)))] ⟨.one (.c (.d (eB b))), [none, none, none]⟩ := by
  obtain ⟨b, hb⟩ : ∃ b, b = decide (tchR x.key w r = true) := ⟨_, rfl⟩
  refine ⟨b, by rw [hb, decide_eq_true_eq], ?_⟩
  refine meets_of (H := []) (EX := EXA) ttok mixed Try.func109 rfl (by kernel_rfl) (by decide) ?_
  generalize hA : real = A
  generalize hM : MeetsB Try.prog = M
  cbv
  repeat' first
    | apply And.intro
    | exact True.intro
    | with_reducible rfl
    | exact same_of hA rfl
    | refine br_of hA (fun _ => ?_) (fun _ => ?_)
    | exact imp_of hA id
    | (refine imp_of hA ?_; subst hA; simp only [real, Bool.true_and]; exact id)
    | (refine ind_of hA ?_; decide +kernel)
    | (refine call_ex hA hM (c_WinTouch _ _ _ _) (fun _ _ => ?_); cbv)
  all_goals obtain ⟨k, ⟨s, e⟩, ⟨x1, x2, x3, x4⟩, ⟨x5, x6, x7, x8⟩, x9, x10⟩ := r; obtain ⟨s2, e2⟩ := w; obtain ⟨z1, z2, z3, z4, z5⟩ := x
  all_goals subst hA
  all_goals refine congrArg (fun b => XA.one (.c (.d (eB b)))) (Bool.eq_iff_iff.2 ?_)
  all_goals subst_vars
  all_goals simp only [real, bifA, bifB, bifC, bifD, beqB, decide_eq_true_eq, decide_eq_false_iff_not, beqI, bneI, beqIF, bneIF, ne_eq, Bool.and_eq_true, Bool.or_eq_true, Bool.not_eq_true', Bool.not_eq_false', Bool.and_eq_false_iff, Bool.or_eq_false_iff, Bool.false_eq_true, and_false, false_and, or_false, false_or, and_true, true_and, not_true_eq_false, not_false_eq_true, true_iff, false_iff, IntKind.wrap_i64, tchR, WinOkP, AggOkP] at *
  all_goals first | omega | exact decide_eq_true_iff.symm
def EXSg : FuncId → List Nat × Bool := fun f => bif nbeq f 1 then ([3000], false) else bif nbeq f 61 then ([0], false) else bif nbeq f 60 then ([99], false) else bif nbeq f 113 then ([99], false) else bif nbeq f 116 then ([99], false) else bif nbeq f 112 then ([99], false) else ([], false)
def st_s1g (j : JobT) (mk : Int) (n : Nat) (R : Nat → RowT) (c : Nat) (P : Nat → PaneT) (d : Nat) (Q : Nat → LatT) (x : ItmT) (w : WinT) (i k : Nat) (G : Nat → RowT) (sp : WinT) (kn : AggT) : St := ⟨[(24, .c (.d (eI i))), (23, .c (.d (eI n))), (22, .c (.own 1793 0 n 1)), (9, .c (.own 3600 0 k 1)), (6, .c (.clo 109 [(3256, 1), (3320, 1)])), (4, .c (.bp 3256 1 0)), (5, .c (.bp 3320 1 0)), (7, .c (.bp 3448 1 0)), (8, .c (.bp 3512 1 0)), (0, .c (.bp 1920 1 0))], [(1920, 1, .box [.d (eI j.srcs), .d (eI j.tsks), .d (eI j.kind), .d (eI j.size), .d (eI j.step), .d (eI j.late), .d (eI j.tell), .d (eB j.piece), .d (eI j.least), .d (eI j.room), .d (eI mk), .own 1793 0 n 1, .own 2001 0 c 1, .own 2002 0 d 1]), (1793, 1, .arr 13 n fun i => eRow (R i)), (2001, 1, .arr 9 c fun i => ePane (P i)), (2002, 1, .arr 7 d fun i => eLat (Q i)), (3256, 1, .box ((eItm x).map .d)), (3320, 1, .box ((eWin w).map .d)), (3448, 1, .box ((eWin sp).map .d)), (3512, 1, .box ((eAgg kn).map .d)), (3600, 1, .arr 13 k fun i => eRow (G i))]⟩
theorem k_sg (j : JobT) (mk : Int) (n : Nat) (R : Nat → RowT) (c : Nat) (hc : c ≤ 1080000) (P : Nat → PaneT) (d : Nat) (hd : d ≤ 1080000) (Q : Nat → LatT) (x : ItmT) (w : WinT) (hn : n ≤ 300) (hcs : c ≤ 1000000) (L : List RowT) (hl : Lst zRow L n R) (sp : WinT) (hsp : sp = spanL w (oldL x.key w L)) (hov : w64 (sp.e + j.late) ≤ mk) (Q' : Nat → LatT) (hQ' : ∀ i, i < d + 1 → Q' i = if i < d then Q i else ⟨x, w⟩) : MeetsO Try.prog 71 [.c (.bp 1920 1 0), .agg ((eItm x).map .d), .agg ((eWin w).map .d)]
    [(1920, 1, .box [.d (eI j.srcs), .d (eI j.tsks), .d (eI j.kind), .d (eI j.size), .d (eI j.step), .d (eI j.late), .d (eI j.tell), .d (eB j.piece), .d (eI j.least), .d (eI j.room), .d (eI mk), .own 1793 0 n 1, .own 2001 0 c 1, .own 2002 0 d 1]), (1793, 1, .arr 13 n fun i => eRow (R i)), (2001, 1, .arr 9 c fun i => ePane (P i)), (2002, 1, .arr 7 d fun i => eLat (Q i))] (.tup [])
    [(1920, 1, .box [.d (eI j.srcs), .d (eI j.tsks), .d (eI j.kind), .d (eI j.size), .d (eI j.step), .d (eI j.late), .d (eI j.tell), .d (eB j.piece), .d (eI j.least), .d (eI j.room), .d (eI mk), .own 1793 0 n 1, .own 2001 0 c 1, .own 2002 0 (d + 1) 2]), (1793, 1, .arr 13 n fun i => eRow (R i)), (2001, 1, .arr 9 c fun i => ePane (P i)), (2002, 2, .arr 7 (d + 1) fun i => eLat (Q' i)), (3256, 1, .dead), (3320, 1, .dead), (3448, 1, .dead), (3512, 1, .dead), (3600, 1, .dead), (4320, 1, .dead), (4384, 1, .dead), (4448, 1, .dead), (5984, 1, .dead)] := by
  have hnL : n ≤ maxLen := Nat.le_trans (show n ≤ 1080000 by omega) (by decide)
  refine inl_ofH [999, 10] (EX := EXSg) ttok mixed Try.func71 rfl (by kernel_rfl) (by decide) rfl rfl rfl rfl ?_
  generalize hA : real = A
  generalize hM : MeetsB Try.prog = M
  cbv
  repeat' first
    | apply And.intro
    | exact True.intro
    | with_reducible rfl
    | exact same_of hA rfl
    | refine br_of hA (fun _ => ?_) (fun _ => ?_)
    | exact imp_of hA id
    | (refine imp_of hA ?_; subst hA; simp only [real, Bool.true_and]; exact id)
    | (refine ind_of hA ?_; decide +kernel)
  refine loop_ofG hA (α := { y : Nat × Nat × (Nat → RowT) × WinT × AggT // y.1 ≤ n ∧ Lst zRow (oldL x.key w (L.take y.1)) y.2.1 y.2.2.1 ∧ y.2.2.2.1 = spanL w (oldL x.key w (L.take y.1)) ∧ y.2.2.2.2 = ((oldL x.key w (L.take y.1)).map (·.all)).foldl aggB zAgg }) (fun y => st_s1g j mk n R c P d Q x w y.1.1 y.1.2.1 y.1.2.2.1 y.1.2.2.2.1 y.1.2.2.2.2) (fun y => n - y.1.1) ⟨(0, 0, (fun _ => zRow), w, zAgg), Nat.zero_le _, ⟨rfl, fun k h => absurd h (Nat.not_lt_zero k)⟩, rfl, rfl⟩ ?_ ?_
  · refine cov_prom 9 3600 1 13 (fun _ => eRow zRow) rfl rfl (cov_ofG ?_ ?_ ?_)
    · subst hA; (repeat' first | exact True.intro | exact rfl | apply And.intro | (intro _ _; first | rfl | trivial))
    · subst hA; (repeat' first | exact True.intro | exact rfl | apply And.intro | (intro _ _; first | rfl | trivial) )
    · subst hA; (repeat' first | exact True.intro | exact rfl | apply And.intro | exact .inl rfl | exact .inr (le_of_nble rfl))
  rintro ⟨⟨u, k, G, s1, kn⟩, hu, hG, hs1, hkn⟩
  have hu : u ≤ n := hu
  have hG : Lst zRow (oldL x.key w (L.take u)) k G := hG
  have hs1 : s1 = spanL w (oldL x.key w (L.take u)) := hs1
  have hkn : kn = ((oldL x.key w (L.take u)).map (·.all)).foldl aggB zAgg := hkn
  have hki : k ≤ u := by
    rw [hG.1]
    refine Nat.le_trans (oldL_len _ _ _) ?_
    rw [List.length_take]; omega
  obtain ⟨sp2, hsp2⟩ : ∃ z, z = winSpan s1 (R u).win := ⟨_, rfl⟩
  obtain ⟨kn2, hkn2⟩ : ∃ z, z = aggB kn (R u).all := ⟨_, rfl⟩
  have cS := fun q (e : q = u) => c_WinSpan s1 (R q).win sp2 (by rw [e]; exact hsp2)
  have cB := fun q (e : q = u) => c_AggBoth kn (R q).all kn2 (by rw [e]; exact hkn2)
  have eq0 : A.add 0 (A.nat (Int.ofNat u)) = u := by subst hA; exact Nat.zero_add u
  have hsn : u < n → oldL x.key w (L.take (u + 1)) = oldL x.key w (L.take u) ++ if tchR x.key w (R u) = true then [R u] else [] := fun h => by rw [lst_take hl h, oldL_snoc]
  cbv
  repeat' first
    | apply And.intro
    | exact True.intro
    | with_reducible rfl
    | exact same_of hA rfl
    | refine br_of hA (fun _ => ?_) (fun _ => ?_)
    | exact imp_of hA id
    | (refine imp_of hA ?_; subst hA; simp only [real, Bool.true_and]; exact id)
    | (refine ind_of hA ?_; decide +kernel)
    | (refine call_of hA hM _ (cS _ eq0) ?_; cbv)
    | (refine call_of hA hM _ (cB _ eq0) ?_; cbv)
    | (refine call_ex hA hM (c_touched _ x w) (fun _ _ => ?_); cbv)
    | (refine inb_lt hA ?_; first | exact lt2_of hA (by assumption) | exact lt_of hA (by assumption))
    | exact room_add2 hA (by omega) (by decide)
    | exact flat_row hA _ _
  · rename_i hlt b hb hc
    have hlt' : u < n := lt2_of hA hlt
    have ht : tchR x.key w (R u) = true := by
      rw [← eq0]
      exact hb.1 hc
    refine ⟨⟨(u + 1, k + 1, (fun q => if q < k then G q else R u), sp2, kn2), hlt', ?_, ?_, ?_⟩, by dsimp only; omega, cov_ofG ?_ ?_ ?_⟩
    · dsimp only; rw [hsn hlt', if_pos ht]
      exact lst_snoc hG
    · dsimp only; rw [hsn hlt', if_pos ht]
      rw [spanL_app, ← hs1]; exact hsp2
    · dsimp only; rw [hsn hlt', if_pos ht]
      rw [List.map_append, List.foldl_append, ← hkn]; exact hkn2
    · subst hA; (repeat' first | exact True.intro | exact rfl | apply And.intro | exact congrArg (fun x => DV.v (.int .i64 x)) (up64 hlt' hnL))
    · subst hA
      (repeat' first | exact True.intro | exact rfl | apply And.intro | (intro _ _; first | rfl | trivial) | (intro q hq; refine Eq.trans (push_if (A := real) eRow rfl k G (R (0 + u)) (fun _ => eRow zRow) q hq) (congrArg eRow (by rw [Nat.zero_add]))))
    · subst hA; (repeat' first | exact True.intro | exact rfl | apply And.intro | exact .inl rfl | exact .inr (le_of_nble rfl))
  · rename_i hlt b hb hc
    have hlt' : u < n := lt2_of hA hlt
    have ht : ¬ tchR x.key w (R u) = true := by
      rw [← eq0]
      intro h; have := hb.2 h; rw [hc] at this; cases this
    refine ⟨⟨(u + 1, k, G, s1, kn), hlt', ?_, ?_, ?_⟩, by dsimp only; omega, cov_ofG ?_ ?_ ?_⟩
    · dsimp only; rw [hsn hlt', if_neg ht]
      rw [List.append_nil]; exact hG
    · dsimp only; rw [hsn hlt', if_neg ht]
      rw [List.append_nil]; exact hs1
    · dsimp only; rw [hsn hlt', if_neg ht]
      rw [List.append_nil]; exact hkn
    · subst hA; (repeat' first | exact True.intro | exact rfl | apply And.intro | exact congrArg (fun x => DV.v (.int .i64 x)) (up64 hlt' hnL))
    · subst hA; (repeat' first | exact True.intro | exact rfl | apply And.intro | (intro _ _; first | rfl | trivial))
    · subst hA; (repeat' first | exact True.intro | exact rfl | apply And.intro | exact .inl rfl | exact .inr (le_of_nble rfl))
  rename_i hge
  have hin : n = u := by have := ge2_of hA hge; omega
  subst hin
  rw [lst_all hl] at hG hs1 hkn
  have hss : s1 = sp := hs1.trans hsp.symm
  subst hss
  refine stop_ofG hA ⟨[(0, .c (.bp 1920 1 0)), (4, .c (.bp 3256 1 0)), (5, .c (.bp 3320 1 0)), (6, .c (.clo 109 [(3256, 1), (3320, 1)])), (7, .c (.bp 3448 1 0)), (8, .c (.bp 3512 1 0)), (9, .c (.own 3600 0 k 1))], [(1920, 1, .box [.d (eI j.srcs), .d (eI j.tsks), .d (eI j.kind), .d (eI j.size), .d (eI j.step), .d (eI j.late), .d (eI j.tell), .d (eB j.piece), .d (eI j.least), .d (eI j.room), .d (eI mk), .own 1793 0 n 1, .own 2001 0 c 1, .own 2002 0 d 1]), (1793, 1, .arr 13 n fun i => eRow (R i)), (2001, 1, .arr 9 c fun i => ePane (P i)), (2002, 1, .arr 7 d fun i => eLat (Q i)), (3256, 1, .box ((eItm x).map .d)), (3320, 1, .box ((eWin w).map .d)), (3448, 1, .box ((eWin s1).map .d)), (3512, 1, .box ((eAgg kn).map .d)), (3600, 1, .arr 13 k fun i => eRow (G i))]⟩ (cov_ofG ?_ ?_ ?_) ?_
  · subst hA; (repeat' first | exact True.intro | exact rfl | apply And.intro | (intro _ _; first | rfl | trivial))
  · subst hA; (repeat' first | exact True.intro | exact rfl | apply And.intro | (intro _ _; first | rfl | trivial) )
  · subst hA; (repeat' first | exact True.intro | exact rfl | apply And.intro | exact .inl rfl | exact .inr (le_of_nble rfl))
  cbv
  have kG := k_gonet j mk n R c hc P d hd Q x w s1 hov Q' hQ'
  repeat' first
    | (exfalso; rename_i h; cases h; done)
    | apply And.intro
    | exact True.intro
    | with_reducible rfl
    | exact same_of hA rfl
    | refine br_of hA (fun _ => ?_) (fun _ => ?_)
    | exact imp_of hA id
    | (refine imp_of hA ?_; subst hA; simp only [real, Bool.true_and]; exact id)
    | (refine ind_of hA ?_; decide +kernel)
    | (refine inl_call hA _ _ _ ⟨fun _ => (by rw [← hM]; exact kG), (by cbv; repeat' first | apply And.intro | exact True.intro | rfl | exact .inr trivial | exact .inl trivial | exact .inl (Nat.le_refl _)), ?_⟩; cbv)
    | (intro _ _; first | rfl | trivial)
def EXSo : FuncId → List Nat × Bool := fun f => bif nbeq f 1 then ([3000], false) else bif nbeq f 61 then ([0], false) else bif nbeq f 60 then ([99], false) else bif nbeq f 113 then ([99], false) else bif nbeq f 116 then ([99], false) else bif nbeq f 112 then ([99], false) else ([], false)
def st_s1o (j : JobT) (mk : Int) (n : Nat) (R : Nat → RowT) (c : Nat) (P : Nat → PaneT) (d : Nat) (Q : Nat → LatT) (x : ItmT) (w : WinT) (i k : Nat) (G : Nat → RowT) (sp : WinT) (kn : AggT) : St := ⟨[(24, .c (.d (eI i))), (23, .c (.d (eI n))), (22, .c (.own 1793 0 n 1)), (9, .c (.own 3600 0 k 1)), (6, .c (.clo 109 [(3256, 1), (3320, 1)])), (4, .c (.bp 3256 1 0)), (5, .c (.bp 3320 1 0)), (7, .c (.bp 3448 1 0)), (8, .c (.bp 3512 1 0)), (0, .c (.bp 1920 1 0))], [(1920, 1, .box [.d (eI j.srcs), .d (eI j.tsks), .d (eI j.kind), .d (eI j.size), .d (eI j.step), .d (eI j.late), .d (eI j.tell), .d (eB j.piece), .d (eI j.least), .d (eI j.room), .d (eI mk), .own 1793 0 n 1, .own 2001 0 c 1, .own 2002 0 d 1]), (1793, 1, .arr 13 n fun i => eRow (R i)), (2001, 1, .arr 9 c fun i => ePane (P i)), (2002, 1, .arr 7 d fun i => eLat (Q i)), (3256, 1, .box ((eItm x).map .d)), (3320, 1, .box ((eWin w).map .d)), (3448, 1, .box ((eWin sp).map .d)), (3512, 1, .box ((eAgg kn).map .d)), (3600, 1, .arr 13 k fun i => eRow (G i))]⟩
theorem k_so (j : JobT) (mk : Int) (n : Nat) (R : Nat → RowT) (c : Nat) (hc : c ≤ 1080000) (P : Nat → PaneT) (d : Nat) (hd : d ≤ 1080000) (Q : Nat → LatT) (x : ItmT) (w : WinT) (hn : n ≤ 300) (hcs : c ≤ 1000000) (L : List RowT) (hl : Lst zRow L n R) (sp : WinT) (hsp : sp = spanL w (oldL x.key w L)) (hov : mk < w64 (sp.e + j.late)) (hone : oneB sp (oldL x.key w L) = true) (i : Nat) (hi : i < n) (he : IsR x.key sp (R i)) (hb : ∀ q, q < i → ¬ IsR x.key sp (R q)) (t : RowT × List PaneT) (ht : t = tellS j mk (addR (R i) x.v)) (R' : Nat → RowT) (hR' : ∀ q, q < n → R' q = if q = i then t.1 else R q) (c' : Nat) (P' : Nat → PaneT) (hP' : Ext zPan c P t.2 c' P') : MeetsO Try.prog 71 [.c (.bp 1920 1 0), .agg ((eItm x).map .d), .agg ((eWin w).map .d)]
    [(1920, 1, .box [.d (eI j.srcs), .d (eI j.tsks), .d (eI j.kind), .d (eI j.size), .d (eI j.step), .d (eI j.late), .d (eI j.tell), .d (eB j.piece), .d (eI j.least), .d (eI j.room), .d (eI mk), .own 1793 0 n 1, .own 2001 0 c 1, .own 2002 0 d 1]), (1793, 1, .arr 13 n fun i => eRow (R i)), (2001, 1, .arr 9 c fun i => ePane (P i)), (2002, 1, .arr 7 d fun i => eLat (Q i))] (.tup [])
    [(1920, 1, .box [.d (eI j.srcs), .d (eI j.tsks), .d (eI j.kind), .d (eI j.size), .d (eI j.step), .d (eI j.late), .d (eI j.tell), .d (eB j.piece), .d (eI j.least), .d (eI j.room), .d (eI mk), .own 1793 0 n 1, .own 2001 0 c' 2, .own 2002 0 d 1]), (1793, 1, .arr 13 n fun i => eRow (R' i)), (2001, 2, .arr 9 c' fun i => ePane (P' i)), (2002, 1, .arr 7 d fun i => eLat (Q i)), (3256, 1, .dead), (3320, 1, .dead), (3448, 1, .dead), (3512, 1, .dead), (3600, 1, .dead), (4320, 1, .dead), (4384, 1, .dead), (4448, 1, .dead), (6384, 1, .dead), (8560, 1, .dead)] := by
  have hnL : n ≤ maxLen := Nat.le_trans (show n ≤ 1080000 by omega) (by decide)
  refine inl_ofH [999, 10] (EX := EXSo) ttok mixed Try.func71 rfl (by kernel_rfl) (by decide) rfl rfl rfl rfl ?_
  generalize hA : real = A
  generalize hM : MeetsB Try.prog = M
  cbv
  repeat' first
    | apply And.intro
    | exact True.intro
    | with_reducible rfl
    | exact same_of hA rfl
    | refine br_of hA (fun _ => ?_) (fun _ => ?_)
    | exact imp_of hA id
    | (refine imp_of hA ?_; subst hA; simp only [real, Bool.true_and]; exact id)
    | (refine ind_of hA ?_; decide +kernel)
  refine loop_ofG hA (α := { y : Nat × Nat × (Nat → RowT) × WinT × AggT // y.1 ≤ n ∧ Lst zRow (oldL x.key w (L.take y.1)) y.2.1 y.2.2.1 ∧ y.2.2.2.1 = spanL w (oldL x.key w (L.take y.1)) ∧ y.2.2.2.2 = ((oldL x.key w (L.take y.1)).map (·.all)).foldl aggB zAgg }) (fun y => st_s1o j mk n R c P d Q x w y.1.1 y.1.2.1 y.1.2.2.1 y.1.2.2.2.1 y.1.2.2.2.2) (fun y => n - y.1.1) ⟨(0, 0, (fun _ => zRow), w, zAgg), Nat.zero_le _, ⟨rfl, fun k h => absurd h (Nat.not_lt_zero k)⟩, rfl, rfl⟩ ?_ ?_
  · refine cov_prom 9 3600 1 13 (fun _ => eRow zRow) rfl rfl (cov_ofG ?_ ?_ ?_)
    · subst hA; (repeat' first | exact True.intro | exact rfl | apply And.intro | (intro _ _; first | rfl | trivial))
    · subst hA; (repeat' first | exact True.intro | exact rfl | apply And.intro | (intro _ _; first | rfl | trivial) )
    · subst hA; (repeat' first | exact True.intro | exact rfl | apply And.intro | exact .inl rfl | exact .inr (le_of_nble rfl))
  rintro ⟨⟨u, k, G, s1, kn⟩, hu, hG, hs1, hkn⟩
  have hu : u ≤ n := hu
  have hG : Lst zRow (oldL x.key w (L.take u)) k G := hG
  have hs1 : s1 = spanL w (oldL x.key w (L.take u)) := hs1
  have hkn : kn = ((oldL x.key w (L.take u)).map (·.all)).foldl aggB zAgg := hkn
  have hki : k ≤ u := by
    rw [hG.1]
    refine Nat.le_trans (oldL_len _ _ _) ?_
    rw [List.length_take]; omega
  obtain ⟨sp2, hsp2⟩ : ∃ z, z = winSpan s1 (R u).win := ⟨_, rfl⟩
  obtain ⟨kn2, hkn2⟩ : ∃ z, z = aggB kn (R u).all := ⟨_, rfl⟩
  have cS := fun q (e : q = u) => c_WinSpan s1 (R q).win sp2 (by rw [e]; exact hsp2)
  have cB := fun q (e : q = u) => c_AggBoth kn (R q).all kn2 (by rw [e]; exact hkn2)
  have eq0 : A.add 0 (A.nat (Int.ofNat u)) = u := by subst hA; exact Nat.zero_add u
  have hsn : u < n → oldL x.key w (L.take (u + 1)) = oldL x.key w (L.take u) ++ if tchR x.key w (R u) = true then [R u] else [] := fun h => by rw [lst_take hl h, oldL_snoc]
  cbv
  repeat' first
    | apply And.intro
    | exact True.intro
    | with_reducible rfl
    | exact same_of hA rfl
    | refine br_of hA (fun _ => ?_) (fun _ => ?_)
    | exact imp_of hA id
    | (refine imp_of hA ?_; subst hA; simp only [real, Bool.true_and]; exact id)
    | (refine ind_of hA ?_; decide +kernel)
    | (refine call_of hA hM _ (cS _ eq0) ?_; cbv)
    | (refine call_of hA hM _ (cB _ eq0) ?_; cbv)
    | (refine call_ex hA hM (c_touched _ x w) (fun _ _ => ?_); cbv)
    | (refine inb_lt hA ?_; first | exact lt2_of hA (by assumption) | exact lt_of hA (by assumption))
    | exact room_add2 hA (by omega) (by decide)
    | exact flat_row hA _ _
  · rename_i hlt b hb hc
    have hlt' : u < n := lt2_of hA hlt
    have ht : tchR x.key w (R u) = true := by
      rw [← eq0]
      exact hb.1 hc
    refine ⟨⟨(u + 1, k + 1, (fun q => if q < k then G q else R u), sp2, kn2), hlt', ?_, ?_, ?_⟩, by dsimp only; omega, cov_ofG ?_ ?_ ?_⟩
    · dsimp only; rw [hsn hlt', if_pos ht]
      exact lst_snoc hG
    · dsimp only; rw [hsn hlt', if_pos ht]
      rw [spanL_app, ← hs1]; exact hsp2
    · dsimp only; rw [hsn hlt', if_pos ht]
      rw [List.map_append, List.foldl_append, ← hkn]; exact hkn2
    · subst hA; (repeat' first | exact True.intro | exact rfl | apply And.intro | exact congrArg (fun x => DV.v (.int .i64 x)) (up64 hlt' hnL))
    · subst hA
      (repeat' first | exact True.intro | exact rfl | apply And.intro | (intro _ _; first | rfl | trivial) | (intro q hq; refine Eq.trans (push_if (A := real) eRow rfl k G (R (0 + u)) (fun _ => eRow zRow) q hq) (congrArg eRow (by rw [Nat.zero_add]))))
    · subst hA; (repeat' first | exact True.intro | exact rfl | apply And.intro | exact .inl rfl | exact .inr (le_of_nble rfl))
  · rename_i hlt b hb hc
    have hlt' : u < n := lt2_of hA hlt
    have ht : ¬ tchR x.key w (R u) = true := by
      rw [← eq0]
      intro h; have := hb.2 h; rw [hc] at this; cases this
    refine ⟨⟨(u + 1, k, G, s1, kn), hlt', ?_, ?_, ?_⟩, by dsimp only; omega, cov_ofG ?_ ?_ ?_⟩
    · dsimp only; rw [hsn hlt', if_neg ht]
      rw [List.append_nil]; exact hG
    · dsimp only; rw [hsn hlt', if_neg ht]
      rw [List.append_nil]; exact hs1
    · dsimp only; rw [hsn hlt', if_neg ht]
      rw [List.append_nil]; exact hkn
    · subst hA; (repeat' first | exact True.intro | exact rfl | apply And.intro | exact congrArg (fun x => DV.v (.int .i64 x)) (up64 hlt' hnL))
    · subst hA; (repeat' first | exact True.intro | exact rfl | apply And.intro | (intro _ _; first | rfl | trivial))
    · subst hA; (repeat' first | exact True.intro | exact rfl | apply And.intro | exact .inl rfl | exact .inr (le_of_nble rfl))
  rename_i hge
  have hin : n = u := by have := ge2_of hA hge; omega
  subst hin
  rw [lst_all hl] at hG hs1 hkn
  have hss : s1 = sp := hs1.trans hsp.symm
  subst hss
  refine stop_ofG hA ⟨[(0, .c (.bp 1920 1 0)), (4, .c (.bp 3256 1 0)), (5, .c (.bp 3320 1 0)), (6, .c (.clo 109 [(3256, 1), (3320, 1)])), (7, .c (.bp 3448 1 0)), (8, .c (.bp 3512 1 0)), (9, .c (.own 3600 0 k 1))], [(1920, 1, .box [.d (eI j.srcs), .d (eI j.tsks), .d (eI j.kind), .d (eI j.size), .d (eI j.step), .d (eI j.late), .d (eI j.tell), .d (eB j.piece), .d (eI j.least), .d (eI j.room), .d (eI mk), .own 1793 0 n 1, .own 2001 0 c 1, .own 2002 0 d 1]), (1793, 1, .arr 13 n fun i => eRow (R i)), (2001, 1, .arr 9 c fun i => ePane (P i)), (2002, 1, .arr 7 d fun i => eLat (Q i)), (3256, 1, .box ((eItm x).map .d)), (3320, 1, .box ((eWin w).map .d)), (3448, 1, .box ((eWin s1).map .d)), (3512, 1, .box ((eAgg kn).map .d)), (3600, 1, .arr 13 k fun i => eRow (G i))]⟩ (cov_ofG ?_ ?_ ?_) ?_
  · subst hA; (repeat' first | exact True.intro | exact rfl | apply And.intro | (intro _ _; first | rfl | trivial))
  · subst hA; (repeat' first | exact True.intro | exact rfl | apply And.intro | (intro _ _; first | rfl | trivial) )
  · subst hA; (repeat' first | exact True.intro | exact rfl | apply And.intro | exact .inl rfl | exact .inr (le_of_nble rfl))
  cbv
  have kG := k_gonef j mk n R c hc P d hd Q x w s1 hov
  have hk1 : k = 1 ∧ (G 0).win.s = s1.s ∧ (G 0).win.e = s1.e := (one_iff hG).1 hone
  obtain ⟨hk1, hg1, hg2⟩ := hk1
  subst hk1
  obtain ⟨z, hz, cF⟩ := c_find mk n (by omega) R x.key s1
  have hzi : z = (i : Int) := firstIx_one hz (.at i hi he hb)
  subst hzi
  have kA := fun q (e : q = i) => k_addf j mk n R c hc P d hd Q q (by omega) x.v (addR (R q) x.v) rfl t (by rw [e]; exact ht) R' (by rw [e]; exact hR') c' hP'.1 P' hP'.2
  repeat' first
    | (exfalso; rename_i h; cases h; done)
    | (exfalso; rename_i h; subst hA; simp [real, hg1, hg2] at h; done)
    | apply And.intro
    | exact True.intro
    | with_reducible rfl
    | exact same_of hA rfl
    | refine br_of hA (fun _ => ?_) (fun _ => ?_)
    | exact imp_of hA id
    | (refine imp_of hA ?_; subst hA; simp only [real, Bool.true_and]; exact id)
    | (refine ind_of hA ?_; decide +kernel)
    | (refine inl_call hA _ _ _ ⟨fun _ => (by rw [← hM]; exact kG), (by cbv; repeat' first | apply And.intro | exact True.intro | rfl | exact .inr trivial | exact .inl trivial | exact .inl (Nat.le_refl _)), ?_⟩; cbv)
    | exact flat_row hA _ _
    | (refine inb_of hA fun _ => ?_; exact ⟨Int.le_refl 0, Int.one_pos⟩)
    | (refine call_of2 hA hM _ cF (by (subst hA; first | rfl | (simp only [sub0r]; try rfl))) ?_; cbv)
    | (refine inl_call hA _ _ _ ⟨fun _ => (by rw [← hM]; exact kA (A.add 0 (A.nat (i : Int))) (by subst hA; exact Nat.zero_add i)), (by cbv; repeat' first | apply And.intro | exact True.intro | rfl | exact .inr trivial | exact .inl trivial | exact .inl (Nat.le_refl _)), ?_⟩; cbv)
    | (refine inb_of hA fun h => ?_; exact ⟨Int.natCast_nonneg _, Int.ofNat_lt.2 hi⟩)
    | (intro _ _; first | rfl | trivial)
end Go.Rk
/- A worker's methods: session. -/
namespace Go.Rk
set_option linter.unusedSimpArgs false
set_option linter.unusedVariables false
open Go.Proofs
set_option maxRecDepth 100000
set_option maxHeartbeats 1000000
def EXSt : FuncId → List Nat × Bool := fun f => bif nbeq f 1 then ([3000], false) else bif nbeq f 61 then ([0], false) else bif nbeq f 60 then ([99], false) else bif nbeq f 113 then ([99], false) else bif nbeq f 116 then ([99], false) else bif nbeq f 112 then ([99], false) else ([], false)
def st_s1t (j : JobT) (mk : Int) (n : Nat) (R : Nat → RowT) (c : Nat) (P : Nat → PaneT) (d : Nat) (Q : Nat → LatT) (x : ItmT) (w : WinT) (i k : Nat) (G : Nat → RowT) (sp : WinT) (kn : AggT) : St := ⟨[(24, .c (.d (eI i))), (23, .c (.d (eI n))), (22, .c (.own 1793 0 n 1)), (9, .c (.own 3600 0 k 1)), (6, .c (.clo 109 [(3256, 1), (3320, 1)])), (4, .c (.bp 3256 1 0)), (5, .c (.bp 3320 1 0)), (7, .c (.bp 3448 1 0)), (8, .c (.bp 3512 1 0)), (0, .c (.bp 1920 1 0))], [(1920, 1, .box [.d (eI j.srcs), .d (eI j.tsks), .d (eI j.kind), .d (eI j.size), .d (eI j.step), .d (eI j.late), .d (eI j.tell), .d (eB j.piece), .d (eI j.least), .d (eI j.room), .d (eI mk), .own 1793 0 n 1, .own 2001 0 c 1, .own 2002 0 d 1]), (1793, 1, .arr 13 n fun i => eRow (R i)), (2001, 1, .arr 9 c fun i => ePane (P i)), (2002, 1, .arr 7 d fun i => eLat (Q i)), (3256, 1, .box ((eItm x).map .d)), (3320, 1, .box ((eWin w).map .d)), (3448, 1, .box ((eWin sp).map .d)), (3512, 1, .box ((eAgg kn).map .d)), (3600, 1, .arr 13 k fun i => eRow (G i))]⟩
def st_s2t (j : JobT) (mk : Int) (kr : Nat) (Rr : Nat → RowT) (k : Nat) (G : Nat → RowT) (x : ItmT) (sp : WinT) (kn : AggT) (u c : Nat) (P : Nat → PaneT) (pv d : Nat) (Q : Nat → LatT) : St := ⟨[(91, .c (.d (eI u))), (90, .c (.d (eI k))), (89, .c (.own 3600 0 k 1)), (4, .c (.bp 3256 1 0)), (7, .c (.bp 3448 1 0)), (8, .c (.bp 3512 1 0)), (0, .c (.bp 1920 1 0))], [(1920, 1, .box [.d (eI j.srcs), .d (eI j.tsks), .d (eI j.kind), .d (eI j.size), .d (eI j.step), .d (eI j.late), .d (eI j.tell), .d (eB j.piece), .d (eI j.least), .d (eI j.room), .d (eI mk), .own 8440 0 kr 1, .own 2001 0 c pv, .own 2002 0 d 1]), (8440, 1, .arr 13 kr fun i => eRow (Rr i)), (2001, pv, .arr 9 c fun i => ePane (P i)), (2002, 1, .arr 7 d fun i => eLat (Q i)), (1793, 2, .dead), (3256, 1, .box ((eItm x).map .d)), (3448, 1, .box ((eWin sp).map .d)), (3512, 1, .box ((eAgg kn).map .d)), (3600, 1, .arr 13 k fun i => eRow (G i))]⟩
theorem k_st (j : JobT) (mk : Int) (n : Nat) (R : Nat → RowT) (c : Nat) (hc : c ≤ 1080000) (P : Nat → PaneT) (d : Nat) (hd : d ≤ 1080000) (Q : Nat → LatT) (x : ItmT) (w : WinT) (hn : n ≤ 300) (hcs : c ≤ 1000000) (L : List RowT) (hl : Lst zRow L n R) (sp : WinT) (hsp : sp = spanL w (oldL x.key w L)) (hov : mk < w64 (sp.e + j.late)) (hone : oneB sp (oldL x.key w L) = false) (a : AggT) (ha : a = aggAdd (((oldL x.key w L).map (·.all)).foldl aggB zAgg) x.v) (kr : Nat) (Rr : Nat → RowT) (hr : Lst zRow (restL x.key w L) kr Rr) (cg : Nat) (Pg : Nat → PaneT) (hPg : Ext zPan c P (goneL (oldL x.key w L)) cg Pg) (vp : Nat) (hvp : vp = (goneL (oldL x.key w L)).length + 2) (r0 : RowT) (hr0 : r0 = ⟨x.key, sp, a, a, 0, false⟩) (i : Nat) (hi : i ≤ kr) (h1 : ∀ q, q < i → RA (Rr q) r0) (h2 : ∀ q, i ≤ q → q < kr → ¬ RA (Rr q) r0) (hm : ¬ mk < sp.e) (R' : Nat → RowT) (hR' : ∀ q, q < kr + 1 → R' q = if q < i then Rr q else if q = i then toldR r0 else Rr (q - 1)) (P' : Nat → PaneT) (hP' : ∀ q, q < cg + 1 → P' q = if q < cg then Pg q else paneP j.piece r0 1) : MeetsO Try.prog 71 [.c (.bp 1920 1 0), .agg ((eItm x).map .d), .agg ((eWin w).map .d)]
    [(1920, 1, .box [.d (eI j.srcs), .d (eI j.tsks), .d (eI j.kind), .d (eI j.size), .d (eI j.step), .d (eI j.late), .d (eI j.tell), .d (eB j.piece), .d (eI j.least), .d (eI j.room), .d (eI mk), .own 1793 0 n 1, .own 2001 0 c 1, .own 2002 0 d 1]), (1793, 1, .arr 13 n fun i => eRow (R i)), (2001, 1, .arr 9 c fun i => ePane (P i)), (2002, 1, .arr 7 d fun i => eLat (Q i))] (.tup [])
    [(1920, 1, .box [.d (eI j.srcs), .d (eI j.tsks), .d (eI j.kind), .d (eI j.size), .d (eI j.step), .d (eI j.late), .d (eI j.tell), .d (eB j.piece), .d (eI j.least), .d (eI j.room), .d (eI mk), .own 2664 0 (kr + 1) 1, .own 2001 0 (cg + 1) vp, .own 2002 0 d 1]), (2664, 1, .arr 13 (kr + 1) fun i => eRow (R' i)), (2001, vp, .arr 9 (cg + 1) fun i => ePane (P' i)), (2002, 1, .arr 7 d fun i => eLat (Q i)), (3256, 1, .dead), (3320, 1, .dead), (3448, 1, .dead), (3512, 1, .dead), (3600, 1, .dead), (4320, 1, .dead), (4384, 1, .dead), (4448, 1, .dead), (6384, 1, .dead), (8560, 1, .dead), (1793, 2, .dead), (8440, 2, .dead), (1192, 1, .dead), (2600, 2, .dead)] := by
  have hnL : n ≤ maxLen := Nat.le_trans (show n ≤ 1080000 by omega) (by decide)
  refine inl_ofH [999, 10, 20, 22] (EX := EXSt) ttok mixed Try.func71 rfl (by kernel_rfl) (by decide) rfl rfl rfl rfl ?_
  generalize hA : real = A
  generalize hM : MeetsB Try.prog = M
  cbv
  repeat' first
    | apply And.intro
    | exact True.intro
    | with_reducible rfl
    | exact same_of hA rfl
    | refine br_of hA (fun _ => ?_) (fun _ => ?_)
    | exact imp_of hA id
    | (refine imp_of hA ?_; subst hA; simp only [real, Bool.true_and]; exact id)
    | (refine ind_of hA ?_; decide +kernel)
  refine loop_ofG hA (α := { y : Nat × Nat × (Nat → RowT) × WinT × AggT // y.1 ≤ n ∧ Lst zRow (oldL x.key w (L.take y.1)) y.2.1 y.2.2.1 ∧ y.2.2.2.1 = spanL w (oldL x.key w (L.take y.1)) ∧ y.2.2.2.2 = ((oldL x.key w (L.take y.1)).map (·.all)).foldl aggB zAgg }) (fun y => st_s1t j mk n R c P d Q x w y.1.1 y.1.2.1 y.1.2.2.1 y.1.2.2.2.1 y.1.2.2.2.2) (fun y => n - y.1.1) ⟨(0, 0, (fun _ => zRow), w, zAgg), Nat.zero_le _, ⟨rfl, fun k h => absurd h (Nat.not_lt_zero k)⟩, rfl, rfl⟩ ?_ ?_
  · refine cov_prom 9 3600 1 13 (fun _ => eRow zRow) rfl rfl (cov_ofG ?_ ?_ ?_)
    · subst hA; (repeat' first | exact True.intro | exact rfl | apply And.intro | (intro _ _; first | rfl | trivial))
    · subst hA; (repeat' first | exact True.intro | exact rfl | apply And.intro | (intro _ _; first | rfl | trivial) )
    · subst hA; (repeat' first | exact True.intro | exact rfl | apply And.intro | exact .inl rfl | exact .inr (le_of_nble rfl))
  rintro ⟨⟨u, k, G, s1, kn⟩, hu, hG, hs1, hkn⟩
  have hu : u ≤ n := hu
  have hG : Lst zRow (oldL x.key w (L.take u)) k G := hG
  have hs1 : s1 = spanL w (oldL x.key w (L.take u)) := hs1
  have hkn : kn = ((oldL x.key w (L.take u)).map (·.all)).foldl aggB zAgg := hkn
  have hki : k ≤ u := by
    rw [hG.1]
    refine Nat.le_trans (oldL_len _ _ _) ?_
    rw [List.length_take]; omega
  obtain ⟨sp2, hsp2⟩ : ∃ z, z = winSpan s1 (R u).win := ⟨_, rfl⟩
  obtain ⟨kn2, hkn2⟩ : ∃ z, z = aggB kn (R u).all := ⟨_, rfl⟩
  have cS := fun q (e : q = u) => c_WinSpan s1 (R q).win sp2 (by rw [e]; exact hsp2)
  have cB := fun q (e : q = u) => c_AggBoth kn (R q).all kn2 (by rw [e]; exact hkn2)
  have eq0 : A.add 0 (A.nat (Int.ofNat u)) = u := by subst hA; exact Nat.zero_add u
  have hsn : u < n → oldL x.key w (L.take (u + 1)) = oldL x.key w (L.take u) ++ if tchR x.key w (R u) = true then [R u] else [] := fun h => by rw [lst_take hl h, oldL_snoc]
  cbv
  repeat' first
    | apply And.intro
    | exact True.intro
    | with_reducible rfl
    | exact same_of hA rfl
    | refine br_of hA (fun _ => ?_) (fun _ => ?_)
    | exact imp_of hA id
    | (refine imp_of hA ?_; subst hA; simp only [real, Bool.true_and]; exact id)
    | (refine ind_of hA ?_; decide +kernel)
    | (refine call_of hA hM _ (cS _ eq0) ?_; cbv)
    | (refine call_of hA hM _ (cB _ eq0) ?_; cbv)
    | (refine call_ex hA hM (c_touched _ x w) (fun _ _ => ?_); cbv)
    | (refine inb_lt hA ?_; first | exact lt2_of hA (by assumption) | exact lt_of hA (by assumption))
    | exact room_add2 hA (by omega) (by decide)
    | exact flat_row hA _ _
  · rename_i hlt b hb hc
    have hlt' : u < n := lt2_of hA hlt
    have ht : tchR x.key w (R u) = true := by
      rw [← eq0]
      exact hb.1 hc
    refine ⟨⟨(u + 1, k + 1, (fun q => if q < k then G q else R u), sp2, kn2), hlt', ?_, ?_, ?_⟩, by dsimp only; omega, cov_ofG ?_ ?_ ?_⟩
    · dsimp only; rw [hsn hlt', if_pos ht]
      exact lst_snoc hG
    · dsimp only; rw [hsn hlt', if_pos ht]
      rw [spanL_app, ← hs1]; exact hsp2
    · dsimp only; rw [hsn hlt', if_pos ht]
      rw [List.map_append, List.foldl_append, ← hkn]; exact hkn2
    · subst hA; (repeat' first | exact True.intro | exact rfl | apply And.intro | exact congrArg (fun x => DV.v (.int .i64 x)) (up64 hlt' hnL))
    · subst hA
      (repeat' first | exact True.intro | exact rfl | apply And.intro | (intro _ _; first | rfl | trivial) | (intro q hq; refine Eq.trans (push_if (A := real) eRow rfl k G (R (0 + u)) (fun _ => eRow zRow) q hq) (congrArg eRow (by rw [Nat.zero_add]))))
    · subst hA; (repeat' first | exact True.intro | exact rfl | apply And.intro | exact .inl rfl | exact .inr (le_of_nble rfl))
  · rename_i hlt b hb hc
    have hlt' : u < n := lt2_of hA hlt
    have ht : ¬ tchR x.key w (R u) = true := by
      rw [← eq0]
      intro h; have := hb.2 h; rw [hc] at this; cases this
    refine ⟨⟨(u + 1, k, G, s1, kn), hlt', ?_, ?_, ?_⟩, by dsimp only; omega, cov_ofG ?_ ?_ ?_⟩
    · dsimp only; rw [hsn hlt', if_neg ht]
      rw [List.append_nil]; exact hG
    · dsimp only; rw [hsn hlt', if_neg ht]
      rw [List.append_nil]; exact hs1
    · dsimp only; rw [hsn hlt', if_neg ht]
      rw [List.append_nil]; exact hkn
    · subst hA; (repeat' first | exact True.intro | exact rfl | apply And.intro | exact congrArg (fun x => DV.v (.int .i64 x)) (up64 hlt' hnL))
    · subst hA; (repeat' first | exact True.intro | exact rfl | apply And.intro | (intro _ _; first | rfl | trivial))
    · subst hA; (repeat' first | exact True.intro | exact rfl | apply And.intro | exact .inl rfl | exact .inr (le_of_nble rfl))
  rename_i hge
  have hin : n = u := by have := ge2_of hA hge; omega
  subst hin
  rw [lst_all hl] at hG hs1 hkn
  have hss : s1 = sp := hs1.trans hsp.symm
  subst hss
  refine stop_ofG hA ⟨[(0, .c (.bp 1920 1 0)), (4, .c (.bp 3256 1 0)), (5, .c (.bp 3320 1 0)), (6, .c (.clo 109 [(3256, 1), (3320, 1)])), (7, .c (.bp 3448 1 0)), (8, .c (.bp 3512 1 0)), (9, .c (.own 3600 0 k 1))], [(1920, 1, .box [.d (eI j.srcs), .d (eI j.tsks), .d (eI j.kind), .d (eI j.size), .d (eI j.step), .d (eI j.late), .d (eI j.tell), .d (eB j.piece), .d (eI j.least), .d (eI j.room), .d (eI mk), .own 1793 0 n 1, .own 2001 0 c 1, .own 2002 0 d 1]), (1793, 1, .arr 13 n fun i => eRow (R i)), (2001, 1, .arr 9 c fun i => ePane (P i)), (2002, 1, .arr 7 d fun i => eLat (Q i)), (3256, 1, .box ((eItm x).map .d)), (3320, 1, .box ((eWin w).map .d)), (3448, 1, .box ((eWin s1).map .d)), (3512, 1, .box ((eAgg kn).map .d)), (3600, 1, .arr 13 k fun i => eRow (G i))]⟩ (cov_ofG ?_ ?_ ?_) ?_
  · subst hA; (repeat' first | exact True.intro | exact rfl | apply And.intro | (intro _ _; first | rfl | trivial))
  · subst hA; (repeat' first | exact True.intro | exact rfl | apply And.intro | (intro _ _; first | rfl | trivial) )
  · subst hA; (repeat' first | exact True.intro | exact rfl | apply And.intro | exact .inl rfl | exact .inr (le_of_nble rfl))
  cbv
  have kG := k_gonef j mk n R c hc P d hd Q x w s1 hov
  have hno : ¬ (k = 1 ∧ (G 0).win.s = s1.s ∧ (G 0).win.e = s1.e) := fun h => by rw [(one_iff hG).2 h] at hone; cases hone
  have hT : ∀ r, Meets Try.prog 109 [xd (eRow r), .c (.d (.p (eItm x))), .c (.d (.p (eWin w)))] ⟨.one (.c (.d (eB (tchR x.key w r)))), [none, none, none]⟩ := fun r => by
    obtain ⟨b, hb, hm⟩ := c_touched r x w
    have e : b = tchR x.key w r := Bool.eq_iff_iff.2 hb
    rw [← e]; exact hm
  have hkeep : Lst zRow (keepN R (tchR x.key w) n) kr Rr := by
    have e : restL x.key w L = keepN R (tchR x.key w) n := by rw [lst_eq hl]; rfl
    rw [← e]; exact hr
  have cD := c_DeleteRow2 n (by omega) R 109 _ _ (tchR x.key w) hT kr Rr hkeep
  have hkrn : kr ≤ n := by rw [hr.1, hl.1]; exact restL_len _ _ _
  have hkn' : k ≤ n := by rw [hG.1, hl.1]; exact oldL_len _ _ _
  obtain ⟨old, hold⟩ : ∃ old, old = oldL x.key w L := ⟨_, rfl⟩
  rw [← hold] at hG hPg hvp hkn ha
  repeat' first
    | (exfalso; rename_i h; cases h; done)
    | (exfalso; rename_i h; subst hA; simp [real] at h; exact hno ⟨by omega, h.2.1, h.2.2⟩)
    | apply And.intro
    | exact True.intro
    | with_reducible rfl
    | exact same_of hA rfl
    | refine br_of hA (fun _ => ?_) (fun _ => ?_)
    | exact imp_of hA id
    | (refine imp_of hA ?_; subst hA; simp only [real, Bool.true_and]; exact id)
    | (refine ind_of hA ?_; decide +kernel)
    | (refine inl_call hA _ _ _ ⟨fun _ => (by rw [← hM]; exact kG), (by cbv; repeat' first | apply And.intro | exact True.intro | rfl | exact .inr trivial | exact .inl trivial | exact .inl (Nat.le_refl _)), ?_⟩; cbv)
    | exact flat_row hA _ _
    | (refine inb_of hA fun h => ?_; subst hA; have h1 : ((k : Nat) : Int) = 1 := of_decide_eq_true h; exact ⟨Int.le_refl 0, by omega⟩)
    | (refine call_of2 hA hM _ cD (by (subst hA; first | rfl | (simp only [sub0r]; try rfl))) ?_; cbv)
  refine loop_ofG hA (α := { y : Nat × Nat × (Nat → PaneT) // y.1 ≤ k ∧ Ext zPan c P (goneL (old.take y.1)) y.2.1 y.2.2 }) (fun y => st_s2t j mk kr Rr k G x s1 kn y.1.1 y.1.2.1 y.1.2.2 (1 + (y.1.2.1 - c)) d Q) (fun y => k - y.1.1) ⟨(0, c, P), Nat.zero_le _, ext_nil zPan c P⟩ ?_ ?_
  · refine cov_ofG ?_ ?_ ?_
    · subst hA; (repeat' first | exact True.intro | exact rfl | apply And.intro)
    · subst hA; (repeat' first | exact True.intro | exact rfl | apply And.intro | (intro _ _; first | rfl | trivial) | exact (show 1 = 1 + (c - c) by omega) | exact (show 1 + (c - c) = 1 by omega))
    · subst hA; (repeat' first | exact True.intro | exact rfl | apply And.intro | exact .inl rfl | exact .inr (le_of_nble rfl) | exact .inr (show 1 ≤ 1 + (c - c) by omega))
  rintro ⟨⟨u2, c2, P2⟩, hu2, hE⟩
  have hu2 : u2 ≤ k := hu2
  have hE : Ext zPan c P (goneL (old.take u2)) c2 P2 := hE
  have hc2 : c ≤ c2 ∧ c2 ≤ c + u2 := by
    have h1 := gone_len (old.take u2)
    rw [List.length_take] at h1
    have := hE.1
    omega
  have hcb : c2 + 1 ≤ 1080000 := by omega
  obtain ⟨v2, hv2⟩ : ∃ v2, v2 = 1 + (c2 - c) := ⟨_, rfl⟩
  dsimp only
  rw [← hv2]
  cbv
  repeat' first
    | apply And.intro
    | exact True.intro
    | with_reducible rfl
    | exact same_of hA rfl
    | refine br_of hA (fun _ => ?_) (fun _ => ?_)
    | exact imp_of hA id
    | (refine imp_of hA ?_; subst hA; simp only [real, Bool.true_and]; exact id)
    | (refine ind_of hA ?_; decide +kernel)
    | (refine inb_lt hA ?_; first | exact lt2_of hA (by assumption) | exact lt_of hA (by assumption))
    | exact room_add2 hA (by omega) (by decide)
    | exact flat_row hA _ _
  all_goals have eq2 : A.add 0 (A.nat (Int.ofNat u2)) = u2 := by subst hA; exact Nat.zero_add u2
  · rename_i hlt hc3
    have hlt' : u2 < k := lt2_of hA hlt
    have hto : 0 < (G u2).told := by
      rw [← eq2]
      subst hA
      exact of_decide_eq_true hc3
    have htk : goneL (old.take (u2 + 1)) = goneL (old.take u2) ++ [goneP (G u2)] := by
      rw [lst_take hG hlt', goneL_snoc, if_pos hto]
    refine ⟨⟨(u2 + 1, c2 + 1, fun q => if q < c2 then P2 q else goneP (G u2)), hlt', ?_⟩, by dsimp only; omega, cov_ofG ?_ ?_ ?_⟩
    · dsimp only; rw [htk]
      exact ext_snoc hE fun q _ => rfl
    · subst hA; (repeat' first | exact True.intro | exact rfl | apply And.intro | exact congrArg (fun x => DV.v (.int .i64 x)) (up64 hlt' (Nat.le_trans (show k ≤ 1080000 by omega) (by decide))))
    · subst hA
      (repeat' first | exact True.intro | exact rfl | apply And.intro | (intro _ _; first | rfl | trivial) | (intro q hq; refine Eq.trans (push_if (A := real) ePane rfl c2 P2 (goneP (G (0 + u2))) (fun _ => [eI 0, eI 0, eI 0, eI 0, eI 0, eI 0, eI 0, eI 0, eI 0]) q hq) (congrArg ePane (by rw [Nat.zero_add]))) | exact (show v2 + 1 = 1 + (c2 + 1 - c) by omega) | exact (show 1 + (c2 + 1 - c) = v2 + 1 by omega) | exact (show v2 = 1 + (c2 - c) by omega) | exact (show 1 + (c2 - c) = v2 by omega))
    · subst hA; (repeat' first | exact True.intro | exact rfl | apply And.intro | exact .inl rfl | exact .inr (le_of_nble rfl) | exact .inr (show v2 + 1 ≤ 1 + (c2 + 1 - c) by omega) | exact .inr (show v2 ≤ 1 + (c2 + 1 - c) by omega) | exact .inr (show v2 ≤ 1 + (c2 - c) by omega))
  · rename_i hlt hc3
    have hlt' : u2 < k := lt2_of hA hlt
    have hto : ¬ 0 < (G u2).told := by
      rw [← eq2]
      subst hA
      exact of_decide_eq_false hc3
    have htk : goneL (old.take (u2 + 1)) = goneL (old.take u2) ++ [] := by
      rw [lst_take hG hlt', goneL_snoc, if_neg hto]
    refine ⟨⟨(u2 + 1, c2, P2), hlt', ?_⟩, by dsimp only; omega, cov_ofG ?_ ?_ ?_⟩
    · dsimp only; rw [htk]
      rw [List.append_nil]; exact hE
    · subst hA; (repeat' first | exact True.intro | exact rfl | apply And.intro | exact congrArg (fun x => DV.v (.int .i64 x)) (up64 hlt' (Nat.le_trans (show k ≤ 1080000 by omega) (by decide))))
    · subst hA
      (repeat' first | exact True.intro | exact rfl | apply And.intro | (intro _ _; first | rfl | trivial) | exact (show v2 + 1 = 1 + (c2 + 1 - c) by omega) | exact (show 1 + (c2 + 1 - c) = v2 + 1 by omega) | exact (show v2 = 1 + (c2 - c) by omega) | exact (show 1 + (c2 - c) = v2 by omega))
    · subst hA; (repeat' first | exact True.intro | exact rfl | apply And.intro | exact .inl rfl | exact .inr (le_of_nble rfl) | exact .inr (show v2 + 1 ≤ 1 + (c2 + 1 - c) by omega) | exact .inr (show v2 ≤ 1 + (c2 + 1 - c) by omega) | exact .inr (show v2 ≤ 1 + (c2 - c) by omega))
  rename_i hge
  have hk2 : k = u2 := by have := ge2_of hA hge; omega
  subst hk2
  rw [show old.take k = old from lst_all hG] at hE
  have hcc : c2 = cg := hE.1.trans hPg.1.symm
  subst hcc
  have hPP : ∀ q, q < c2 → P2 q = Pg q := fun q hq => (hE.2 q hq).trans (hPg.2 q hq).symm
  have hvv : vp = v2 + 1 := by have := hPg.1; omega
  subst hvv
  have cAA := c_AggAdd kn x.v a (by rw [ha, hkn])
  obtain ⟨R1, hR1⟩ : ∃ R1 : Nat → RowT, R1 = fun q => if q < i then Rr q else if q = i then r0 else Rr (q - 1) := ⟨_, rfl⟩
  have e1 : R1 i = r0 := by rw [hR1]; dsimp only; rw [if_neg (Nat.lt_irrefl i), if_pos rfl]
  have kP := k_puts j mk kr Rr c2 (by omega) Pg d hd Q v2 (by omega) r0 i hi h1 h2 R1 (fun q _ => by rw [hR1])
  rw [hr0] at kP
  refine stop_ofG hA ⟨[(0, .c (.bp 1920 1 0)), (4, .c (.bp 3256 1 0)), (7, .c (.bp 3448 1 0)), (8, .c (.bp 3512 1 0))], [(1920, 1, .box [.d (eI j.srcs), .d (eI j.tsks), .d (eI j.kind), .d (eI j.size), .d (eI j.step), .d (eI j.late), .d (eI j.tell), .d (eB j.piece), .d (eI j.least), .d (eI j.room), .d (eI mk), .own 8440 0 kr 1, .own 2001 0 c2 v2, .own 2002 0 d 1]), (8440, 1, .arr 13 kr fun i => eRow (Rr i)), (2001, v2, .arr 9 c2 fun i => ePane (Pg i)), (2002, 1, .arr 7 d fun i => eLat (Q i)), (1793, 2, .dead), (3256, 1, .box ((eItm x).map .d)), (3448, 1, .box ((eWin s1).map .d)), (3512, 1, .box ((eAgg kn).map .d))]⟩ (cov_ofG ?_ ?_ ?_) ?_
  · subst hA; (repeat' first | exact True.intro | exact rfl | apply And.intro)
  · subst hA; (repeat' first | exact True.intro | exact rfl | apply And.intro | (intro _ _; first | rfl | trivial) | (intro q hq; exact congrArg ePane (hPP q hq)))
  · subst hA; (repeat' first | exact True.intro | exact rfl | apply And.intro | exact .inl rfl | exact .inr (le_of_nble rfl) | exact .inr (Nat.le_refl _))
  cbv
  repeat' first
    | apply And.intro
    | exact True.intro
    | with_reducible rfl
    | exact same_of hA rfl
    | refine br_of hA (fun _ => ?_) (fun _ => ?_)
    | exact imp_of hA id
    | (refine imp_of hA ?_; subst hA; simp only [real, Bool.true_and]; exact id)
    | (refine ind_of hA ?_; decide +kernel)
    | (refine call_of hA hM _ cAA ?_; cbv)
    | (refine inl_call hA _ _ _ ⟨fun _ => (by rw [← hM]; exact kP), (by cbv; repeat' first | apply And.intro | exact True.intro | rfl | exact .inr trivial | exact .inl trivial | exact .inl (Nat.le_refl _)), ?_⟩; cbv)
    | exact flat_row hA _ _
  have kT := k_telln j mk (kr + 1) R1 c2 (by omega) Pg d hd Q v2 i (by omega) 1 R' (fun q hq => by
    rw [hR' q hq, e1, hR1]
    dsimp only
    by_cases a : q < i
    · rw [if_pos a, if_neg (by omega), if_pos a]
    · rw [if_neg a]
      by_cases b : q = i
      · rw [if_pos b, if_pos b]
      · rw [if_neg b, if_neg b, if_neg a, if_neg b]) P' (fun q hq => by rw [hP' q hq, e1])
  have esp : s1.e = r0.win.e := by rw [hr0]
  refine stop_ofG hA ⟨[(0, .c (.bp 1920 1 0)), (7, .c (.bp 3448 1 0)), (14, .c (.op 2664 1 i 0))], [(1920, 1, .box [.d (eI j.srcs), .d (eI j.tsks), .d (eI j.kind), .d (eI j.size), .d (eI j.step), .d (eI j.late), .d (eI j.tell), .d (eB j.piece), .d (eI j.least), .d (eI j.room), .d (eI mk), .own 2664 0 (kr + 1) 1, .own 2001 0 c2 v2, .own 2002 0 d 1]), (2664, 1, .arr 13 (kr + 1) fun i => eRow (R1 i)), (2001, v2, .arr 9 c2 fun i => ePane (Pg i)), (2002, 1, .arr 7 d fun i => eLat (Q i)), (3256, 1, .dead), (3320, 1, .dead), (3448, 1, .box ((eWin s1).map .d)), (3512, 1, .dead), (3600, 1, .dead), (4320, 1, .dead), (4384, 1, .dead), (4448, 1, .dead), (1793, 2, .dead), (8440, 2, .dead), (1192, 1, .dead), (2600, 2, .dead)]⟩ (cov_ofG ?_ ?_ ?_) ?_
  · subst hA; (repeat' first | exact True.intro | exact rfl | apply And.intro)
  · subst hA; (repeat' first | exact True.intro | exact rfl | apply And.intro | (intro _ _; first | rfl | trivial))
  · subst hA; (repeat' first | exact True.intro | exact rfl | apply And.intro | exact .inl rfl | exact .inr (le_of_nble rfl) | exact .inr (Nat.le_refl _) | exact .inr (Nat.le_succ _))
  have no : ∀ {A : Ar}, real = A → A.cmp .geq mk s1.e = false → False := fun hA h => by
    subst hA
    have h : decide (mk ≥ s1.e) = false := h
    simp at h; omega
  cbv
  repeat' first
    | exact (no hA (by assumption)).elim
    | apply And.intro
    | exact True.intro
    | with_reducible rfl
    | exact same_of hA rfl
    | refine br_of hA (fun _ => ?_) (fun _ => ?_)
    | exact imp_of hA id
    | (refine imp_of hA ?_; subst hA; simp only [real, Bool.true_and]; exact id)
    | (refine ind_of hA ?_; decide +kernel)
    | (refine inl_call hA _ _ _ ⟨fun _ => (by rw [← hM]; exact kT), (by cbv; repeat' first | apply And.intro | exact True.intro | rfl | exact .inr trivial | exact .inl trivial | exact .inl (Nat.le_refl _)), ?_⟩; cbv)
    | (intro _ _; first | rfl | trivial)
def EXSn : FuncId → List Nat × Bool := fun f => bif nbeq f 1 then ([3000], false) else bif nbeq f 61 then ([0], false) else bif nbeq f 60 then ([99], false) else bif nbeq f 113 then ([99], false) else bif nbeq f 116 then ([99], false) else bif nbeq f 112 then ([99], false) else ([], false)
def st_s1n (j : JobT) (mk : Int) (n : Nat) (R : Nat → RowT) (c : Nat) (P : Nat → PaneT) (d : Nat) (Q : Nat → LatT) (x : ItmT) (w : WinT) (i k : Nat) (G : Nat → RowT) (sp : WinT) (kn : AggT) : St := ⟨[(24, .c (.d (eI i))), (23, .c (.d (eI n))), (22, .c (.own 1793 0 n 1)), (9, .c (.own 3600 0 k 1)), (6, .c (.clo 109 [(3256, 1), (3320, 1)])), (4, .c (.bp 3256 1 0)), (5, .c (.bp 3320 1 0)), (7, .c (.bp 3448 1 0)), (8, .c (.bp 3512 1 0)), (0, .c (.bp 1920 1 0))], [(1920, 1, .box [.d (eI j.srcs), .d (eI j.tsks), .d (eI j.kind), .d (eI j.size), .d (eI j.step), .d (eI j.late), .d (eI j.tell), .d (eB j.piece), .d (eI j.least), .d (eI j.room), .d (eI mk), .own 1793 0 n 1, .own 2001 0 c 1, .own 2002 0 d 1]), (1793, 1, .arr 13 n fun i => eRow (R i)), (2001, 1, .arr 9 c fun i => ePane (P i)), (2002, 1, .arr 7 d fun i => eLat (Q i)), (3256, 1, .box ((eItm x).map .d)), (3320, 1, .box ((eWin w).map .d)), (3448, 1, .box ((eWin sp).map .d)), (3512, 1, .box ((eAgg kn).map .d)), (3600, 1, .arr 13 k fun i => eRow (G i))]⟩
def st_s2n (j : JobT) (mk : Int) (kr : Nat) (Rr : Nat → RowT) (k : Nat) (G : Nat → RowT) (x : ItmT) (sp : WinT) (kn : AggT) (u c : Nat) (P : Nat → PaneT) (pv d : Nat) (Q : Nat → LatT) : St := ⟨[(91, .c (.d (eI u))), (90, .c (.d (eI k))), (89, .c (.own 3600 0 k 1)), (4, .c (.bp 3256 1 0)), (7, .c (.bp 3448 1 0)), (8, .c (.bp 3512 1 0)), (0, .c (.bp 1920 1 0))], [(1920, 1, .box [.d (eI j.srcs), .d (eI j.tsks), .d (eI j.kind), .d (eI j.size), .d (eI j.step), .d (eI j.late), .d (eI j.tell), .d (eB j.piece), .d (eI j.least), .d (eI j.room), .d (eI mk), .own 8440 0 kr 1, .own 2001 0 c pv, .own 2002 0 d 1]), (8440, 1, .arr 13 kr fun i => eRow (Rr i)), (2001, pv, .arr 9 c fun i => ePane (P i)), (2002, 1, .arr 7 d fun i => eLat (Q i)), (1793, 2, .dead), (3256, 1, .box ((eItm x).map .d)), (3448, 1, .box ((eWin sp).map .d)), (3512, 1, .box ((eAgg kn).map .d)), (3600, 1, .arr 13 k fun i => eRow (G i))]⟩
theorem k_sn (j : JobT) (mk : Int) (n : Nat) (R : Nat → RowT) (c : Nat) (hc : c ≤ 1080000) (P : Nat → PaneT) (d : Nat) (hd : d ≤ 1080000) (Q : Nat → LatT) (x : ItmT) (w : WinT) (hn : n ≤ 300) (hcs : c ≤ 1000000) (L : List RowT) (hl : Lst zRow L n R) (sp : WinT) (hsp : sp = spanL w (oldL x.key w L)) (hov : mk < w64 (sp.e + j.late)) (hone : oneB sp (oldL x.key w L) = false) (a : AggT) (ha : a = aggAdd (((oldL x.key w L).map (·.all)).foldl aggB zAgg) x.v) (kr : Nat) (Rr : Nat → RowT) (hr : Lst zRow (restL x.key w L) kr Rr) (cg : Nat) (Pg : Nat → PaneT) (hPg : Ext zPan c P (goneL (oldL x.key w L)) cg Pg) (vp : Nat) (hvp : vp = (goneL (oldL x.key w L)).length + 2) (r0 : RowT) (hr0 : r0 = ⟨x.key, sp, a, a, 0, false⟩) (i : Nat) (hi : i ≤ kr) (h1 : ∀ q, q < i → RA (Rr q) r0) (h2 : ∀ q, i ≤ q → q < kr → ¬ RA (Rr q) r0) (hm : mk < sp.e) (R' : Nat → RowT) (hR' : ∀ q, q < kr + 1 → R' q = if q < i then Rr q else if q = i then r0 else Rr (q - 1)) : MeetsO Try.prog 71 [.c (.bp 1920 1 0), .agg ((eItm x).map .d), .agg ((eWin w).map .d)]
    [(1920, 1, .box [.d (eI j.srcs), .d (eI j.tsks), .d (eI j.kind), .d (eI j.size), .d (eI j.step), .d (eI j.late), .d (eI j.tell), .d (eB j.piece), .d (eI j.least), .d (eI j.room), .d (eI mk), .own 1793 0 n 1, .own 2001 0 c 1, .own 2002 0 d 1]), (1793, 1, .arr 13 n fun i => eRow (R i)), (2001, 1, .arr 9 c fun i => ePane (P i)), (2002, 1, .arr 7 d fun i => eLat (Q i))] (.tup [])
    [(1920, 1, .box [.d (eI j.srcs), .d (eI j.tsks), .d (eI j.kind), .d (eI j.size), .d (eI j.step), .d (eI j.late), .d (eI j.tell), .d (eB j.piece), .d (eI j.least), .d (eI j.room), .d (eI mk), .own 2664 0 (kr + 1) 1, .own 2001 0 cg vp, .own 2002 0 d 1]), (2664, 1, .arr 13 (kr + 1) fun i => eRow (R' i)), (2001, vp, .arr 9 cg fun i => ePane (Pg i)), (2002, 1, .arr 7 d fun i => eLat (Q i)), (3256, 1, .dead), (3320, 1, .dead), (3448, 1, .dead), (3512, 1, .dead), (3600, 1, .dead), (4320, 1, .dead), (4384, 1, .dead), (4448, 1, .dead), (6384, 1, .dead), (8560, 1, .dead), (1793, 2, .dead), (8440, 2, .dead), (1192, 1, .dead), (2600, 2, .dead)] := by
  have hnL : n ≤ maxLen := Nat.le_trans (show n ≤ 1080000 by omega) (by decide)
  refine inl_ofH [999, 10, 20, 22] (EX := EXSn) ttok mixed Try.func71 rfl (by kernel_rfl) (by decide) rfl rfl rfl rfl ?_
  generalize hA : real = A
  generalize hM : MeetsB Try.prog = M
  cbv
  repeat' first
    | apply And.intro
    | exact True.intro
    | with_reducible rfl
    | exact same_of hA rfl
    | refine br_of hA (fun _ => ?_) (fun _ => ?_)
    | exact imp_of hA id
    | (refine imp_of hA ?_; subst hA; simp only [real, Bool.true_and]; exact id)
    | (refine ind_of hA ?_; decide +kernel)
  refine loop_ofG hA (α := { y : Nat × Nat × (Nat → RowT) × WinT × AggT // y.1 ≤ n ∧ Lst zRow (oldL x.key w (L.take y.1)) y.2.1 y.2.2.1 ∧ y.2.2.2.1 = spanL w (oldL x.key w (L.take y.1)) ∧ y.2.2.2.2 = ((oldL x.key w (L.take y.1)).map (·.all)).foldl aggB zAgg }) (fun y => st_s1n j mk n R c P d Q x w y.1.1 y.1.2.1 y.1.2.2.1 y.1.2.2.2.1 y.1.2.2.2.2) (fun y => n - y.1.1) ⟨(0, 0, (fun _ => zRow), w, zAgg), Nat.zero_le _, ⟨rfl, fun k h => absurd h (Nat.not_lt_zero k)⟩, rfl, rfl⟩ ?_ ?_
  · refine cov_prom 9 3600 1 13 (fun _ => eRow zRow) rfl rfl (cov_ofG ?_ ?_ ?_)
    · subst hA; (repeat' first | exact True.intro | exact rfl | apply And.intro | (intro _ _; first | rfl | trivial))
    · subst hA; (repeat' first | exact True.intro | exact rfl | apply And.intro | (intro _ _; first | rfl | trivial) )
    · subst hA; (repeat' first | exact True.intro | exact rfl | apply And.intro | exact .inl rfl | exact .inr (le_of_nble rfl))
  rintro ⟨⟨u, k, G, s1, kn⟩, hu, hG, hs1, hkn⟩
  have hu : u ≤ n := hu
  have hG : Lst zRow (oldL x.key w (L.take u)) k G := hG
  have hs1 : s1 = spanL w (oldL x.key w (L.take u)) := hs1
  have hkn : kn = ((oldL x.key w (L.take u)).map (·.all)).foldl aggB zAgg := hkn
  have hki : k ≤ u := by
    rw [hG.1]
    refine Nat.le_trans (oldL_len _ _ _) ?_
    rw [List.length_take]; omega
  obtain ⟨sp2, hsp2⟩ : ∃ z, z = winSpan s1 (R u).win := ⟨_, rfl⟩
  obtain ⟨kn2, hkn2⟩ : ∃ z, z = aggB kn (R u).all := ⟨_, rfl⟩
  have cS := fun q (e : q = u) => c_WinSpan s1 (R q).win sp2 (by rw [e]; exact hsp2)
  have cB := fun q (e : q = u) => c_AggBoth kn (R q).all kn2 (by rw [e]; exact hkn2)
  have eq0 : A.add 0 (A.nat (Int.ofNat u)) = u := by subst hA; exact Nat.zero_add u
  have hsn : u < n → oldL x.key w (L.take (u + 1)) = oldL x.key w (L.take u) ++ if tchR x.key w (R u) = true then [R u] else [] := fun h => by rw [lst_take hl h, oldL_snoc]
  cbv
  repeat' first
    | apply And.intro
    | exact True.intro
    | with_reducible rfl
    | exact same_of hA rfl
    | refine br_of hA (fun _ => ?_) (fun _ => ?_)
    | exact imp_of hA id
    | (refine imp_of hA ?_; subst hA; simp only [real, Bool.true_and]; exact id)
    | (refine ind_of hA ?_; decide +kernel)
    | (refine call_of hA hM _ (cS _ eq0) ?_; cbv)
    | (refine call_of hA hM _ (cB _ eq0) ?_; cbv)
    | (refine call_ex hA hM (c_touched _ x w) (fun _ _ => ?_); cbv)
    | (refine inb_lt hA ?_; first | exact lt2_of hA (by assumption) | exact lt_of hA (by assumption))
    | exact room_add2 hA (by omega) (by decide)
    | exact flat_row hA _ _
  · rename_i hlt b hb hc
    have hlt' : u < n := lt2_of hA hlt
    have ht : tchR x.key w (R u) = true := by
      rw [← eq0]
      exact hb.1 hc
    refine ⟨⟨(u + 1, k + 1, (fun q => if q < k then G q else R u), sp2, kn2), hlt', ?_, ?_, ?_⟩, by dsimp only; omega, cov_ofG ?_ ?_ ?_⟩
    · dsimp only; rw [hsn hlt', if_pos ht]
      exact lst_snoc hG
    · dsimp only; rw [hsn hlt', if_pos ht]
      rw [spanL_app, ← hs1]; exact hsp2
    · dsimp only; rw [hsn hlt', if_pos ht]
      rw [List.map_append, List.foldl_append, ← hkn]; exact hkn2
    · subst hA; (repeat' first | exact True.intro | exact rfl | apply And.intro | exact congrArg (fun x => DV.v (.int .i64 x)) (up64 hlt' hnL))
    · subst hA
      (repeat' first | exact True.intro | exact rfl | apply And.intro | (intro _ _; first | rfl | trivial) | (intro q hq; refine Eq.trans (push_if (A := real) eRow rfl k G (R (0 + u)) (fun _ => eRow zRow) q hq) (congrArg eRow (by rw [Nat.zero_add]))))
    · subst hA; (repeat' first | exact True.intro | exact rfl | apply And.intro | exact .inl rfl | exact .inr (le_of_nble rfl))
  · rename_i hlt b hb hc
    have hlt' : u < n := lt2_of hA hlt
    have ht : ¬ tchR x.key w (R u) = true := by
      rw [← eq0]
      intro h; have := hb.2 h; rw [hc] at this; cases this
    refine ⟨⟨(u + 1, k, G, s1, kn), hlt', ?_, ?_, ?_⟩, by dsimp only; omega, cov_ofG ?_ ?_ ?_⟩
    · dsimp only; rw [hsn hlt', if_neg ht]
      rw [List.append_nil]; exact hG
    · dsimp only; rw [hsn hlt', if_neg ht]
      rw [List.append_nil]; exact hs1
    · dsimp only; rw [hsn hlt', if_neg ht]
      rw [List.append_nil]; exact hkn
    · subst hA; (repeat' first | exact True.intro | exact rfl | apply And.intro | exact congrArg (fun x => DV.v (.int .i64 x)) (up64 hlt' hnL))
    · subst hA; (repeat' first | exact True.intro | exact rfl | apply And.intro | (intro _ _; first | rfl | trivial))
    · subst hA; (repeat' first | exact True.intro | exact rfl | apply And.intro | exact .inl rfl | exact .inr (le_of_nble rfl))
  rename_i hge
  have hin : n = u := by have := ge2_of hA hge; omega
  subst hin
  rw [lst_all hl] at hG hs1 hkn
  have hss : s1 = sp := hs1.trans hsp.symm
  subst hss
  refine stop_ofG hA ⟨[(0, .c (.bp 1920 1 0)), (4, .c (.bp 3256 1 0)), (5, .c (.bp 3320 1 0)), (6, .c (.clo 109 [(3256, 1), (3320, 1)])), (7, .c (.bp 3448 1 0)), (8, .c (.bp 3512 1 0)), (9, .c (.own 3600 0 k 1))], [(1920, 1, .box [.d (eI j.srcs), .d (eI j.tsks), .d (eI j.kind), .d (eI j.size), .d (eI j.step), .d (eI j.late), .d (eI j.tell), .d (eB j.piece), .d (eI j.least), .d (eI j.room), .d (eI mk), .own 1793 0 n 1, .own 2001 0 c 1, .own 2002 0 d 1]), (1793, 1, .arr 13 n fun i => eRow (R i)), (2001, 1, .arr 9 c fun i => ePane (P i)), (2002, 1, .arr 7 d fun i => eLat (Q i)), (3256, 1, .box ((eItm x).map .d)), (3320, 1, .box ((eWin w).map .d)), (3448, 1, .box ((eWin s1).map .d)), (3512, 1, .box ((eAgg kn).map .d)), (3600, 1, .arr 13 k fun i => eRow (G i))]⟩ (cov_ofG ?_ ?_ ?_) ?_
  · subst hA; (repeat' first | exact True.intro | exact rfl | apply And.intro | (intro _ _; first | rfl | trivial))
  · subst hA; (repeat' first | exact True.intro | exact rfl | apply And.intro | (intro _ _; first | rfl | trivial) )
  · subst hA; (repeat' first | exact True.intro | exact rfl | apply And.intro | exact .inl rfl | exact .inr (le_of_nble rfl))
  cbv
  have kG := k_gonef j mk n R c hc P d hd Q x w s1 hov
  have hno : ¬ (k = 1 ∧ (G 0).win.s = s1.s ∧ (G 0).win.e = s1.e) := fun h => by rw [(one_iff hG).2 h] at hone; cases hone
  have hT : ∀ r, Meets Try.prog 109 [xd (eRow r), .c (.d (.p (eItm x))), .c (.d (.p (eWin w)))] ⟨.one (.c (.d (eB (tchR x.key w r)))), [none, none, none]⟩ := fun r => by
    obtain ⟨b, hb, hm⟩ := c_touched r x w
    have e : b = tchR x.key w r := Bool.eq_iff_iff.2 hb
    rw [← e]; exact hm
  have hkeep : Lst zRow (keepN R (tchR x.key w) n) kr Rr := by
    have e : restL x.key w L = keepN R (tchR x.key w) n := by rw [lst_eq hl]; rfl
    rw [← e]; exact hr
  have cD := c_DeleteRow2 n (by omega) R 109 _ _ (tchR x.key w) hT kr Rr hkeep
  have hkrn : kr ≤ n := by rw [hr.1, hl.1]; exact restL_len _ _ _
  have hkn' : k ≤ n := by rw [hG.1, hl.1]; exact oldL_len _ _ _
  obtain ⟨old, hold⟩ : ∃ old, old = oldL x.key w L := ⟨_, rfl⟩
  rw [← hold] at hG hPg hvp hkn ha
  repeat' first
    | (exfalso; rename_i h; cases h; done)
    | (exfalso; rename_i h; subst hA; simp [real] at h; exact hno ⟨by omega, h.2.1, h.2.2⟩)
    | apply And.intro
    | exact True.intro
    | with_reducible rfl
    | exact same_of hA rfl
    | refine br_of hA (fun _ => ?_) (fun _ => ?_)
    | exact imp_of hA id
    | (refine imp_of hA ?_; subst hA; simp only [real, Bool.true_and]; exact id)
    | (refine ind_of hA ?_; decide +kernel)
    | (refine inl_call hA _ _ _ ⟨fun _ => (by rw [← hM]; exact kG), (by cbv; repeat' first | apply And.intro | exact True.intro | rfl | exact .inr trivial | exact .inl trivial | exact .inl (Nat.le_refl _)), ?_⟩; cbv)
    | exact flat_row hA _ _
    | (refine inb_of hA fun h => ?_; subst hA; have h1 : ((k : Nat) : Int) = 1 := of_decide_eq_true h; exact ⟨Int.le_refl 0, by omega⟩)
    | (refine call_of2 hA hM _ cD (by (subst hA; first | rfl | (simp only [sub0r]; try rfl))) ?_; cbv)
  refine loop_ofG hA (α := { y : Nat × Nat × (Nat → PaneT) // y.1 ≤ k ∧ Ext zPan c P (goneL (old.take y.1)) y.2.1 y.2.2 }) (fun y => st_s2n j mk kr Rr k G x s1 kn y.1.1 y.1.2.1 y.1.2.2 (1 + (y.1.2.1 - c)) d Q) (fun y => k - y.1.1) ⟨(0, c, P), Nat.zero_le _, ext_nil zPan c P⟩ ?_ ?_
  · refine cov_ofG ?_ ?_ ?_
    · subst hA; (repeat' first | exact True.intro | exact rfl | apply And.intro)
    · subst hA; (repeat' first | exact True.intro | exact rfl | apply And.intro | (intro _ _; first | rfl | trivial) | exact (show 1 = 1 + (c - c) by omega) | exact (show 1 + (c - c) = 1 by omega))
    · subst hA; (repeat' first | exact True.intro | exact rfl | apply And.intro | exact .inl rfl | exact .inr (le_of_nble rfl) | exact .inr (show 1 ≤ 1 + (c - c) by omega))
  rintro ⟨⟨u2, c2, P2⟩, hu2, hE⟩
  have hu2 : u2 ≤ k := hu2
  have hE : Ext zPan c P (goneL (old.take u2)) c2 P2 := hE
  have hc2 : c ≤ c2 ∧ c2 ≤ c + u2 := by
    have h1 := gone_len (old.take u2)
    rw [List.length_take] at h1
    have := hE.1
    omega
  have hcb : c2 + 1 ≤ 1080000 := by omega
  obtain ⟨v2, hv2⟩ : ∃ v2, v2 = 1 + (c2 - c) := ⟨_, rfl⟩
  dsimp only
  rw [← hv2]
  cbv
  repeat' first
    | apply And.intro
    | exact True.intro
    | with_reducible rfl
    | exact same_of hA rfl
    | refine br_of hA (fun _ => ?_) (fun _ => ?_)
    | exact imp_of hA id
    | (refine imp_of hA ?_; subst hA; simp only [real, Bool.true_and]; exact id)
    | (refine ind_of hA ?_; decide +kernel)
    | (refine inb_lt hA ?_; first | exact lt2_of hA (by assumption) | exact lt_of hA (by assumption))
    | exact room_add2 hA (by omega) (by decide)
    | exact flat_row hA _ _
  all_goals have eq2 : A.add 0 (A.nat (Int.ofNat u2)) = u2 := by subst hA; exact Nat.zero_add u2
  · rename_i hlt hc3
    have hlt' : u2 < k := lt2_of hA hlt
    have hto : 0 < (G u2).told := by
      rw [← eq2]
      subst hA
      exact of_decide_eq_true hc3
    have htk : goneL (old.take (u2 + 1)) = goneL (old.take u2) ++ [goneP (G u2)] := by
      rw [lst_take hG hlt', goneL_snoc, if_pos hto]
    refine ⟨⟨(u2 + 1, c2 + 1, fun q => if q < c2 then P2 q else goneP (G u2)), hlt', ?_⟩, by dsimp only; omega, cov_ofG ?_ ?_ ?_⟩
    · dsimp only; rw [htk]
      exact ext_snoc hE fun q _ => rfl
    · subst hA; (repeat' first | exact True.intro | exact rfl | apply And.intro | exact congrArg (fun x => DV.v (.int .i64 x)) (up64 hlt' (Nat.le_trans (show k ≤ 1080000 by omega) (by decide))))
    · subst hA
      (repeat' first | exact True.intro | exact rfl | apply And.intro | (intro _ _; first | rfl | trivial) | (intro q hq; refine Eq.trans (push_if (A := real) ePane rfl c2 P2 (goneP (G (0 + u2))) (fun _ => [eI 0, eI 0, eI 0, eI 0, eI 0, eI 0, eI 0, eI 0, eI 0]) q hq) (congrArg ePane (by rw [Nat.zero_add]))) | exact (show v2 + 1 = 1 + (c2 + 1 - c) by omega) | exact (show 1 + (c2 + 1 - c) = v2 + 1 by omega) | exact (show v2 = 1 + (c2 - c) by omega) | exact (show 1 + (c2 - c) = v2 by omega))
    · subst hA; (repeat' first | exact True.intro | exact rfl | apply And.intro | exact .inl rfl | exact .inr (le_of_nble rfl) | exact .inr (show v2 + 1 ≤ 1 + (c2 + 1 - c) by omega) | exact .inr (show v2 ≤ 1 + (c2 + 1 - c) by omega) | exact .inr (show v2 ≤ 1 + (c2 - c) by omega))
  · rename_i hlt hc3
    have hlt' : u2 < k := lt2_of hA hlt
    have hto : ¬ 0 < (G u2).told := by
      rw [← eq2]
      subst hA
      exact of_decide_eq_false hc3
    have htk : goneL (old.take (u2 + 1)) = goneL (old.take u2) ++ [] := by
      rw [lst_take hG hlt', goneL_snoc, if_neg hto]
    refine ⟨⟨(u2 + 1, c2, P2), hlt', ?_⟩, by dsimp only; omega, cov_ofG ?_ ?_ ?_⟩
    · dsimp only; rw [htk]
      rw [List.append_nil]; exact hE
    · subst hA; (repeat' first | exact True.intro | exact rfl | apply And.intro | exact congrArg (fun x => DV.v (.int .i64 x)) (up64 hlt' (Nat.le_trans (show k ≤ 1080000 by omega) (by decide))))
    · subst hA
      (repeat' first | exact True.intro | exact rfl | apply And.intro | (intro _ _; first | rfl | trivial) | exact (show v2 + 1 = 1 + (c2 + 1 - c) by omega) | exact (show 1 + (c2 + 1 - c) = v2 + 1 by omega) | exact (show v2 = 1 + (c2 - c) by omega) | exact (show 1 + (c2 - c) = v2 by omega))
    · subst hA; (repeat' first | exact True.intro | exact rfl | apply And.intro | exact .inl rfl | exact .inr (le_of_nble rfl) | exact .inr (show v2 + 1 ≤ 1 + (c2 + 1 - c) by omega) | exact .inr (show v2 ≤ 1 + (c2 + 1 - c) by omega) | exact .inr (show v2 ≤ 1 + (c2 - c) by omega))
  rename_i hge
  have hk2 : k = u2 := by have := ge2_of hA hge; omega
  subst hk2
  rw [show old.take k = old from lst_all hG] at hE
  have hcc : c2 = cg := hE.1.trans hPg.1.symm
  subst hcc
  have hPP : ∀ q, q < c2 → P2 q = Pg q := fun q hq => (hE.2 q hq).trans (hPg.2 q hq).symm
  have hvv : vp = v2 + 1 := by have := hPg.1; omega
  subst hvv
  have cAA := c_AggAdd kn x.v a (by rw [ha, hkn])
  obtain ⟨R1, hR1⟩ : ∃ R1 : Nat → RowT, R1 = fun q => if q < i then Rr q else if q = i then r0 else Rr (q - 1) := ⟨_, rfl⟩
  have e1 : R1 i = r0 := by rw [hR1]; dsimp only; rw [if_neg (Nat.lt_irrefl i), if_pos rfl]
  have kP := k_puts j mk kr Rr c2 (by omega) Pg d hd Q v2 (by omega) r0 i hi h1 h2 R1 (fun q _ => by rw [hR1])
  rw [hr0] at kP
  refine stop_ofG hA ⟨[(0, .c (.bp 1920 1 0)), (4, .c (.bp 3256 1 0)), (7, .c (.bp 3448 1 0)), (8, .c (.bp 3512 1 0))], [(1920, 1, .box [.d (eI j.srcs), .d (eI j.tsks), .d (eI j.kind), .d (eI j.size), .d (eI j.step), .d (eI j.late), .d (eI j.tell), .d (eB j.piece), .d (eI j.least), .d (eI j.room), .d (eI mk), .own 8440 0 kr 1, .own 2001 0 c2 v2, .own 2002 0 d 1]), (8440, 1, .arr 13 kr fun i => eRow (Rr i)), (2001, v2, .arr 9 c2 fun i => ePane (Pg i)), (2002, 1, .arr 7 d fun i => eLat (Q i)), (1793, 2, .dead), (3256, 1, .box ((eItm x).map .d)), (3448, 1, .box ((eWin s1).map .d)), (3512, 1, .box ((eAgg kn).map .d))]⟩ (cov_ofG ?_ ?_ ?_) ?_
  · subst hA; (repeat' first | exact True.intro | exact rfl | apply And.intro)
  · subst hA; (repeat' first | exact True.intro | exact rfl | apply And.intro | (intro _ _; first | rfl | trivial) | (intro q hq; exact congrArg ePane (hPP q hq)))
  · subst hA; (repeat' first | exact True.intro | exact rfl | apply And.intro | exact .inl rfl | exact .inr (le_of_nble rfl) | exact .inr (Nat.le_refl _))
  cbv
  repeat' first
    | apply And.intro
    | exact True.intro
    | with_reducible rfl
    | exact same_of hA rfl
    | refine br_of hA (fun _ => ?_) (fun _ => ?_)
    | exact imp_of hA id
    | (refine imp_of hA ?_; subst hA; simp only [real, Bool.true_and]; exact id)
    | (refine ind_of hA ?_; decide +kernel)
    | (refine call_of hA hM _ cAA ?_; cbv)
    | (refine inl_call hA _ _ _ ⟨fun _ => (by rw [← hM]; exact kP), (by cbv; repeat' first | apply And.intro | exact True.intro | rfl | exact .inr trivial | exact .inl trivial | exact .inl (Nat.le_refl _)), ?_⟩; cbv)
    | exact flat_row hA _ _
  have esp : s1.e = r0.win.e := by rw [hr0]
  refine stop_ofG hA ⟨[(0, .c (.bp 1920 1 0)), (7, .c (.bp 3448 1 0)), (14, .c (.op 2664 1 i 0))], [(1920, 1, .box [.d (eI j.srcs), .d (eI j.tsks), .d (eI j.kind), .d (eI j.size), .d (eI j.step), .d (eI j.late), .d (eI j.tell), .d (eB j.piece), .d (eI j.least), .d (eI j.room), .d (eI mk), .own 2664 0 (kr + 1) 1, .own 2001 0 c2 (v2 + 1), .own 2002 0 d 1]), (2664, 1, .arr 13 (kr + 1) fun i => eRow (R1 i)), (2001, (v2 + 1), .arr 9 c2 fun i => ePane (Pg i)), (2002, 1, .arr 7 d fun i => eLat (Q i)), (3256, 1, .dead), (3320, 1, .dead), (3448, 1, .box ((eWin s1).map .d)), (3512, 1, .dead), (3600, 1, .dead), (4320, 1, .dead), (4384, 1, .dead), (4448, 1, .dead), (6384, 1, .dead), (8560, 1, .dead), (1793, 2, .dead), (8440, 2, .dead), (1192, 1, .dead), (2600, 2, .dead)]⟩ (cov_ofG ?_ ?_ ?_) ?_
  · subst hA; (repeat' first | exact True.intro | exact rfl | apply And.intro)
  · subst hA; (repeat' first | exact True.intro | exact rfl | apply And.intro | (intro _ _; first | rfl | trivial))
  · subst hA; (repeat' first | exact True.intro | exact rfl | apply And.intro | exact .inl rfl | exact .inr (le_of_nble rfl) | exact .inr (Nat.le_refl _) | exact .inr (Nat.le_succ _))
  have no : ∀ {A : Ar}, real = A → A.cmp .geq mk s1.e = true → False := fun hA h => by
    subst hA
    have h : decide (mk ≥ s1.e) = true := h
    simp at h; omega
  cbv
  repeat' first
    | exact (no hA (by assumption)).elim
    | apply And.intro
    | exact True.intro
    | with_reducible rfl
    | exact same_of hA rfl
    | refine br_of hA (fun _ => ?_) (fun _ => ?_)
    | exact imp_of hA id
    | (refine imp_of hA ?_; subst hA; simp only [real, Bool.true_and]; exact id)
    | (refine ind_of hA ?_; decide +kernel)
    | (intro q hq; exact congrArg eRow ((congrFun hR1 q).trans (hR' q hq).symm))
    | (intro _ _; first | rfl | trivial)
end Go.Rk
/- The windows of a time. -/
namespace Go.Rk
set_option linter.unusedSimpArgs false
set_option linter.unusedVariables false
open Go.Proofs
theorem c_JobOkP (j : JobT) : ∃ b, (b = true ↔ JobOkP j) ∧ Meets Try.prog 49 [xd (eJob j)] ⟨.one (.c (.d (eB b))), [none]⟩ := by
  obtain ⟨b, hb, hm⟩ := c_JobOk j.srcs j.tsks j.kind j.size j.step j.late j.tell j.piece j.least j.room
  exact ⟨b, by rw [hb, decide_eq_true_eq]; exact Iff.rfl, hm⟩
theorem c_sJobOkP (j : JobT) : ∃ b, (b = true ↔ JobOkP j) ∧ Meets Try.prog 43 [xd (eJob j)] ⟨.one (.c (.d (eB b))), [none]⟩ := by
  obtain ⟨b, hb, hm⟩ := c_sJobOk j.srcs j.tsks j.kind j.size j.step j.late j.tell j.piece j.least j.room
  exact ⟨b, by rw [hb, decide_eq_true_eq]; exact Iff.rfl, hm⟩


theorem nz_of {A : Ar} (hA : real = A) {g : Bool} {n : Int} (h : n ≠ 0) : A.nz g n := by subst hA; exact fun _ => h
def st_wo (j : JobT) (t sp f : Int) (n : Nat) (row : Nat → List DV) : St := ⟨[(5, .c (.d (eI f))), (6, .c (.d (eI sp))), (1, .c (.d (eI t))), (2, .c (.bp 128 1 0)), (7, .c (.own 3392 0 n 1))], [(128, 1, .box ((eJob j).map .d)), (3392, 1, .arr 2 n row)]⟩
set_option maxRecDepth 100000 in
theorem c_WinOf (j : JobT) (t : Int) (hj : JobOkP j) (ht : 0 ≤ t ∧ t ≤ 60) (n : Nat) (g : Nat → WinT) (hl : Tells zWin eWin (winsL j t) n (fun i => eWin (g i))) : Meets Try.prog 70 [xd (eJob j), .c (.d (eI t))] ⟨.one (.c (.own 2 n fun i => eWin (g i))), [none, none]⟩ := by
  have hsz : 1 ≤ j.size ∧ j.size ≤ 20 := hj.2.2.2.1
  have hst := hj.2.2.2.2.1
  have a := Int.tmod_nonneg j.size ht.1
  have b := Int.tmod_lt_of_pos t (show 0 < j.size by omega)
  have c : t.tmod j.size ≤ t := by
    rw [Int.tmod_eq_emod_of_nonneg ht.1]
    have := Int.emod_add_mul_ediv t j.size
    have := Int.mul_nonneg (show 0 ≤ j.size by omega) (Int.ediv_nonneg ht.1 (show 0 ≤ j.size by omega))
    omega
  refine meets_of (H := [14]) (EX := EXA) ttok mixed Try.func70 rfl (by kernel_rfl) (by decide) ?_
  generalize hA : real = A
  generalize hM : MeetsB Try.prog = M
  cbv
  repeat' first
    | apply And.intro
    | exact True.intro
    | with_reducible rfl
    | exact same_of hA rfl
    | refine br_of hA (fun _ => ?_) (fun _ => ?_)
    | exact imp_of hA id
    | (refine imp_of hA ?_; subst hA; simp only [real, Bool.true_and]; exact id)
    | (refine ind_of hA ?_; decide +kernel)
    | (refine call_ex hA hM (c_JobOkP j) (fun _ _ => ?_); cbv)
    | (refine call_ex hA hM (c_in _ _ _) (fun _ _ => ?_); cbv)
    | exact nz_of hA (show j.size ≠ 0 by omega)
  · exfalso
    rename_i b1 hb1 b2 hb2 hbad
    subst hA; subst hb2
    simp only [real, bifA, bifB, bifC, bifD, beqB, decide_eq_true_eq, decide_eq_false_iff_not, beqI, bneI, beqIF, bneIF, ne_eq, Classical.not_not, Bool.and_eq_true, Bool.or_eq_true, Bool.not_eq_true', Bool.not_eq_false', Bool.and_eq_false_iff, Bool.or_eq_false_iff, Bool.false_eq_true, and_false, false_and, or_false, false_or, and_true, true_and, not_true_eq_false, not_false_eq_true, true_iff, false_iff, Int.ofNat_eq_natCast, Int.toNat_natCast] at hbad
    rcases hbad with h | h
    · have := hb1.2 hj
      rw [h] at this; cases this
    · exact h ht
  · rename_i b1 hb1 b2 hb2 hgood hk1
    have hk : j.kind = 1 := by subst hA; have h : (j.kind == 1) = true := hk1; simpa using h
    have hsp : 1 ≤ j.size := hsz.1
    have hf0 : IntKind.i64.wrap (t - t.tmod j.size) = t - t.tmod j.size := IntWalk.i64_in _ (by omega)
    have hs0 : j.size = j.size := rfl
    have hall : [] ++ slideF j.size j.size t 100 (t - t.tmod j.size) = winsL j t := by unfold winsL winStep winFrom; rw [if_pos hk, if_pos hk]; rfl
    refine loop_of hA (α := { q : Int × Nat × (Nat → List DV) × List WinT // (0 ≤ q.1 ∧ q.1 ≤ 80) ∧ Tells zWin eWin q.2.2.2 q.2.1 q.2.2.1 ∧ q.2.2.2 ++ slideF j.size j.size t 100 q.1 = winsL j t }) (fun y => st_wo j t j.size y.1.1 y.1.2.1 y.1.2.2.1) (fun y => (61 - y.1.1).toNat) ⟨((t - t.tmod j.size), 0, fun _ => [], []), ⟨by simp only; omega, by simp only; omega⟩, ⟨rfl, fun k h => absurd h (Nat.not_lt_zero k)⟩, hall⟩ ?_ ?_
    · refine cov_prom 7 3392 1 2 (fun _ => []) (by cbv) (by cbv) (cov_of ?_ ?_ ?_)
      · cbv; try (subst hA; repeat' first | apply And.intro | exact True.intro | exact congrArg (fun x => DV.v (.int .i64 x)) hf0 | exact congrArg (fun x => DV.v (.int .i64 x)) hs0 | rfl)
      · cbv; try (subst hA; repeat' first | apply And.intro | exact True.intro | rfl | exact (fun _ _ => rfl) | (intro k hk; exact absurd hk (Nat.not_lt_zero k)))
      · cbv
    rintro ⟨⟨f, n1, row, l⟩, hf, hT, hw⟩
    have hf : 0 ≤ f ∧ f ≤ 80 := hf
    have hT : Tells zWin eWin l n1 row := hT
    have hw : l ++ slideF j.size j.size t 100 f = winsL j t := hw
    have hn1 : n1 ≤ 100 := by
      have := congrArg List.length hw
      rw [List.length_append] at this
      have := winsL_len j t
      have := hT.1
      omega
    have hws : IntKind.i64.wrap (f + j.size) = f + j.size := IntWalk.i64_in _ (by omega)
    have hwp : IntKind.i64.wrap (f + j.size) = f + j.size := IntWalk.i64_in _ (by omega)
    cbv
    repeat' first
      | apply And.intro
      | exact True.intro
      | with_reducible rfl
      | exact same_of hA rfl
      | refine br_of hA (fun _ => ?_) (fun _ => ?_)
      | exact imp_of hA id
      | (refine imp_of hA ?_; subst hA; simp only [real, Bool.true_and]; exact id)
      | (refine ind_of hA ?_; decide +kernel)
      | exact room_add hA (by omega) (by decide)
    · rename_i hlt hin
      have hlt : f ≤ t := by subst hA; exact of_decide_eq_true hlt
      have hin : t < f + j.size := by
        subst hA
        have h : t < IntKind.i64.wrap (f + j.size) := of_decide_eq_true hin
        rw [hws] at h; exact h
      have hg := slideF_go (size := j.size) (step := j.size) (t := t) (f := f) hsp hf.1 ht.2 hlt
      rw [if_pos hin] at hg
      refine ⟨⟨(f + j.size, n1 + 1, fun k => if k < n1 then row k else eWin ⟨f, f + j.size⟩, l ++ [⟨f, f + j.size⟩]), ⟨by simp only; omega, by simp only; omega⟩, tells_snoc hT (fun k _ => rfl), by rw [List.append_assoc, ← hw, hg]⟩, by simp only; omega, cov_of ?_ ?_ ?_⟩
      · cbv
        subst hA
        repeat' first | apply And.intro | exact True.intro | exact congrArg (fun x => DV.v (.int .i64 x)) hwp | rfl | (intro k hk; exact push_at rfl _ _ _ _ k hk)
      · cbv
        subst hA
        repeat' first | apply And.intro | exact True.intro | rfl | (intro k hk; exact (push_at rfl _ _ _ _ k hk).trans (congrArg (fun x => if k < n1 then row k else [eI f, eI x]) hws))
      · cbv
    · rename_i hlt hin
      have hlt : f ≤ t := by subst hA; exact of_decide_eq_true hlt
      have hin : ¬ t < f + j.size := by
        subst hA
        have h : ¬ t < IntKind.i64.wrap (f + j.size) := of_decide_eq_false hin
        rw [hws] at h; exact h
      have hg := slideF_go (size := j.size) (step := j.size) (t := t) (f := f) hsp hf.1 ht.2 hlt
      rw [if_neg hin] at hg
      refine ⟨⟨(f + j.size, n1, row, l), ⟨by simp only; omega, by simp only; omega⟩, hT, by rw [← hw, hg]; rfl⟩, by simp only; omega, cov_of ?_ ?_ ?_⟩
      · cbv
        subst hA
        repeat' first | apply And.intro | exact True.intro | exact congrArg (fun x => DV.v (.int .i64 x)) hwp | rfl | (intro k hk; exact push_at rfl _ _ _ _ k hk)
      · cbv; try (subst hA; repeat' first | apply And.intro | exact True.intro | rfl | (intro _ _; rfl))
      · cbv
    · rename_i hlt
      have hlt : ¬ f ≤ t := by subst hA; exact of_decide_eq_false hlt
      rw [slideF_end hlt, List.append_nil] at hw
      subst hw
      have hnn : n1 = n := hT.1.trans hl.1.symm
      subst hnn
      refine stop_of hA ⟨[(7, .c (.own 3392 0 n1 1))], [(3392, 1, .arr 2 n1 fun i => eWin (g i))]⟩ (cov_of ?_ ?_ ?_) ?_
      · cbv
      · cbv
        exact ⟨fun q hq => (hT.2 q hq).trans (hl.2 q hq).symm, trivial⟩
      · cbv
      · cbv
        repeat' first
          | apply And.intro
          | exact True.intro
          | with_reducible rfl
          | exact same_of hA rfl
          | refine br_of hA (fun _ => ?_) (fun _ => ?_)
          | exact imp_of hA id
          | (refine imp_of hA ?_; subst hA; simp only [real, Bool.true_and]; exact id)
          | (refine ind_of hA ?_; decide +kernel)
  · rename_i b1 hb1 b2 hb2 hgood hk1 hk2
    have hk : j.kind = 2 := by subst hA; have h : (j.kind == 2) = true := hk2; simpa using h
    have hsp : 1 ≤ j.step ∧ j.step ≤ 20 := by omega
    have hsp2 := hsp.2
    have hsp : 1 ≤ j.step := hsp.1
    have hf0 : (0 : Int) = 0 := rfl
    have hs0 : j.step = j.step := rfl
    have hall : [] ++ slideF j.size j.step t 100 0 = winsL j t := by unfold winsL winStep winFrom; rw [if_neg (by omega), if_pos hk, if_neg (by omega), if_pos hk]; rfl
    refine loop_of hA (α := { q : Int × Nat × (Nat → List DV) × List WinT // (0 ≤ q.1 ∧ q.1 ≤ 80) ∧ Tells zWin eWin q.2.2.2 q.2.1 q.2.2.1 ∧ q.2.2.2 ++ slideF j.size j.step t 100 q.1 = winsL j t }) (fun y => st_wo j t j.step y.1.1 y.1.2.1 y.1.2.2.1) (fun y => (61 - y.1.1).toNat) ⟨(0, 0, fun _ => [], []), ⟨by simp only; omega, by simp only; omega⟩, ⟨rfl, fun k h => absurd h (Nat.not_lt_zero k)⟩, hall⟩ ?_ ?_
    · refine cov_prom 7 3392 1 2 (fun _ => []) (by cbv) (by cbv) (cov_of ?_ ?_ ?_)
      · cbv; try (subst hA; repeat' first | apply And.intro | exact True.intro | exact congrArg (fun x => DV.v (.int .i64 x)) hf0 | exact congrArg (fun x => DV.v (.int .i64 x)) hs0 | rfl)
      · cbv; try (subst hA; repeat' first | apply And.intro | exact True.intro | rfl | exact (fun _ _ => rfl) | (intro k hk; exact absurd hk (Nat.not_lt_zero k)))
      · cbv
    rintro ⟨⟨f, n1, row, l⟩, hf, hT, hw⟩
    have hf : 0 ≤ f ∧ f ≤ 80 := hf
    have hT : Tells zWin eWin l n1 row := hT
    have hw : l ++ slideF j.size j.step t 100 f = winsL j t := hw
    have hn1 : n1 ≤ 100 := by
      have := congrArg List.length hw
      rw [List.length_append] at this
      have := winsL_len j t
      have := hT.1
      omega
    have hws : IntKind.i64.wrap (f + j.size) = f + j.size := IntWalk.i64_in _ (by omega)
    have hwp : IntKind.i64.wrap (f + j.step) = f + j.step := IntWalk.i64_in _ (by omega)
    cbv
    repeat' first
      | apply And.intro
      | exact True.intro
      | with_reducible rfl
      | exact same_of hA rfl
      | refine br_of hA (fun _ => ?_) (fun _ => ?_)
      | exact imp_of hA id
      | (refine imp_of hA ?_; subst hA; simp only [real, Bool.true_and]; exact id)
      | (refine ind_of hA ?_; decide +kernel)
      | exact room_add hA (by omega) (by decide)
    · rename_i hlt hin
      have hlt : f ≤ t := by subst hA; exact of_decide_eq_true hlt
      have hin : t < f + j.size := by
        subst hA
        have h : t < IntKind.i64.wrap (f + j.size) := of_decide_eq_true hin
        rw [hws] at h; exact h
      have hg := slideF_go (size := j.size) (step := j.step) (t := t) (f := f) hsp hf.1 ht.2 hlt
      rw [if_pos hin] at hg
      refine ⟨⟨(f + j.step, n1 + 1, fun k => if k < n1 then row k else eWin ⟨f, f + j.size⟩, l ++ [⟨f, f + j.size⟩]), ⟨by simp only; omega, by simp only; omega⟩, tells_snoc hT (fun k _ => rfl), by rw [List.append_assoc, ← hw, hg]⟩, by simp only; omega, cov_of ?_ ?_ ?_⟩
      · cbv
        subst hA
        repeat' first | apply And.intro | exact True.intro | exact congrArg (fun x => DV.v (.int .i64 x)) hwp | rfl | (intro k hk; exact push_at rfl _ _ _ _ k hk)
      · cbv
        subst hA
        repeat' first | apply And.intro | exact True.intro | rfl | (intro k hk; exact (push_at rfl _ _ _ _ k hk).trans (congrArg (fun x => if k < n1 then row k else [eI f, eI x]) hws))
      · cbv
    · rename_i hlt hin
      have hlt : f ≤ t := by subst hA; exact of_decide_eq_true hlt
      have hin : ¬ t < f + j.size := by
        subst hA
        have h : ¬ t < IntKind.i64.wrap (f + j.size) := of_decide_eq_false hin
        rw [hws] at h; exact h
      have hg := slideF_go (size := j.size) (step := j.step) (t := t) (f := f) hsp hf.1 ht.2 hlt
      rw [if_neg hin] at hg
      refine ⟨⟨(f + j.step, n1, row, l), ⟨by simp only; omega, by simp only; omega⟩, hT, by rw [← hw, hg]; rfl⟩, by simp only; omega, cov_of ?_ ?_ ?_⟩
      · cbv
        subst hA
        repeat' first | apply And.intro | exact True.intro | exact congrArg (fun x => DV.v (.int .i64 x)) hwp | rfl | (intro k hk; exact push_at rfl _ _ _ _ k hk)
      · cbv; try (subst hA; repeat' first | apply And.intro | exact True.intro | rfl | (intro _ _; rfl))
      · cbv
    · rename_i hlt
      have hlt : ¬ f ≤ t := by subst hA; exact of_decide_eq_false hlt
      rw [slideF_end hlt, List.append_nil] at hw
      subst hw
      have hnn : n1 = n := hT.1.trans hl.1.symm
      subst hnn
      refine stop_of hA ⟨[(7, .c (.own 3392 0 n1 1))], [(3392, 1, .arr 2 n1 fun i => eWin (g i))]⟩ (cov_of ?_ ?_ ?_) ?_
      · cbv
      · cbv
        exact ⟨fun q hq => (hT.2 q hq).trans (hl.2 q hq).symm, trivial⟩
      · cbv
      · cbv
        repeat' first
          | apply And.intro
          | exact True.intro
          | with_reducible rfl
          | exact same_of hA rfl
          | refine br_of hA (fun _ => ?_) (fun _ => ?_)
          | exact imp_of hA id
          | (refine imp_of hA ?_; subst hA; simp only [real, Bool.true_and]; exact id)
          | (refine ind_of hA ?_; decide +kernel)
  · rename_i b1 hb1 b2 hb2 hgood hk1 hk2
    have hk1 : ¬ j.kind = 1 := by subst hA; have h : (j.kind == 1) = false := hk1; simpa using h
    have hk2 : ¬ j.kind = 2 := by subst hA; have h : (j.kind == 2) = false := hk2; simpa using h
    have hsp : (1 : Int) ≤ 1 := Int.le_refl _
    have hf0 : t = t := rfl
    have hs0 : (1 : Int) = 1 := rfl
    have hall : [] ++ slideF j.size 1 t 100 t = winsL j t := by unfold winsL winStep winFrom; rw [if_neg hk1, if_neg hk2, if_neg hk1, if_neg hk2]; rfl
    refine loop_of hA (α := { q : Int × Nat × (Nat → List DV) × List WinT // (0 ≤ q.1 ∧ q.1 ≤ 80) ∧ Tells zWin eWin q.2.2.2 q.2.1 q.2.2.1 ∧ q.2.2.2 ++ slideF j.size 1 t 100 q.1 = winsL j t }) (fun y => st_wo j t 1 y.1.1 y.1.2.1 y.1.2.2.1) (fun y => (61 - y.1.1).toNat) ⟨(t, 0, fun _ => [], []), ⟨by simp only; omega, by simp only; omega⟩, ⟨rfl, fun k h => absurd h (Nat.not_lt_zero k)⟩, hall⟩ ?_ ?_
    · refine cov_prom 7 3392 1 2 (fun _ => []) (by cbv) (by cbv) (cov_of ?_ ?_ ?_)
      · cbv; try (subst hA; repeat' first | apply And.intro | exact True.intro | exact congrArg (fun x => DV.v (.int .i64 x)) hf0 | exact congrArg (fun x => DV.v (.int .i64 x)) hs0 | rfl)
      · cbv; try (subst hA; repeat' first | apply And.intro | exact True.intro | rfl | exact (fun _ _ => rfl) | (intro k hk; exact absurd hk (Nat.not_lt_zero k)))
      · cbv
    rintro ⟨⟨f, n1, row, l⟩, hf, hT, hw⟩
    have hf : 0 ≤ f ∧ f ≤ 80 := hf
    have hT : Tells zWin eWin l n1 row := hT
    have hw : l ++ slideF j.size 1 t 100 f = winsL j t := hw
    have hn1 : n1 ≤ 100 := by
      have := congrArg List.length hw
      rw [List.length_append] at this
      have := winsL_len j t
      have := hT.1
      omega
    have hws : IntKind.i64.wrap (f + j.size) = f + j.size := IntWalk.i64_in _ (by omega)
    have hwp : IntKind.i64.wrap (f + 1) = f + 1 := IntWalk.i64_in _ (by omega)
    cbv
    repeat' first
      | apply And.intro
      | exact True.intro
      | with_reducible rfl
      | exact same_of hA rfl
      | refine br_of hA (fun _ => ?_) (fun _ => ?_)
      | exact imp_of hA id
      | (refine imp_of hA ?_; subst hA; simp only [real, Bool.true_and]; exact id)
      | (refine ind_of hA ?_; decide +kernel)
      | exact room_add hA (by omega) (by decide)
    · rename_i hlt hin
      have hlt : f ≤ t := by subst hA; exact of_decide_eq_true hlt
      have hin : t < f + j.size := by
        subst hA
        have h : t < IntKind.i64.wrap (f + j.size) := of_decide_eq_true hin
        rw [hws] at h; exact h
      have hg := slideF_go (size := j.size) (step := 1) (t := t) (f := f) hsp hf.1 ht.2 hlt
      rw [if_pos hin] at hg
      refine ⟨⟨(f + 1, n1 + 1, fun k => if k < n1 then row k else eWin ⟨f, f + j.size⟩, l ++ [⟨f, f + j.size⟩]), ⟨by simp only; omega, by simp only; omega⟩, tells_snoc hT (fun k _ => rfl), by rw [List.append_assoc, ← hw, hg]⟩, by simp only; omega, cov_of ?_ ?_ ?_⟩
      · cbv
        subst hA
        repeat' first | apply And.intro | exact True.intro | exact congrArg (fun x => DV.v (.int .i64 x)) hwp | rfl | (intro k hk; exact push_at rfl _ _ _ _ k hk)
      · cbv
        subst hA
        repeat' first | apply And.intro | exact True.intro | rfl | (intro k hk; exact (push_at rfl _ _ _ _ k hk).trans (congrArg (fun x => if k < n1 then row k else [eI f, eI x]) hws))
      · cbv
    · rename_i hlt hin
      have hlt : f ≤ t := by subst hA; exact of_decide_eq_true hlt
      have hin : ¬ t < f + j.size := by
        subst hA
        have h : ¬ t < IntKind.i64.wrap (f + j.size) := of_decide_eq_false hin
        rw [hws] at h; exact h
      have hg := slideF_go (size := j.size) (step := 1) (t := t) (f := f) hsp hf.1 ht.2 hlt
      rw [if_neg hin] at hg
      refine ⟨⟨(f + 1, n1, row, l), ⟨by simp only; omega, by simp only; omega⟩, hT, by rw [← hw, hg]; rfl⟩, by simp only; omega, cov_of ?_ ?_ ?_⟩
      · cbv
        subst hA
        repeat' first | apply And.intro | exact True.intro | exact congrArg (fun x => DV.v (.int .i64 x)) hwp | rfl | (intro k hk; exact push_at rfl _ _ _ _ k hk)
      · cbv; try (subst hA; repeat' first | apply And.intro | exact True.intro | rfl | (intro _ _; rfl))
      · cbv
    · rename_i hlt
      have hlt : ¬ f ≤ t := by subst hA; exact of_decide_eq_false hlt
      rw [slideF_end hlt, List.append_nil] at hw
      subst hw
      have hnn : n1 = n := hT.1.trans hl.1.symm
      subst hnn
      refine stop_of hA ⟨[(7, .c (.own 3392 0 n1 1))], [(3392, 1, .arr 2 n1 fun i => eWin (g i))]⟩ (cov_of ?_ ?_ ?_) ?_
      · cbv
      · cbv
        exact ⟨fun q hq => (hT.2 q hq).trans (hl.2 q hq).symm, trivial⟩
      · cbv
      · cbv
        repeat' first
          | apply And.intro
          | exact True.intro
          | with_reducible rfl
          | exact same_of hA rfl
          | refine br_of hA (fun _ => ?_) (fun _ => ?_)
          | exact imp_of hA id
          | (refine imp_of hA ?_; subst hA; simp only [real, Bool.true_and]; exact id)
          | (refine ind_of hA ?_; decide +kernel)
def st_l4 (j : JobT) (t sp f : Int) (n : Nat) (row : Nat → List DV) : St := ⟨[(6, .c (.d (eI f))), (1, .c (.d (eI t))), (2, .c (.bp 128 1 0)), (5, .c (.own 2368 0 n 1))], [(128, 1, .box ((eJob j).map .d)), (2368, 1, .arr 2 n row)]⟩
set_option maxRecDepth 100000 in
theorem m_l4Of1 (j : JobT) (t : Int) (hs : 1 ≤ j.size) (hk : j.kind = 1) (row : Nat → List DV) (hrow : row = real.app 1 (real.rep [eI (IntKind.i64.wrap (t - t.tmod j.size)), eI (IntKind.i64.wrap (IntKind.i64.wrap (t - t.tmod j.size) + j.size))]) (real.rep [eI 0, eI 0])) : Meets Try.prog 105 [xd (eJob j), .c (.d (eI t))] ⟨.one (.c (.own 2 1 row)), [none, none]⟩ := by
  refine meets_of (H := []) (EX := EXA) ttok mixed Try.func105 rfl (by kernel_rfl) (by decide) ?_
  generalize hA : real = A
  generalize hM : MeetsB Try.prog = M
  cbv
  repeat' first
    | apply And.intro
    | exact True.intro
    | with_reducible rfl
    | exact same_of hA rfl
    | refine br_of hA (fun _ => ?_) (fun _ => ?_)
    | exact imp_of hA id
    | (refine imp_of hA ?_; subst hA; simp only [real, Bool.true_and]; exact id)
    | (refine ind_of hA ?_; decide +kernel)
    | exact nz_of hA (show j.size ≠ 0 by omega)
  · subst hA; rw [hrow]; rfl
  · exfalso
    rename_i h1 h2
    subst hA
    have h : (j.kind == 1) = false := h1
    rw [hk] at h
    cases h
  · exfalso
    rename_i h1 h2
    subst hA
    have h : (j.kind == 1) = false := h1
    rw [hk] at h
    cases h
set_option maxRecDepth 100000 in
theorem m_l4Of3 (j : JobT) (t : Int) (hs : 1 ≤ j.size) (hk : j.kind = 3) (row : Nat → List DV) (hrow : row = real.app 1 (real.rep [eI t, eI (IntKind.i64.wrap (t + j.size))]) (real.rep [eI 0, eI 0])) : Meets Try.prog 105 [xd (eJob j), .c (.d (eI t))] ⟨.one (.c (.own 2 1 row)), [none, none]⟩ := by
  refine meets_of (H := []) (EX := EXA) ttok mixed Try.func105 rfl (by kernel_rfl) (by decide) ?_
  generalize hA : real = A
  generalize hM : MeetsB Try.prog = M
  cbv
  repeat' first
    | apply And.intro
    | exact True.intro
    | with_reducible rfl
    | exact same_of hA rfl
    | refine br_of hA (fun _ => ?_) (fun _ => ?_)
    | exact imp_of hA id
    | (refine imp_of hA ?_; subst hA; simp only [real, Bool.true_and]; exact id)
    | (refine ind_of hA ?_; decide +kernel)
    | exact nz_of hA (show j.size ≠ 0 by omega)
  · exfalso
    rename_i h1
    subst hA
    have h : (j.kind == 1) = true := h1
    rw [hk] at h
    cases h
  · subst hA; rw [hrow]; rfl
  · exfalso
    rename_i h1 h2
    subst hA
    have h : (j.kind == 3) = false := h2
    rw [hk] at h
    cases h
set_option maxRecDepth 100000 in
theorem m_l4Of2 (j : JobT) (t : Int) (hsz : 1 ≤ j.size ∧ j.size ≤ 20) (hsp : 1 ≤ j.step) (hsp2 : j.step ≤ 20) (hk : j.kind = 2) (ht : 0 ≤ t ∧ t ≤ 60) (n : Nat) (g : Nat → WinT) (hl : Tells zWin eWin (winsL j t) n (fun i => eWin (g i))) : Meets Try.prog 105 [xd (eJob j), .c (.d (eI t))] ⟨.one (.c (.own 2 n fun i => eWin (g i))), [none, none]⟩ := by
  refine meets_of (H := [12]) (EX := EXA) ttok mixed Try.func105 rfl (by kernel_rfl) (by decide) ?_
  generalize hA : real = A
  generalize hM : MeetsB Try.prog = M
  cbv
  repeat' first
    | apply And.intro
    | exact True.intro
    | with_reducible rfl
    | exact same_of hA rfl
    | refine br_of hA (fun _ => ?_) (fun _ => ?_)
    | exact imp_of hA id
    | (refine imp_of hA ?_; subst hA; simp only [real, Bool.true_and]; exact id)
    | (refine ind_of hA ?_; decide +kernel)
    | exact nz_of hA (show j.size ≠ 0 by omega)
  · exfalso
    rename_i h1
    subst hA
    have h : (j.kind == 1) = true := h1
    rw [hk] at h
    cases h
  · exfalso
    rename_i h1 h2
    subst hA
    have h : (j.kind == 3) = true := h2
    rw [hk] at h
    cases h
  have hf0 : (0 : Int) = 0 := rfl
  have hs0 : j.step = j.step := rfl
  have hall : [] ++ slideF j.size j.step t 100 0 = winsL j t := by unfold winsL winStep winFrom; rw [if_neg (by omega), if_pos hk, if_neg (by omega), if_pos hk]; rfl
  refine loop_of hA (α := { q : Int × Nat × (Nat → List DV) × List WinT // (0 ≤ q.1 ∧ q.1 ≤ 80) ∧ Tells zWin eWin q.2.2.2 q.2.1 q.2.2.1 ∧ q.2.2.2 ++ slideF j.size j.step t 100 q.1 = winsL j t }) (fun y => st_l4 j t j.step y.1.1 y.1.2.1 y.1.2.2.1) (fun y => (61 - y.1.1).toNat) ⟨(0, 0, fun _ => [], []), ⟨by simp only; omega, by simp only; omega⟩, ⟨rfl, fun k h => absurd h (Nat.not_lt_zero k)⟩, hall⟩ ?_ ?_
  · refine cov_of ?_ ?_ ?_
    · cbv; try (subst hA; repeat' first | apply And.intro | exact True.intro | exact congrArg (fun x => DV.v (.int .i64 x)) hf0 | exact congrArg (fun x => DV.v (.int .i64 x)) hs0 | rfl)
    · cbv; try (subst hA; repeat' first | apply And.intro | exact True.intro | rfl | exact (fun _ _ => rfl) | (intro k hk; exact absurd hk (Nat.not_lt_zero k)))
    · cbv
  rintro ⟨⟨f, n1, row, l⟩, hf, hT, hw⟩
  have hf : 0 ≤ f ∧ f ≤ 80 := hf
  have hT : Tells zWin eWin l n1 row := hT
  have hw : l ++ slideF j.size j.step t 100 f = winsL j t := hw
  have hn1 : n1 ≤ 100 := by
    have := congrArg List.length hw
    rw [List.length_append] at this
    have := winsL_len j t
    have := hT.1
    omega
  have hws : IntKind.i64.wrap (f + j.size) = f + j.size := IntWalk.i64_in _ (by omega)
  have hwp : IntKind.i64.wrap (f + j.step) = f + j.step := IntWalk.i64_in _ (by omega)
  cbv
  repeat' first
    | apply And.intro
    | exact True.intro
    | with_reducible rfl
    | exact same_of hA rfl
    | refine br_of hA (fun _ => ?_) (fun _ => ?_)
    | exact imp_of hA id
    | (refine imp_of hA ?_; subst hA; simp only [real, Bool.true_and]; exact id)
    | (refine ind_of hA ?_; decide +kernel)
    | exact room_add hA (by omega) (by decide)
  · rename_i hlt hin
    have hlt : f ≤ t := by subst hA; exact of_decide_eq_true hlt
    have hin : t < f + j.size := by
      subst hA
      have h : t < IntKind.i64.wrap (f + j.size) := of_decide_eq_true hin
      rw [hws] at h; exact h
    have hg := slideF_go (size := j.size) (step := j.step) (t := t) (f := f) hsp hf.1 ht.2 hlt
    rw [if_pos hin] at hg
    refine ⟨⟨(f + j.step, n1 + 1, fun k => if k < n1 then row k else eWin ⟨f, f + j.size⟩, l ++ [⟨f, f + j.size⟩]), ⟨by simp only; omega, by simp only; omega⟩, tells_snoc hT (fun k _ => rfl), by rw [List.append_assoc, ← hw, hg]⟩, by simp only; omega, cov_of ?_ ?_ ?_⟩
    · cbv
      subst hA
      repeat' first | apply And.intro | exact True.intro | exact congrArg (fun x => DV.v (.int .i64 x)) hwp | rfl | (intro k hk; exact push_at rfl _ _ _ _ k hk)
    · cbv
      subst hA
      repeat' first | apply And.intro | exact True.intro | rfl | (intro k hk; exact (push_at rfl _ _ _ _ k hk).trans (congrArg (fun x => if k < n1 then row k else [eI f, eI x]) hws))
    · cbv
  · rename_i hlt hin
    have hlt : f ≤ t := by subst hA; exact of_decide_eq_true hlt
    have hin : ¬ t < f + j.size := by
      subst hA
      have h : ¬ t < IntKind.i64.wrap (f + j.size) := of_decide_eq_false hin
      rw [hws] at h; exact h
    have hg := slideF_go (size := j.size) (step := j.step) (t := t) (f := f) hsp hf.1 ht.2 hlt
    rw [if_neg hin] at hg
    refine ⟨⟨(f + j.step, n1, row, l), ⟨by simp only; omega, by simp only; omega⟩, hT, by rw [← hw, hg]; rfl⟩, by simp only; omega, cov_of ?_ ?_ ?_⟩
    · cbv
      subst hA
      repeat' first | apply And.intro | exact True.intro | exact congrArg (fun x => DV.v (.int .i64 x)) hwp | rfl | (intro k hk; exact push_at rfl _ _ _ _ k hk)
    · cbv; try (subst hA; repeat' first | apply And.intro | exact True.intro | rfl | (intro _ _; rfl))
    · cbv
  · rename_i hlt
    have hlt : ¬ f ≤ t := by subst hA; exact of_decide_eq_false hlt
    rw [slideF_end hlt, List.append_nil] at hw
    subst hw
    have hnn : n1 = n := hT.1.trans hl.1.symm
    subst hnn
    refine stop_of hA ⟨[(5, .c (.own 2368 0 n1 1))], [(2368, 1, .arr 2 n1 fun i => eWin (g i))]⟩ (cov_of ?_ ?_ ?_) ?_
    · cbv
    · cbv
      exact ⟨fun q hq => (hT.2 q hq).trans (hl.2 q hq).symm, trivial⟩
    · cbv
    · cbv
      repeat' first
        | apply And.intro
        | exact True.intro
        | with_reducible rfl
        | exact same_of hA rfl
        | refine br_of hA (fun _ => ?_) (fun _ => ?_)
        | exact imp_of hA id
        | (refine imp_of hA ?_; subst hA; simp only [real, Bool.true_and]; exact id)
        | (refine ind_of hA ?_; decide +kernel)
theorem c_l4Of (j : JobT) (t : Int) (hj : JobOkP j) (ht : 0 ≤ t ∧ t ≤ 60) (n : Nat) (g : Nat → WinT) (hl : Tells zWin eWin (winsL j t) n (fun i => eWin (g i))) : Meets Try.prog 105 [xd (eJob j), .c (.d (eI t))] ⟨.one (.c (.own 2 n fun i => eWin (g i))), [none, none]⟩ := by
  have hsz : 1 ≤ j.size ∧ j.size ≤ 20 := hj.2.2.2.1
  have hst := hj.2.2.2.2.1
  have hkk : 1 ≤ j.kind ∧ j.kind ≤ 3 := hj.2.2.1
  by_cases k2 : j.kind = 2
  · exact m_l4Of2 j t hsz (by omega) (by omega) k2 ht n g hl
  have a := Int.tmod_nonneg j.size ht.1
  have b := Int.tmod_lt_of_pos t (show 0 < j.size by omega)
  by_cases k1 : j.kind = 1
  · have e := winsL_fixed k1 hsz.1 ht.1 ht.2
    rw [e] at hl
    have hn : n = 1 := hl.1
    subst hn
    refine meets_rows (fun i hi => ?_) (m_l4Of1 j t hsz.1 k1 _ rfl)
    have hi0 : i = 0 := Nat.lt_one_iff.1 hi
    subst hi0
    refine Eq.trans ?_ (hl.2 0 hi).symm
    show [eI (IntKind.i64.wrap (t - t.tmod j.size)), eI (IntKind.i64.wrap (IntKind.i64.wrap (t - t.tmod j.size) + j.size))] = [eI (t - t.tmod j.size), eI (t - t.tmod j.size + j.size)]
    rw [IntWalk.i64_in (t - t.tmod j.size) (by omega), IntWalk.i64_in (t - t.tmod j.size + j.size) (by omega)]
  · have k3 : j.kind = 3 := by omega
    have e := winsL_sess k3 hsz.1 ht.1 ht.2
    rw [e] at hl
    have hn : n = 1 := hl.1
    subst hn
    refine meets_rows (fun i hi => ?_) (m_l4Of3 j t hsz.1 k3 _ rfl)
    have hi0 : i = 0 := Nat.lt_one_iff.1 hi
    subst hi0
    refine Eq.trans ?_ (hl.2 0 hi).symm
    show [eI t, eI (IntKind.i64.wrap (t + j.size))] = [eI t, eI (t + j.size)]
    rw [IntWalk.i64_in (t + j.size) (by omega)]
end Go.Rk
/- A record is taken. -/
namespace Go.Rk
set_option linter.unusedSimpArgs false
set_option linter.unusedVariables false
open Go.Proofs
set_option maxRecDepth 100000
set_option maxHeartbeats 1000000
def EXOT : FuncId → List Nat × Bool := fun f => bif nbeq f 71 then ([99], false) else bif nbeq f 72 then ([99], false) else ([], false)
def st_ot (j : JobT) (mk : Int) (x : ItmT) (nw : Nat) (g : Nat → WinT) (u n : Nat) (R : Nat → RowT) (c : Nat) (P : Nat → PaneT) (d : Nat) (Q : Nat → LatT) : St := ⟨[(36, .c (.d (eI u))), (35, .c (.d (eI nw))), (34, .c (.own 2176 0 nw 1)), (9, .c (.bp 1920 1 0)), (3, .c (.bp 192 1 0)), (5, .c (.bp 320 1 0)), (6, .c (.bp 384 1 0))], [(1920, 1, .box [.d (eI j.srcs), .d (eI j.tsks), .d (eI j.kind), .d (eI j.size), .d (eI j.step), .d (eI j.late), .d (eI j.tell), .d (eB j.piece), .d (eI j.least), .d (eI j.room), .d (eI mk), .own 1793 0 n 1, .own 2001 0 c 1, .own 2002 0 d 1]), (1793, 1, .arr 13 n fun i => eRow (R i)), (2001, 1, .arr 9 c fun i => ePane (P i)), (2002, 1, .arr 7 d fun i => eLat (Q i)), (192, 1, .box [.d (eI j.srcs), .d (eI j.tsks), .d (eI j.kind), .d (eI j.size), .d (eI j.step), .d (eI j.late), .d (eI j.tell), .d (eB j.piece), .d (eI j.least), .d (eI j.room)]), (320, 1, .box ((eItm x).map .d)), (384, 1, .box [.d (eI 0), .d (.v nilS)]), (2176, 1, .arr 2 nw fun i => eWin (g i))]⟩
theorem m_OpTake (j : JobT) (s : OpStT) (x : ItmT) (hok : OpOkP j s) (hrec : RecP x) (h280 : s.rows.n ≤ 280) (k : Nat) (G : Nat → RowT) (hG : Lst zRow (takeL j s.mark x (winsL j x.t) (rowsL s)).1 k G) (cz : Nat) (Pz : Nat → PaneT) (hPz : Lst zPan (takeL j s.mark x (winsL j x.t) (rowsL s)).2.1 cz Pz) (dz : Nat) (Qz : Nat → LatT) (hQz : Lst zLat (takeL j s.mark x (winsL j x.t) (rowsL s)).2.2 dz Qz) :
    Meets Try.prog 24 [xd (eJob j), .agg [.d (eI s.mark), .d (.sl 13 s.rows.n fun i => eRow (s.rows.g i))], xd (eItm x)] ⟨.tup [.agg [.d (eI s.mark), .own 13 k fun i => eRow (G i)], .c (.own 9 cz fun i => ePane (Pz i)), .c (.own 7 dz fun i => eLat (Qz i))], [none, none, none]⟩ := by
  obtain ⟨b1, hb1, cO⟩ := c_OpOk j s
  obtain ⟨b2, hb2, cR⟩ := c_isRecP x
  have hb1' : b1 = true := hb1.2 hok
  have hb2' : b2 = true := hb2.2 hrec
  subst hb1' hb2'
  have hrise := rise_ok hok
  have hall := all_ok hok
  have hjob := hok.1
  have hx : 0 ≤ x.t ∧ x.t ≤ 60 := by have h1 := hrec.1; have h2 := hrec.2; unfold ItmOkP at h2; omega
  obtain ⟨ws, hws⟩ : ∃ ws, ws = winsL j x.t := ⟨_, rfl⟩
  obtain ⟨L0, hL0⟩ : ∃ L0, L0 = rowsL s := ⟨_, rfl⟩
  obtain ⟨mk, n0, g0, hnL⟩ := s
  have h280 : n0 ≤ 280 := h280
  have hl0 : Lst zRow L0 n0 g0 := by rw [hL0]; exact lst_of zRow n0 g0
  rw [← hL0] at hrise hall hG hPz hQz
  rw [← hws] at hG hPz hQz
  obtain ⟨b3, hb3, cC⟩ := c_crowded mk n0 (by omega) g0
  have hb3' : b3 = false := by
    cases b3 with
    | false => rfl
    | true => exact absurd (hb3.1 rfl) (by omega)
  subst hb3'
  obtain ⟨nw, g, hg⟩ := lst_ex zWin ws
  have hnw : nw ≤ 100 := by rw [hg.1, hws]; exact winsL_len _ _
  have hnw2 : nw ≤ maxLen := Nat.le_trans hnw (by decide)
  have cW := c_WinOf j x.t hjob hx nw g (by rw [← hws]; exact lst_tells eWin hg)
  have hk3 : j.kind = 3 → nw = 1 ∧ (g 0).s < (g 0).e := fun h3 => by
    have e := winsL_sess h3 hjob.2.2.2.1.1 hx.1 hx.2
    rw [← hws] at e
    rw [e] at hg
    have e1 : nw = 1 := hg.1
    refine ⟨e1, ?_⟩
    have e2 : g 0 = ⟨x.t, x.t + j.size⟩ := hg.2 0 (by omega)
    rw [e2]
    have := hjob.2.2.2.1.1
    show x.t < x.t + j.size
    omega
  have cCp := c_copied mk n0 (by omega) g0
  refine meets_of (H := [11]) (EX := EXOT) ttok mixed Try.func24 rfl (by kernel_rfl) (by decide) ?_
  generalize hA : real = A
  generalize hM : MeetsB Try.prog = M
  cbv
  repeat' first
    | apply And.intro
    | exact True.intro
    | with_reducible rfl
    | exact same_of hA rfl
    | refine br_of hA (fun _ => ?_) (fun _ => ?_)
    | exact imp_of hA id
    | (refine imp_of hA ?_; subst hA; simp only [real, Bool.true_and]; exact id)
    | (refine ind_of hA ?_; decide +kernel)
    | (refine call_of hA hM _ cO ?_; cbv)
    | (refine call_of hA hM _ cR ?_; cbv)
    | (refine call_of hA hM _ cC ?_; cbv)
    | (refine call_of2 hA hM _ cCp (by subst hA; rfl) ?_; cbv)
    | (refine call_of hA hM _ cW ?_; cbv)
    | (exfalso; rename_i h; subst hA; simp [real] at h; done)
  refine loop_of hA (α := { y : Nat × (Nat × (Nat → RowT)) × (Nat × (Nat → PaneT)) × (Nat × (Nat → LatT)) // y.1 ≤ nw ∧ Lst zRow (takeL j mk x (ws.take y.1) L0).1 y.2.1.1 y.2.1.2 ∧ Lst zPan (takeL j mk x (ws.take y.1) L0).2.1 y.2.2.1.1 y.2.2.1.2 ∧ Lst zLat (takeL j mk x (ws.take y.1) L0).2.2 y.2.2.2.1 y.2.2.2.2 }) (fun y => st_ot j mk x nw g y.1.1 y.1.2.1.1 y.1.2.1.2 y.1.2.2.1.1 y.1.2.2.1.2 y.1.2.2.2.1 y.1.2.2.2.2) (fun y => nw - y.1.1) ⟨(0, (n0, g0), (0, fun _ => zPan), (0, fun _ => zLat)), Nat.zero_le _, hl0, ⟨rfl, fun k h => absurd h (Nat.not_lt_zero k)⟩, ⟨rfl, fun k h => absurd h (Nat.not_lt_zero k)⟩⟩ ?_ ?_
  · refine cov_promC 1920 2001 1 9 (fun i => ePane zPan) [.d (eI j.srcs), .d (eI j.tsks), .d (eI j.kind), .d (eI j.size), .d (eI j.step), .d (eI j.late), .d (eI j.tell), .d (eB j.piece), .d (eI j.least), .d (eI j.room), .d (eI mk), .own 1793 0 n0 1] [.d (.v nilS)] rfl rfl rfl (cov_promC 1920 2002 1 7 (fun i => eLat zLat) [.d (eI j.srcs), .d (eI j.tsks), .d (eI j.kind), .d (eI j.size), .d (eI j.step), .d (eI j.late), .d (eI j.tell), .d (eB j.piece), .d (eI j.least), .d (eI j.room), .d (eI mk), .own 1793 0 n0 1, .own 2001 0 0 1] [] rfl rfl rfl (cov_of ?_ ?_ ?_))
    · subst hA; (repeat' first | exact True.intro | exact rfl | apply And.intro)
    · subst hA; (repeat' first | exact True.intro | exact rfl | apply And.intro | (intro _ _; first | rfl | trivial) | (intro q hq; exact absurd hq (Nat.not_lt_zero q)))
    · subst hA; (repeat' first | exact True.intro | exact rfl | apply And.intro | exact .inl rfl | exact .inr (le_of_nble rfl))
  rintro ⟨⟨u, ⟨n, R⟩, ⟨c, P⟩, ⟨d, Q⟩⟩, hu, hR, hP, hQ⟩
  have hu : u ≤ nw := hu
  obtain ⟨T, hT⟩ : ∃ T, T = takeL j mk x (ws.take u) L0 := ⟨_, rfl⟩
  replace hR : Lst zRow T.1 n R := by rw [hT]; exact hR
  replace hP : Lst zPan T.2.1 c P := by rw [hT]; exact hP
  replace hQ : Lst zLat T.2.2 d Q := by rw [hT]; exact hQ
  have hTr : RiseR T.1 := by rw [hT]; exact rise_takeL hrise _
  have hlen := takeL_len (j := j) (m := mk) (x := x) (l := L0) (ws.take u)
  have hul : (ws.take u).length = u := by rw [List.length_take, ← hg.1]; omega
  rw [← hT, hul, ← hl0.1, ← hR.1, ← hP.1, ← hQ.1] at hlen
  obtain ⟨hn1, hc1, hd1⟩ := hlen
  have hc2 : c ≤ 100000 := by
    have h1 : u * (n0 + u + 1) ≤ 100 * 400 := Nat.mul_le_mul (by omega) (by omega)
    omega
  have hcx : c ≤ 1080000 := by omega
  have hdx : d ≤ 1080000 := by omega
  have hnext : ∀ (hlt : u < nw) (T' : List RowT × List PaneT × List LatT), takeS j mk x T (g u) = T' → takeL j mk x (ws.take (u + 1)) L0 = T' := fun hlt T' h => by rw [lst_take hg hlt, takeL_snoc, ← hT]; exact h
  have eq0 : A.add 0 (A.nat (Int.ofNat u)) = u := by subst hA; exact Nat.zero_add u
  cbv
  repeat' first
    | apply And.intro
    | exact True.intro
    | with_reducible rfl
    | exact same_of hA rfl
    | refine br_of hA (fun _ => ?_) (fun _ => ?_)
    | exact imp_of hA id
    | (refine imp_of hA ?_; subst hA; simp only [real, Bool.true_and]; exact id)
    | (refine ind_of hA ?_; decide +kernel)
    | (refine inb_lt hA ?_; first | exact lt2_of hA (by assumption) | exact lt_of hA (by assumption))
  · rename_i hlt hkd
    have hlt' : u < nw := lt2_of hA hlt
    have hkd : j.kind = 3 := eq_of hA hkd
    obtain ⟨hw1, hwg⟩ := hk3 hkd
    have hu0 : u = 0 := by omega
    have hT0 : T = (L0, [], []) := by rw [hT, hu0]; rfl
    have hallT : ∀ r, r ∈ T.1 → 1 ≤ r.all.n ∧ r.all.n ≤ 1000 := by rw [hT0]; exact hall
    have hn3 : n ≤ 300 := by omega
    have hstep : ∀ q, sessL j mk x.key x.v (g u) T.1 = q → stepT j mk x (g u) T.1 = q := fun q h => by unfold stepT; rw [if_pos hkd]; exact h
    obtain ⟨sp, hsp⟩ : ∃ sp, sp = spanL (g u) (oldL x.key (g u) T.1) := ⟨_, rfl⟩
    by_cases hov : w64 (sp.e + j.late) ≤ mk
    · have hs := takeS_none (hstep _ (sess_gone (by rw [← hsp]; exact hov)))
      have kW := fun q (e : q = u) => k_sg j mk n R c hcx P d hdx Q x (g q) hn3 (by omega) T.1 hR sp (by rw [e]; exact hsp) hov (fun z => if z < d then Q z else ⟨x, g u⟩) (fun z _ => by rw [e])
      refine inl_call hA _ _ _ ⟨fun _ => (by rw [← hM]; exact kW _ eq0), (by cbv; repeat' first | apply And.intro | exact True.intro | rfl | exact .inr trivial | exact .inl trivial | exact .inl (Nat.le_refl _)), ?_⟩
      cbv
      repeat' first
        | apply And.intro
        | exact True.intro
        | with_reducible rfl
        | exact same_of hA rfl
        | refine br_of hA (fun _ => ?_) (fun _ => ?_)
        | exact imp_of hA id
        | (refine imp_of hA ?_; subst hA; simp only [real, Bool.true_and]; exact id)
        | (refine ind_of hA ?_; decide +kernel)
      refine ⟨⟨(u + 1, (n, R), (c, P), (d + 1, fun z => if z < d then Q z else ⟨x, g u⟩)), hlt', ?_, ?_, ?_⟩, by dsimp only; omega, cov_of ?_ ?_ ?_⟩
      · dsimp only; rw [hnext hlt' _ hs]; exact hR
      · dsimp only; rw [hnext hlt' _ hs]; exact hP
      · dsimp only; rw [hnext hlt' _ hs]; exact lst_snoc hQ
      · (subst hA; (repeat' first | exact True.intro | exact rfl | apply And.intro | exact congrArg (fun x => DV.v (.int .i64 x)) (up64 hlt' hnw2)))
      · (subst hA; (repeat' first | exact True.intro | exact rfl | apply And.intro | (intro _ _; first | rfl | trivial)))
      · (subst hA; (repeat' first | exact True.intro | exact rfl | apply And.intro | exact .inl rfl | exact .inr (le_of_nble rfl)))
    · have hov : mk < w64 (sp.e + j.late) := by omega
      by_cases hone : oneB sp (oldL x.key (g u) T.1) = true
      · obtain ⟨i, hi, he, hb⟩ := one_found hR (by rw [← hsp]; exact hone)
        rw [← hsp] at he
        have hb : ∀ q, q < i → ¬ IsR x.key sp (R q) := by rw [hsp]; exact hb
        obtain ⟨t, ht⟩ : ∃ t, t = tellS j mk (addR (R i) x.v) := ⟨_, rfl⟩
        have hin := into_found (k := x.key) (v := x.v) hR hov hi he hb
        rw [← ht] at hin
        have hs := takeS_some (hstep _ ((sess_one (by rw [← hsp]; exact hov) (by rw [← hsp]; exact hone)).trans (by rw [← hsp]; exact hin)))
        obtain ⟨c', P', hE⟩ := ext_ex zPan c P t.2
        have kW := fun q (e : q = u) => k_so j mk n R c hcx P d hdx Q x (g q) hn3 (by omega) T.1 hR sp (by rw [e]; exact hsp) hov (by rw [e]; exact hone) i hi he hb t ht (fun q => if q = i then t.1 else R q) (fun q _ => rfl) c' P' hE
        refine inl_call hA _ _ _ ⟨fun _ => (by rw [← hM]; exact kW _ eq0), (by cbv; repeat' first | apply And.intro | exact True.intro | rfl | exact .inr trivial | exact .inl trivial | exact .inl (Nat.le_refl _)), ?_⟩
        cbv
        repeat' first
          | apply And.intro
          | exact True.intro
          | with_reducible rfl
          | exact same_of hA rfl
          | refine br_of hA (fun _ => ?_) (fun _ => ?_)
          | exact imp_of hA id
          | (refine imp_of hA ?_; subst hA; simp only [real, Bool.true_and]; exact id)
          | (refine ind_of hA ?_; decide +kernel)
        refine ⟨⟨(u + 1, (n, fun q => if q = i then t.1 else R q), (c', P'), (d, Q)), hlt', ?_, ?_, ?_⟩, by dsimp only; omega, cov_of ?_ ?_ ?_⟩
        · dsimp only; rw [hnext hlt' _ hs]; exact rput_found hR hTr hi he (by rw [ht]; exact tellS_is (addR_is he)) (fun q _ => rfl)
        · dsimp only; rw [hnext hlt' _ hs]; exact ext_lst hP hE
        · dsimp only; rw [hnext hlt' _ hs]; exact hQ
        · (subst hA; (repeat' first | exact True.intro | exact rfl | apply And.intro | exact congrArg (fun x => DV.v (.int .i64 x)) (up64 hlt' hnw2)))
        · (subst hA; (repeat' first | exact True.intro | exact rfl | apply And.intro | (intro _ _; first | rfl | trivial)))
        · (subst hA; (repeat' first | exact True.intro | exact rfl | apply And.intro | exact .inl rfl | exact .inr (le_of_nble rfl)))
      · have hone : oneB sp (oldL x.key (g u) T.1) = false := by
          cases h : oneB sp (oldL x.key (g u) T.1) with
          | true => exact absurd h hone
          | false => rfl
        obtain ⟨a, ha⟩ : ∃ a, a = aggAdd (((oldL x.key (g u) T.1).map (·.all)).foldl aggB zAgg) x.v := ⟨_, rfl⟩
        obtain ⟨r0, hr0⟩ : ∃ r0 : RowT, r0 = ⟨x.key, sp, a, a, 0, false⟩ := ⟨_, rfl⟩
        obtain ⟨kr, Rr, hr⟩ := lst_ex zRow (restL x.key (g u) T.1)
        obtain ⟨cg, Pg, hPg⟩ := ext_ex zPan c P (goneL (oldL x.key (g u) T.1))
        obtain ⟨i, hi, h1, h2⟩ := pos_ex hr (rest_rise hTr) r0
        have hr0is : IsR x.key sp r0 := by rw [hr0]; exact ⟨rfl, rfl, rfl⟩
        have hsn := sess_new (j := j) (m := mk) (l := T.1) (r0 := r0) (by rw [← hsp]; exact hov) (by rw [← hsp]; exact hone) (show T.1.length ≤ 1000 by rw [← hR.1]; omega) hallT ha (by rw [← hsp]; exact hr0)
        have hs := takeS_some (hstep _ hsn)
        have hno : ∀ q, q < kr → ¬ IsR x.key sp (Rr q) := fun q hq => by
          rw [hsp]
          refine rest_no (by rw [hu0]; exact hwg) ?_
          have := lst_at hr hq
          exact List.mem_of_getElem? this
        obtain ⟨vp, hvp⟩ : ∃ vp, vp = (goneL (oldL x.key (g u) T.1)).length + 2 := ⟨_, rfl⟩
        have hvp2 : 2 ≤ vp := by omega
        by_cases hm : mk < sp.e
        · have htl : tellS j mk r0 = (r0, []) := by
            unfold tellS; rw [if_pos (show mk < r0.win.e by rw [hr0]; exact hm)]
          rw [htl] at hs
          obtain ⟨R', hR'⟩ : ∃ R' : Nat → RowT, R' = fun q => if q < i then Rr q else if q = i then r0 else Rr (q - 1) := ⟨_, rfl⟩
          have kW := fun q (e : q = u) => k_sn j mk n R c hcx P d hdx Q x (g q) hn3 (by omega) T.1 hR sp (by rw [e]; exact hsp) hov (by rw [e]; exact hone) a (by rw [e]; exact ha) kr Rr (by rw [e]; exact hr) cg Pg (by rw [e]; exact hPg) vp (by rw [e]; exact hvp) r0 hr0 i hi h1 h2 hm R' (fun q _ => by rw [hR'])
          refine inl_call hA _ _ _ ⟨fun _ => (by rw [← hM]; exact kW _ eq0), (by cbv; repeat' first | apply And.intro | exact True.intro | rfl | exact .inr trivial | exact .inl trivial | exact .inl (Nat.le_refl _) | exact .inl hvp2), ?_⟩
          cbv
          repeat' first
            | apply And.intro
            | exact True.intro
            | with_reducible rfl
            | exact same_of hA rfl
            | refine br_of hA (fun _ => ?_) (fun _ => ?_)
            | exact imp_of hA id
            | (refine imp_of hA ?_; subst hA; simp only [real, Bool.true_and]; exact id)
            | (refine ind_of hA ?_; decide +kernel)
          refine ⟨⟨(u + 1, (kr + 1, R'), (cg, Pg), (d, Q)), hlt', ?_, ?_, ?_⟩, by dsimp only; omega, cov_relB 1920 2664 1793 3 13 (fun i => eRow (R' i)) [.d (eI j.srcs), .d (eI j.tsks), .d (eI j.kind), .d (eI j.size), .d (eI j.step), .d (eI j.late), .d (eI j.tell), .d (eB j.piece), .d (eI j.least), .d (eI j.room), .d (eI mk)] [.own 2001 0 cg vp, .own 2002 0 d 1] rfl rfl rfl rfl rfl rfl (cov_of ?_ ?_ ?_)⟩
          · dsimp only; rw [hnext hlt' _ hs]; exact rput_new (r := r0) hr hi (fun q hq => ra_r hr0is hr0is (h1 q hq)) (fun q a b hra => h2 q a b (ra_r hr0is hr0is hra)) (fun q hq => by rw [(isR_eq hr0is).1, (isR_eq hr0is).2]; exact hno q hq) (fun q _ => by rw [hR'])
          · dsimp only; rw [hnext hlt' _ hs]; exact ext_lst hP (by rw [List.append_nil]; exact hPg)
          · dsimp only; rw [hnext hlt' _ hs]; exact hQ
          · (subst hA; (repeat' first | exact True.intro | exact rfl | apply And.intro | exact congrArg (fun x => DV.v (.int .i64 x)) (up64 hlt' hnw2)))
          · (subst hA; (repeat' first | exact True.intro | exact rfl | apply And.intro | (intro _ _; first | rfl | trivial)))
          · (subst hA; (repeat' first | exact True.intro | exact rfl | apply And.intro | exact .inl rfl | exact .inr (le_of_nble rfl)))
        · have htl : tellS j mk r0 = (toldR r0, [paneP j.piece r0 1]) := by
            unfold tellS; rw [if_neg (show ¬ mk < r0.win.e by rw [hr0]; exact hm), show kindT r0 = 1 from (by rw [hr0]; rfl)]
          rw [htl] at hs
          obtain ⟨R', hR'⟩ : ∃ R' : Nat → RowT, R' = fun q => if q < i then Rr q else if q = i then toldR r0 else Rr (q - 1) := ⟨_, rfl⟩
          have kW := fun q (e : q = u) => k_st j mk n R c hcx P d hdx Q x (g q) hn3 (by omega) T.1 hR sp (by rw [e]; exact hsp) hov (by rw [e]; exact hone) a (by rw [e]; exact ha) kr Rr (by rw [e]; exact hr) cg Pg (by rw [e]; exact hPg) vp (by rw [e]; exact hvp) r0 hr0 i hi h1 h2 hm R' (fun q _ => by rw [hR']) (fun q => if q < cg then Pg q else paneP j.piece r0 1) (fun q _ => rfl)
          refine inl_call hA _ _ _ ⟨fun _ => (by rw [← hM]; exact kW _ eq0), (by cbv; repeat' first | apply And.intro | exact True.intro | rfl | exact .inr trivial | exact .inl trivial | exact .inl (Nat.le_refl _) | exact .inl hvp2), ?_⟩
          cbv
          repeat' first
            | apply And.intro
            | exact True.intro
            | with_reducible rfl
            | exact same_of hA rfl
            | refine br_of hA (fun _ => ?_) (fun _ => ?_)
            | exact imp_of hA id
            | (refine imp_of hA ?_; subst hA; simp only [real, Bool.true_and]; exact id)
            | (refine ind_of hA ?_; decide +kernel)
          refine ⟨⟨(u + 1, (kr + 1, R'), (cg + 1, fun q => if q < cg then Pg q else paneP j.piece r0 1), (d, Q)), hlt', ?_, ?_, ?_⟩, by dsimp only; omega, cov_relB 1920 2664 1793 3 13 (fun i => eRow (R' i)) [.d (eI j.srcs), .d (eI j.tsks), .d (eI j.kind), .d (eI j.size), .d (eI j.step), .d (eI j.late), .d (eI j.tell), .d (eB j.piece), .d (eI j.least), .d (eI j.room), .d (eI mk)] [.own 2001 0 (cg + 1) vp, .own 2002 0 d 1] rfl rfl rfl rfl rfl rfl (cov_of ?_ ?_ ?_)⟩
          · dsimp only; rw [hnext hlt' _ hs]; exact rput_new (r := toldR r0) hr hi (fun q hq => ra_r hr0is (toldR_is hr0is) (h1 q hq)) (fun q a b hra => h2 q a b (ra_r (toldR_is hr0is) hr0is hra)) (fun q hq => by rw [(isR_eq (toldR_is hr0is)).1, (isR_eq (toldR_is hr0is)).2]; exact hno q hq) (fun q _ => by rw [hR'])
          · dsimp only; rw [hnext hlt' _ hs]; exact ext_lst hP (ext_app hPg (ext_one zPan cg Pg _))
          · dsimp only; rw [hnext hlt' _ hs]; exact hQ
          · (subst hA; (repeat' first | exact True.intro | exact rfl | apply And.intro | exact congrArg (fun x => DV.v (.int .i64 x)) (up64 hlt' hnw2)))
          · (subst hA; (repeat' first | exact True.intro | exact rfl | apply And.intro | (intro _ _; first | rfl | trivial)))
          · (subst hA; (repeat' first | exact True.intro | exact rfl | apply And.intro | exact .inl rfl | exact .inr (le_of_nble rfl)))
  · rename_i hlt hkd
    have hlt' : u < nw := lt2_of hA hlt
    have hkd : ¬ j.kind = 3 := ne_of hA hkd
    have hstep : ∀ q, intoL j mk x.key x.v (g u) T.1 = q → stepT j mk x (g u) T.1 = q := fun q h => by unfold stepT; rw [if_neg hkd]; exact h
    by_cases hov : w64 ((g u).e + j.late) ≤ mk
    · have hs := takeS_none (hstep _ (if_pos hov))
      have kW := fun q (e : q = u) => k_wgone j mk n R c hcx P d hdx Q x (g q) (by rw [e]; exact hov) (fun z => if z < d then Q z else ⟨x, g u⟩) (fun z _ => by rw [e])
      refine inl_call hA _ _ _ ⟨fun _ => (by rw [← hM]; exact kW _ eq0), (by cbv; repeat' first | apply And.intro | exact True.intro | rfl | exact .inr trivial | exact .inl trivial | exact .inl (Nat.le_refl _)), ?_⟩
      cbv
      repeat' first
        | apply And.intro
        | exact True.intro
        | with_reducible rfl
        | exact same_of hA rfl
        | refine br_of hA (fun _ => ?_) (fun _ => ?_)
        | exact imp_of hA id
        | (refine imp_of hA ?_; subst hA; simp only [real, Bool.true_and]; exact id)
        | (refine ind_of hA ?_; decide +kernel)
      refine ⟨⟨(u + 1, (n, R), (c, P), (d + 1, fun z => if z < d then Q z else ⟨x, g u⟩)), hlt', ?_, ?_, ?_⟩, by dsimp only; omega, cov_of ?_ ?_ ?_⟩
      · dsimp only; rw [hnext hlt' _ hs]; exact hR
      · dsimp only; rw [hnext hlt' _ hs]; exact hP
      · dsimp only; rw [hnext hlt' _ hs]; exact lst_snoc hQ
      · (subst hA; (repeat' first | exact True.intro | exact rfl | apply And.intro | exact congrArg (fun x => DV.v (.int .i64 x)) (up64 hlt' hnw2)))
      · (subst hA; (repeat' first | exact True.intro | exact rfl | apply And.intro | (intro _ _; first | rfl | trivial)))
      · (subst hA; (repeat' first | exact True.intro | exact rfl | apply And.intro | exact .inl rfl | exact .inr (le_of_nble rfl)))
    · have hov : mk < w64 ((g u).e + j.late) := by omega
      obtain ⟨z, hz⟩ := firstIx_ex n fun q => IsR x.key (g u) (R q)
      cases hz with
      | «at» i hi he hb =>
        obtain ⟨t, ht⟩ : ∃ t, t = tellS j mk (addR (R i) x.v) := ⟨_, rfl⟩
        have hin := into_found (k := x.key) (v := x.v) hR hov hi he hb
        rw [← ht] at hin
        have hs := takeS_some (hstep _ hin)
        obtain ⟨c', P', hE⟩ := ext_ex zPan c P t.2
        have kW := fun q (e : q = u) => k_wfound j mk n R c hcx P d hdx Q x (g q) (by omega) (by rw [e]; exact hov) i hi (by rw [e]; exact he) (by rw [e]; exact hb) t ht (fun q => if q = i then t.1 else R q) (fun q _ => rfl) c' hE.1 P' hE.2
        refine inl_call hA _ _ _ ⟨fun _ => (by rw [← hM]; exact kW _ eq0), (by cbv; repeat' first | apply And.intro | exact True.intro | rfl | exact .inr trivial | exact .inl trivial | exact .inl (Nat.le_refl _)), ?_⟩
        cbv
        repeat' first
          | apply And.intro
          | exact True.intro
          | with_reducible rfl
          | exact same_of hA rfl
          | refine br_of hA (fun _ => ?_) (fun _ => ?_)
          | exact imp_of hA id
          | (refine imp_of hA ?_; subst hA; simp only [real, Bool.true_and]; exact id)
          | (refine ind_of hA ?_; decide +kernel)
        refine ⟨⟨(u + 1, (n, fun q => if q = i then t.1 else R q), (c', P'), (d, Q)), hlt', ?_, ?_, ?_⟩, by dsimp only; omega, cov_of ?_ ?_ ?_⟩
        · dsimp only; rw [hnext hlt' _ hs]; exact rput_found hR hTr hi he (by rw [ht]; exact tellS_is (addR_is he)) (fun q _ => rfl)
        · dsimp only; rw [hnext hlt' _ hs]; exact ext_lst hP hE
        · dsimp only; rw [hnext hlt' _ hs]; exact hQ
        · (subst hA; (repeat' first | exact True.intro | exact rfl | apply And.intro | exact congrArg (fun x => DV.v (.int .i64 x)) (up64 hlt' hnw2)))
        · (subst hA; (repeat' first | exact True.intro | exact rfl | apply And.intro | (intro _ _; first | rfl | trivial)))
        · (subst hA; (repeat' first | exact True.intro | exact rfl | apply And.intro | exact .inl rfl | exact .inr (le_of_nble rfl)))
      | none hb =>
        obtain ⟨t, ht⟩ : ∃ t, t = tellS j mk (addR (nrow x.key (g u)) x.v) := ⟨_, rfl⟩
        have hin := into_new (k := x.key) (v := x.v) hR hov hb
        rw [← ht] at hin
        have hs := takeS_some (hstep _ hin)
        obtain ⟨c', P', hE⟩ := ext_ex zPan c P t.2
        obtain ⟨i, hi, h1, h2⟩ := pos_ex hR hTr (nrow x.key (g u))
        have hti : IsR x.key (g u) t.1 := by rw [ht]; exact tellS_is (addR_is (nrow_is _ _))
        obtain ⟨R', hR'⟩ : ∃ R' : Nat → RowT, R' = fun q => if q < i then R q else if q = i then t.1 else R (q - 1) := ⟨_, rfl⟩
        have kW := fun q (e : q = u) => k_wnew j mk n R c hcx P d hdx Q x (g q) (by omega) (by rw [e]; exact hov) (by rw [e]; exact hb) i hi (by rw [e]; exact h1) (by rw [e]; exact h2) t (by rw [e]; exact ht) R' (fun q _ => by rw [hR']) c' hE.1 P' hE.2
        refine inl_call hA _ _ _ ⟨fun _ => (by rw [← hM]; exact kW _ eq0), (by cbv; repeat' first | apply And.intro | exact True.intro | rfl | exact .inr trivial | exact .inl trivial | exact .inl (Nat.le_refl _)), ?_⟩
        cbv
        repeat' first
          | apply And.intro
          | exact True.intro
          | with_reducible rfl
          | exact same_of hA rfl
          | refine br_of hA (fun _ => ?_) (fun _ => ?_)
          | exact imp_of hA id
          | (refine imp_of hA ?_; subst hA; simp only [real, Bool.true_and]; exact id)
          | (refine ind_of hA ?_; decide +kernel)
        refine ⟨⟨(u + 1, (n + 1, R'), (c', P'), (d, Q)), hlt', ?_, ?_, ?_⟩, by dsimp only; omega, cov_relB 1920 2664 1793 3 13 (fun i => eRow (R' i)) [.d (eI j.srcs), .d (eI j.tsks), .d (eI j.kind), .d (eI j.size), .d (eI j.step), .d (eI j.late), .d (eI j.tell), .d (eB j.piece), .d (eI j.least), .d (eI j.room), .d (eI mk)] [.own 2001 0 c' 2, .own 2002 0 d 1] rfl rfl rfl rfl rfl rfl (cov_of ?_ ?_ ?_)⟩
        · dsimp only; rw [hnext hlt' _ hs]; exact rput_new (r := t.1) hR hi (fun q hq => ra_r (nrow_is _ _) hti (h1 q hq)) (fun q a b hra => h2 q a b (ra_r hti (nrow_is _ _) hra)) (fun q hq => by rw [(isR_eq hti).1, (isR_eq hti).2]; exact hb q hq) (fun q _ => by rw [hR'])
        · dsimp only; rw [hnext hlt' _ hs]; exact ext_lst hP hE
        · dsimp only; rw [hnext hlt' _ hs]; exact hQ
        · (subst hA; (repeat' first | exact True.intro | exact rfl | apply And.intro | exact congrArg (fun x => DV.v (.int .i64 x)) (up64 hlt' hnw2)))
        · (subst hA; (repeat' first | exact True.intro | exact rfl | apply And.intro | (intro _ _; first | rfl | trivial)))
        · (subst hA; (repeat' first | exact True.intro | exact rfl | apply And.intro | exact .inl rfl | exact .inr (le_of_nble rfl)))
  rename_i hge
  have hun : nw = u := by have := ge2_of hA hge; omega
  have hR9 : Lst zRow T.1 n R := hR
  have hP9 : Lst zPan T.2.1 c P := hP
  have hQ9 : Lst zLat T.2.2 d Q := hQ
  subst hun
  rw [lst_all hg] at hT
  rw [← hT] at hG hPz hQz
  have e1 : n = k := hR9.1.trans hG.1.symm
  have e2 : c = cz := hP9.1.trans hPz.1.symm
  have e3 : d = dz := hQ9.1.trans hQz.1.symm
  subst e1 e2 e3
  refine stop_of hA ⟨[(9, .c (.bp 1920 1 0)), (3, .c (.bp 192 1 0)), (5, .c (.bp 320 1 0)), (6, .c (.bp 384 1 0))], [(1920, 1, .box [.d (eI j.srcs), .d (eI j.tsks), .d (eI j.kind), .d (eI j.size), .d (eI j.step), .d (eI j.late), .d (eI j.tell), .d (eB j.piece), .d (eI j.least), .d (eI j.room), .d (eI mk), .own 1793 0 n 1, .own 2001 0 c 1, .own 2002 0 d 1]), (1793, 1, .arr 13 n fun i => eRow (G i)), (2001, 1, .arr 9 c fun i => ePane (Pz i)), (2002, 1, .arr 7 d fun i => eLat (Qz i)), (192, 1, .box [.d (eI j.srcs), .d (eI j.tsks), .d (eI j.kind), .d (eI j.size), .d (eI j.step), .d (eI j.late), .d (eI j.tell), .d (eB j.piece), .d (eI j.least), .d (eI j.room)]), (320, 1, .box ((eItm x).map .d)), (384, 1, .box [.d (eI 0), .d (.v nilS)]), (2176, 1, .arr 2 nw fun i => eWin (g i))]⟩ (cov_of ?_ ?_ ?_) ?_
  · subst hA; (repeat' first | exact True.intro | exact rfl | apply And.intro)
  · subst hA; (repeat' first | exact True.intro | exact rfl | apply And.intro | (intro _ _; first | rfl | trivial) | (intro q hq; exact congrArg eRow ((hR9.2 q hq).trans (hG.2 q hq).symm)) | (intro q hq; exact congrArg ePane ((hP9.2 q hq).trans (hPz.2 q hq).symm)) | (intro q hq; exact congrArg eLat ((hQ9.2 q hq).trans (hQz.2 q hq).symm)))
  · subst hA; (repeat' first | exact True.intro | exact rfl | apply And.intro | exact .inl rfl | exact .inr (le_of_nble rfl))
  cbv
  repeat' first
    | apply And.intro
    | exact True.intro
    | with_reducible rfl
    | exact same_of hA rfl
    | refine br_of hA (fun _ => ?_) (fun _ => ?_)
    | exact imp_of hA id
    | (refine imp_of hA ?_; subst hA; simp only [real, Bool.true_and]; exact id)
    | (refine ind_of hA ?_; decide +kernel)
theorem c_OpTake (j : JobT) (s : OpStT) (hn : s.rows.n ≤ 1080000) (x : ItmT) (y : Int × List RowT × List PaneT × List LatT) (hy : y = opTakeL j s x) (k : Nat) (G : Nat → RowT) (hG : Lst zRow y.2.1 k G) (c : Nat) (P : Nat → PaneT) (hP : Lst zPan y.2.2.1 c P) (d : Nat) (Q : Nat → LatT) (hQ : Lst zLat y.2.2.2 d Q) :
    Meets Try.prog 24 [xd (eJob j), .agg [.d (eI s.mark), .d (.sl 13 s.rows.n fun i => eRow (s.rows.g i))], xd (eItm x)] ⟨.tup [.agg [.d (eI y.1), .own 13 k fun i => eRow (G i)], .c (.own 9 c fun i => ePane (P i)), .c (.own 7 d fun i => eLat (Q i))], [none, none, none]⟩ := by
  unfold opTakeL at hy
  by_cases hok : OpOkP j s ∧ RecP x ∧ s.rows.n ≤ 280
  · rw [if_pos hok] at hy
    subst hy
    exact m_OpTake j s x hok.1 hok.2.1 hok.2.2 k G hG c P hP d Q hQ
  · rw [if_neg hok] at hy
    subst hy
    have hk0 : k = 0 := hG.1
    have hc0 : c = 0 := hP.1
    have hd0 : d = 0 := hQ.1
    subst hk0 hc0 hd0
    obtain ⟨mk, n, g, hnL⟩ := s
    have hn : n ≤ 1080000 := hn
    refine meets_up (res := .tup [.agg [.d (eI 0), .d (.v nilS)], .c (.d (.v nilS)), .c (.d (.v nilS))]) ⟨⟨UpV.refl _, UpV.nil 13 fun i => eRow (G i), trivial⟩, UpV.nil 9 fun i => ePane (P i), UpV.nil 7 fun i => eLat (Q i), trivial⟩ ?_
    obtain ⟨b1, hb1, cO⟩ := c_OpOk j ⟨mk, ⟨n, g, hnL⟩⟩
    obtain ⟨b2, hb2, cR⟩ := c_isRecP x
    obtain ⟨b3, hb3, cC⟩ := c_crowded mk n hn g
    have hbb : ¬ (b1 = true ∧ b2 = true ∧ b3 = false) := fun h => hok ⟨hb1.1 h.1, hb2.1 h.2.1, Nat.le_of_not_lt fun hc => by have := hb3.2 hc; rw [h.2.2] at this; cases this⟩
    have no3 : ∀ {A : Ar}, real = A → A.bite (A.bite (A.bnot b1) true (A.bnot b2)) true b3 = false → False := fun hA h => by
      subst hA
      have h : (bif (bif !b1 then true else !b2) then true else b3) = false := h
      cases b1 <;> cases b2 <;> cases b3 <;> simp at h hbb
    refine meets_of (H := []) (EX := EXA) ttok mixed Try.func24 rfl (by kernel_rfl) (by decide) ?_
    generalize hA : real = A
    generalize hM : MeetsB Try.prog = M
    cbv
    repeat' first
      | exact (no3 hA (by assumption)).elim
      | apply And.intro
      | exact True.intro
      | with_reducible rfl
      | exact same_of hA rfl
      | refine br_of hA (fun _ => ?_) (fun _ => ?_)
      | exact imp_of hA id
      | (refine imp_of hA ?_; subst hA; simp only [real, Bool.true_and]; exact id)
      | (refine ind_of hA ?_; decide +kernel)
      | (refine call_of hA hM _ cO ?_; cbv)
      | (refine call_of hA hM _ cR ?_; cbv)
      | (refine call_of hA hM _ cC ?_; cbv)
    all_goals first | (subst hA; rfl) | (subst hA; trace_state)
end Go.Rk
