/- The walk over this seat's functions, part 11: what each of them answers, at all data. -/
import Derived.Test.YtgiomkpcpieplaaM1
import Derived.Test.YtgiomkpcpieplaaM2
import Derived.Test.YtgiomkpcpieplaaM3
import Derived.Test.YtgiomkpcpieplaaM4
import Derived.Test.YtgiomkpcpieplaaM5
import Derived.Test.YtgiomkpcpieplaaM6
import Derived.Test.YtgiomkpcpieplaaM7
import Derived.Test.YtgiomkpcpieplaaM8
import Derived.Test.YtgiomkpcpieplaaM9
import Derived.Test.YtgiomkpcpieplaaM10
import Derived.Test.YtgiomkpcpieplaaRows
import Derived.WalkKit
import Derived.ProofKit
import Derived.OpenShut
import Derived.ShutString
import Derived.ChangeOld
import Derived.SizedLaws
import Derived.DataShut
/- FnExactOpTake answers true at every input, and its input reads as before: no condition. -/
namespace Go.Rk
set_option linter.unusedSimpArgs false
set_option linter.unusedVariables false
open Go.Proofs Go.ChangeShapes Go.WideShapes Go.ChangeAt Go.RowKit
set_option maxRecDepth 100000
set_option maxHeartbeats 2000000
def EXL : FuncId → List Nat × Bool := fun f => bif nbeq f 18 then ([99], false) else bif nbeq f 20 then ([99], false) else bif nbeq f 19 then ([0], false) else bif nbeq f 26 then ([0], false) else bif nbeq f 22 then ([], true) else ([], false)
theorem m_law (j : JobT) (s : OpStT) (m : ItmT) : Meets Try.prog 5 [xd (eJob j), xd (eOpSt s), xd (eItm m)] ⟨.one (.c (.d (eB true))), [none, none, none]⟩ := by
  obtain ⟨y, hy⟩ : ∃ y : Int, y = szOpSt s 1048576 := ⟨_, rfl⟩
  have hc := sz_OpSt s 1048576 (by omega) (by omega) y hy
  have hs := szOpSt_spec s (l0 := 1048576) (by omega) (by omega)
  rw [← hy] at hs
  obtain ⟨x, hx⟩ : ∃ x, x = opTakeL j s m := ⟨_, rfl⟩
  have hlen := opTakeL_len j s m
  rw [← hx] at hlen
  obtain ⟨k, G, hG⟩ := lst_ex zRow x.2.1
  obtain ⟨c, P, hP⟩ := lst_ex zPan x.2.2.1
  obtain ⟨d, Q, hQ⟩ := lst_ex zLat x.2.2.2
  have hks : k ≤ 400 := by rw [hG.1]; exact hlen.1
  have hcs : c ≤ 40000 := by rw [hP.1]; exact hlen.2.1
  have hds : d ≤ 100 := by rw [hQ.1]; exact hlen.2.2
  refine meets_of (H := [2, 6, 16, 32]) (EX := EXL) ttok mixed Try.func5 rfl (by kernel_rfl) (by decide) ?_
  generalize hA : real = A
  generalize hM : MeetsB Try.prog = M
  cbv
  repeat' first
    | apply And.intro
    | exact True.intro
    | with_reducible rfl
    | exact same_of hA rfl
    | refine br_of hA (fun _ => ?_) (fun _ => ?_)
    | exact imp_of hA id
    | (refine imp_of hA ?_; subst hA; simp only [real, Bool.true_and]; exact id)
    | (refine ind_of hA ?_; decide +kernel)
  refine stop_of hA ⟨[(7, .c (.d (eI 1048576))), (3, .c (.bp 192 1 0)), (4, .c (.bp 256 1 0)), (5, .c (.bp 320 1 0))], [(192, 1, .box [.d (eI j.srcs), .d (eI j.tsks), .d (eI j.kind), .d (eI j.size), .d (eI j.step), .d (eI j.late), .d (eI j.tell), .d (eB j.piece), .d (eI j.least), .d (eI j.room)]), (256, 1, .box [.d (eI s.mark), .d (.sl 13 s.rows.n fun i => eRow (s.rows.g i))]), (320, 1, .box ((eItm m).map .d))]⟩ (cov_of ?_ ?_ ?_) ?_
  · (subst hA; (repeat' first | exact True.intro | exact rfl | apply And.intro))
  · (subst hA; (repeat' first | exact True.intro | exact rfl | apply And.intro | (intro _ _; first | rfl | trivial)))
  · (subst hA; (repeat' first | exact True.intro | exact rfl | apply And.intro | exact .inl rfl | exact .inr (le_of_nble rfl)))
  cbv
  repeat' first
    | apply And.intro
    | exact True.intro
    | with_reducible rfl
    | exact same_of hA rfl
    | refine br_of hA (fun _ => ?_) (fun _ => ?_)
    | exact imp_of hA id
    | (refine imp_of hA ?_; subst hA; simp only [real, Bool.true_and]; exact id)
    | (refine ind_of hA ?_; decide +kernel)
    | (refine call_of hA hM _ hc ?_; cbv)
  rename_i hge
  have hbd : bdOpSt s := hs.2.2 (by subst hA; have h : ¬ y < 0 := of_decide_eq_false hge; omega)
  have hn : s.rows.n ≤ 1048576 := hbd
  have hI := c_OpTake j s (by omega) m x hx k G hG c P hP d Q hQ
  have hS := c_sOpTake j s (by omega) m x hx k G hG c P hP d Q hQ
  have hto := to_OpStO s hbd
  have hkL : k ≤ maxLen := Nat.le_trans (show k ≤ 1048576 by omega) (by decide)
  have hcL : c ≤ maxLen := Nat.le_trans (show c ≤ 1048576 by omega) (by decide)
  have hdL : d ≤ maxLen := Nat.le_trans (show d ≤ 1048576 by omega) (by decide)
  obtain ⟨x1, hx1⟩ : ∃ v : Int, v = 1 + 13 * (s.rows.n : Int) := ⟨_, rfl⟩
  obtain ⟨x2, hx2⟩ : ∃ v : Int, v = 1 + 13 * (k : Int) := ⟨_, rfl⟩
  obtain ⟨x3, hx3⟩ : ∃ v : Int, v = x2 + 9 * (c : Int) := ⟨_, rfl⟩
  obtain ⟨x4, hx4⟩ : ∃ v : Int, v = x3 + 7 * (d : Int) := ⟨_, rfl⟩
  obtain ⟨IM, hIM⟩ : ∃ r : Nat → RowT, r = fun (i : Nat) => mkRow (1 + 13 * (i : Int)) := ⟨_, rfl⟩
  obtain ⟨IP, hIP⟩ : ∃ r : Nat → PaneT, r = fun (i : Nat) => mkPane (x2 + 9 * (i : Int)) := ⟨_, rfl⟩
  obtain ⟨IL, hIL⟩ : ∃ r : Nat → LatT, r = fun (i : Nat) => mkLat (x3 + 7 * (i : Int)) := ⟨_, rfl⟩
  have hp1 : 0 ≤ x1 := by rw [hx1]; omega
  have hp2 : 0 ≤ x2 := by rw [hx2]; omega
  have hp3 : 0 ≤ x3 := by rw [hx3, hx2]; omega
  have hp4 : 0 ≤ x4 := by rw [hx4, hx3, hx2]; omega
  have h2b : x2 ≤ 100000000 := by rw [hx2]; omega
  have h3b : x3 ≤ 100000000 := by rw [hx3, hx2]; omega
  have kx := k_markx s.mark 1 (by decide) s.rows.n (by omega) s.rows.g x1 hx1 IM (fun i => by rw [hIM])
  have kg := k_markg x.1 1 (by decide) k (by omega) G x2 hx2 IM (fun i => by rw [hIM])
  have h0 := k_held0 x.1 1 (by decide) k (by omega) x2 hx2 IM (fun i => by rw [hIM])
  have h1 := k_held1 x.1 1 (by decide) k (by omega) x2 hx2 IM (fun i => by rw [hIM])
  have hmp := marks_Pane x2 ⟨hp2, h2b⟩ c (by omega) P x3 hx3 IP (fun i => by rw [hIP])
  have hhp := helds_Pane x2 ⟨hp2, h2b⟩ c (by omega) x3 hx3 IP (fun i => by rw [hIP])
  have hml := marks_Lat x3 ⟨hp3, h3b⟩ d (by omega) Q x4 hx4 IL (fun i => by rw [hIL])
  have hhl := helds_Lat x3 ⟨hp3, h3b⟩ d (by omega) x4 hx4 IL (fun i => by rw [hIL])
  have hneg : ∀ {A : Ar} (v : Int), 0 ≤ v → real = A → A.cmp .lss v 0 = true → False := fun v hv hA h => by subst hA; exact absurd (of_decide_eq_true h) (Int.not_lt.2 hv)
  have nx : ∀ {A : Ar}, real = A → A.bite (A.bite (A.bite (A.cmp .lss x1 0) true (A.bnot true)) true (A.bnot true)) true (A.bnot true) = true → False := fun hA h => by
    subst hA
    have h : (bif (bif (bif decide (x1 < 0) then true else !true) then true else !true) then true else !true) = true := h
    rw [decide_eq_false (Int.not_lt.2 hp1)] at h
    cases h
  have hX2 : Meets Try.prog 24 [xd (eJob j), .agg [.d (eI s.mark), .d (.sl 13 s.rows.n fun i => eRow (s.rows.g i))], xd (eItm m)] _ := hI
  clear hX2
  repeat' first
    | apply And.intro
    | exact True.intro
    | with_reducible rfl
    | exact same_of hA rfl
    | refine br_of hA (fun _ => ?_) (fun _ => ?_)
    | exact imp_of hA id
    | (refine imp_of hA ?_; subst hA; simp only [real, Bool.true_and]; exact id)
    | (refine ind_of hA ?_; decide +kernel)
    | (refine call_of hA hM _ (to_Job j) ?_; cbv)
    | (refine call_of hA hM _ hto ?_; cbv)
    | (refine call_of hA hM _ (to_Itm m) ?_; cbv)
    | (refine call_of2 hA hM _ hS (by (subst hA; first | rfl | (simp only [sub0r]; done) | (simp only [sub0r]; rfl))) ?_; cbv)
    | exact flat_row hA _ _
    | exact flat_pane hA _ _
    | exact flat_lat hA _ _
  refine stop_of hA ⟨[(3, .c (.bp 192 1 0)), (4, .c (.bp 256 1 0)), (5, .c (.bp 320 1 0)), (8, .c (.bp 512 1 0)), (9, .c (.d (.sl 9 c fun i => ePane (P i)))), (10, .c (.d (.sl 7 d fun i => eLat (Q i))))], [(192, 1, .box [.d (eI j.srcs), .d (eI j.tsks), .d (eI j.kind), .d (eI j.size), .d (eI j.step), .d (eI j.late), .d (eI j.tell), .d (eB j.piece), .d (eI j.least), .d (eI j.room)]), (256, 1, .box [.d (eI s.mark), .d (.sl 13 s.rows.n fun i => eRow (s.rows.g i))]), (320, 1, .box ((eItm m).map .d)), (512, 1, .box [.d (eI x.1), .d (.sl 13 k fun i => eRow (G i))])]⟩ (cov_of ?_ ?_ ?_) ?_
  · (subst hA; (repeat' first | exact True.intro | exact rfl | apply And.intro))
  · (subst hA; (repeat' first | exact True.intro | exact rfl | apply And.intro | (intro _ _; first | rfl | trivial)))
  · (subst hA; (repeat' first | exact True.intro | exact rfl | apply And.intro | exact .inl rfl | exact .inr (le_of_nble rfl)))
  cbv
  repeat' first
    | exact (hneg x2 hp2 hA (by assumption)).elim
    | exact (hneg x3 hp3 hA (by assumption)).elim
    | exact (hneg x4 hp4 hA (by assumption)).elim
    | exact (nx hA (by assumption)).elim
    | apply And.intro
    | exact True.intro
    | with_reducible rfl
    | exact same_of hA rfl
    | refine br_of hA (fun _ => ?_) (fun _ => ?_)
    | exact imp_of hA id
    | (refine imp_of hA ?_; subst hA; simp only [real, Bool.true_and]; exact id)
    | (refine ind_of hA ?_; decide +kernel)
    | (refine call_of hA hM _ (to_Job j) ?_; cbv)
    | (refine call_of hA hM _ hto ?_; cbv)
    | (refine call_of hA hM _ (to_Itm m) ?_; cbv)
    | exact flat_row hA _ _
    | exact flat_pane hA _ _
    | exact flat_lat hA _ _
    | (refine call_of2 hA hM _ hI (by (subst hA; first | rfl | (simp only [sub0r]; done) | (simp only [sub0r]; rfl))) ?_; cbv)
    | (refine call_of2 hA hM _ (eq_OpSt ⟨x.1, ⟨k, G, hkL⟩⟩) (by (subst hA; first | rfl | (simp only [sub0r]; done) | (simp only [sub0r]; rfl))) ?_; cbv)
    | (refine call_of2 hA hM _ (eq_PaneS c hcL P) (by (subst hA; first | rfl | (simp only [sub0r]; done) | (simp only [sub0r]; rfl))) ?_; cbv)
    | (refine call_of2 hA hM _ (eq_LatS d hdL Q) (by (subst hA; first | rfl | (simp only [sub0r]; done) | (simp only [sub0r]; rfl))) ?_; cbv)
    | (refine call_of2 hA hM _ (eq_OpSt s) (by (subst hA; first | rfl | (simp only [sub0r]; done) | (simp only [sub0r]; rfl))) ?_; cbv)
    | (refine inl_call hA _ _ _ ⟨fun _ => (by rw [← hM]; exact kx), (by cbv; repeat' first | apply And.intro | exact True.intro | rfl | exact .inr trivial | exact .inl trivial), ?_⟩; cbv)
    | (exfalso; rename_i h; subst hA; simp [real] at h; done)
  refine stop_of hA ⟨[(3, .c (.bp 192 1 0)), (4, .c (.bp 256 1 0)), (5, .c (.bp 320 1 0)), (8, .c (.bp 512 1 0)), (9, .c (.d (.sl 9 c fun i => ePane (P i)))), (10, .c (.d (.sl 7 d fun i => eLat (Q i)))), (12, .c (.bp 768 1 0)), (13, .c (.own 2882 0 c 1)), (14, .c (.own 2883 0 d 1))], [(192, 1, .box [.d (eI j.srcs), .d (eI j.tsks), .d (eI j.kind), .d (eI j.size), .d (eI j.step), .d (eI j.late), .d (eI j.tell), .d (eB j.piece), .d (eI j.least), .d (eI j.room)]), (256, 1, .box [.d (eI s.mark), .d (.sl 13 s.rows.n fun i => eRow (s.rows.g i))]), (320, 1, .box ((eItm m).map .d)), (512, 1, .box [.d (eI x.1), .d (.sl 13 k fun i => eRow (G i))]), (768, 1, .box [.d (eI x.1), .own 2881 0 k 1]), (2881, 1, .arr 13 k fun i => eRow (G i)), (2882, 1, .arr 9 c fun i => ePane (P i)), (2883, 1, .arr 7 d fun i => eLat (Q i))]⟩ (cov_of ?_ ?_ ?_) ?_
  · (subst hA; (repeat' first | exact True.intro | exact rfl | apply And.intro))
  · (subst hA; (repeat' first | exact True.intro | exact rfl | apply And.intro | (intro _ _; first | rfl | trivial)))
  · (subst hA; (repeat' first | exact True.intro | exact rfl | apply And.intro | exact .inl rfl | exact .inr (le_of_nble rfl)))
  cbv
  repeat' first
    | exact (hneg x2 hp2 hA (by assumption)).elim
    | exact (hneg x3 hp3 hA (by assumption)).elim
    | exact (hneg x4 hp4 hA (by assumption)).elim
    | exact (nx hA (by assumption)).elim
    | apply And.intro
    | exact True.intro
    | with_reducible rfl
    | exact same_of hA rfl
    | refine br_of hA (fun _ => ?_) (fun _ => ?_)
    | exact imp_of hA id
    | (refine imp_of hA ?_; subst hA; simp only [real, Bool.true_and]; exact id)
    | (refine ind_of hA ?_; decide +kernel)
    | (refine call_of hA hM _ (to_Job j) ?_; cbv)
    | (refine call_of hA hM _ hto ?_; cbv)
    | (refine call_of hA hM _ (to_Itm m) ?_; cbv)
    | exact flat_row hA _ _
    | exact flat_pane hA _ _
    | exact flat_lat hA _ _
    | (refine inl_call hA _ _ _ ⟨fun _ => (by rw [← hM]; exact kg), (by cbv; repeat' first | apply And.intro | exact True.intro | rfl | exact .inr trivial | exact .inl trivial), ?_⟩; cbv)
    | (refine inl_call hA _ _ _ ⟨fun _ => (by rw [← hM]; exact h0), (by cbv; repeat' first | apply And.intro | exact True.intro | rfl | exact .inr trivial | exact .inl trivial), ?_⟩; cbv)
    | (refine call_of2 hA hM _ hmp (by (subst hA; first | rfl | (simp only [sub0r]; done) | (simp only [sub0r]; rfl))) ?_; cbv)
    | (refine call_of2 hA hM _ hhp (by (subst hA; first | rfl | (simp only [sub0r]; done) | (simp only [sub0r]; rfl))) ?_; cbv)
    | (refine call_of2 hA hM _ hml (by (subst hA; first | rfl | (simp only [sub0r]; done) | (simp only [sub0r]; rfl))) ?_; cbv)
    | (refine call_of2 hA hM _ hhl (by (subst hA; first | rfl | (simp only [sub0r]; done) | (simp only [sub0r]; rfl))) ?_; cbv)
    | (exfalso; rename_i h; subst hA; simp [real] at h; done)
  refine stop_of hA ⟨[(3, .c (.bp 192 1 0)), (4, .c (.bp 256 1 0)), (5, .c (.bp 320 1 0)), (8, .c (.bp 512 1 0)), (9, .c (.d (.sl 9 c fun i => ePane (P i)))), (10, .c (.d (.sl 7 d fun i => eLat (Q i)))), (12, .c (.bp 768 1 0)), (13, .c (.own 2882 0 c 1)), (14, .c (.own 2883 0 d 1)), (16, .c (.d (eI x4)))], [(192, 1, .box [.d (eI j.srcs), .d (eI j.tsks), .d (eI j.kind), .d (eI j.size), .d (eI j.step), .d (eI j.late), .d (eI j.tell), .d (eB j.piece), .d (eI j.least), .d (eI j.room)]), (256, 1, .box [.d (eI s.mark), .d (.sl 13 s.rows.n fun i => eRow (s.rows.g i))]), (320, 1, .box ((eItm m).map .d)), (512, 1, .box [.d (eI x.1), .d (.sl 13 k fun i => eRow (G i))]), (768, 1, .box [.d (eI x.1), .own 2881 0 k 1]), (2881, 1, .arr 13 k fun i => eRow (IM i)), (2882, 1, .arr 9 c fun i => ePane (IP i)), (2883, 1, .arr 7 d fun i => eLat (IL i))]⟩ (cov_of ?_ ?_ ?_) ?_
  · (subst hA; (repeat' first | exact True.intro | exact rfl | apply And.intro))
  · (subst hA; (repeat' first | exact True.intro | exact rfl | apply And.intro | (intro _ _; first | rfl | trivial)))
  · (subst hA; (repeat' first | exact True.intro | exact rfl | apply And.intro | exact .inl rfl | exact .inr (le_of_nble rfl)))
  cbv
  repeat' first
    | exact (hneg x2 hp2 hA (by assumption)).elim
    | exact (hneg x3 hp3 hA (by assumption)).elim
    | exact (hneg x4 hp4 hA (by assumption)).elim
    | exact (nx hA (by assumption)).elim
    | apply And.intro
    | exact True.intro
    | with_reducible rfl
    | exact same_of hA rfl
    | refine br_of hA (fun _ => ?_) (fun _ => ?_)
    | exact imp_of hA id
    | (refine imp_of hA ?_; subst hA; simp only [real, Bool.true_and]; exact id)
    | (refine ind_of hA ?_; decide +kernel)
    | (refine call_of hA hM _ (to_Job j) ?_; cbv)
    | (refine call_of hA hM _ hto ?_; cbv)
    | (refine call_of hA hM _ (to_Itm m) ?_; cbv)
    | exact flat_row hA _ _
    | exact flat_pane hA _ _
    | exact flat_lat hA _ _
    | (refine call_of2 hA hM _ hI (by (subst hA; first | rfl | (simp only [sub0r]; done) | (simp only [sub0r]; rfl))) ?_; cbv)
    | (refine call_of2 hA hM _ (eq_OpSt ⟨x.1, ⟨k, G, hkL⟩⟩) (by (subst hA; first | rfl | (simp only [sub0r]; done) | (simp only [sub0r]; rfl))) ?_; cbv)
    | (refine call_of2 hA hM _ (eq_PaneS c hcL P) (by (subst hA; first | rfl | (simp only [sub0r]; done) | (simp only [sub0r]; rfl))) ?_; cbv)
    | (refine call_of2 hA hM _ (eq_LatS d hdL Q) (by (subst hA; first | rfl | (simp only [sub0r]; done) | (simp only [sub0r]; rfl))) ?_; cbv)
    | (refine call_of2 hA hM _ (eq_OpSt s) (by (subst hA; first | rfl | (simp only [sub0r]; done) | (simp only [sub0r]; rfl))) ?_; cbv)
    | (refine inl_call hA _ _ _ ⟨fun _ => (by rw [← hM]; exact h1), (by cbv; repeat' first | apply And.intro | exact True.intro | rfl | exact .inr trivial | exact .inl trivial), ?_⟩; cbv)
    | (refine call_of2 hA hM _ hhp (by (subst hA; first | rfl | (simp only [sub0r]; done) | (simp only [sub0r]; rfl))) ?_; cbv)
    | (refine call_of2 hA hM _ hhl (by (subst hA; first | rfl | (simp only [sub0r]; done) | (simp only [sub0r]; rfl))) ?_; cbv)
    | (exfalso; rename_i h; subst hA; simp [real] at h; done)
  all_goals trace_state
theorem sh_int {m : Nat} {l : List DV} (h : Shows TT (m + 1) 3 l) : ∃ x, l = [eI x] := by
  obtain ⟨x, h, _⟩ := h
  exact ⟨x, h⟩
theorem sh_bool {m : Nat} {l : List DV} (h : Shows TT (m + 1) 4 l) : ∃ x, l = [eB x] := h
theorem sh_Job {m : Nat} {l : List DV} (h : Shows TT (m + 2) 23 l) : ∃ x, l = eJob x := by
  obtain ⟨_, _, rfl, h0, _, _, rfl, h1, _, _, rfl, h2, _, _, rfl, h3, _, _, rfl, h4, _, _, rfl, h5, _, _, rfl, h6, _, _, rfl, h7, _, _, rfl, h8, _, _, rfl, h9, rfl⟩ := h
  obtain ⟨a0, rfl⟩ := sh_int h0
  obtain ⟨a1, rfl⟩ := sh_int h1
  obtain ⟨a2, rfl⟩ := sh_int h2
  obtain ⟨a3, rfl⟩ := sh_int h3
  obtain ⟨a4, rfl⟩ := sh_int h4
  obtain ⟨a5, rfl⟩ := sh_int h5
  obtain ⟨a6, rfl⟩ := sh_int h6
  obtain ⟨a7, rfl⟩ := sh_bool h7
  obtain ⟨a8, rfl⟩ := sh_int h8
  obtain ⟨a9, rfl⟩ := sh_int h9
  exact ⟨⟨a0, a1, a2, a3, a4, a5, a6, a7, a8, a9⟩, rfl⟩
theorem sh_Win {m : Nat} {l : List DV} (h : Shows TT (m + 2) 134 l) : ∃ x, l = eWin x := by
  obtain ⟨_, _, rfl, h0, _, _, rfl, h1, rfl⟩ := h
  obtain ⟨a0, rfl⟩ := sh_int h0
  obtain ⟨a1, rfl⟩ := sh_int h1
  exact ⟨⟨a0, a1⟩, rfl⟩
theorem sh_Agg {m : Nat} {l : List DV} (h : Shows TT (m + 2) 135 l) : ∃ x, l = eAgg x := by
  obtain ⟨_, _, rfl, h0, _, _, rfl, h1, _, _, rfl, h2, _, _, rfl, h3, rfl⟩ := h
  obtain ⟨a0, rfl⟩ := sh_int h0
  obtain ⟨a1, rfl⟩ := sh_int h1
  obtain ⟨a2, rfl⟩ := sh_int h2
  obtain ⟨a3, rfl⟩ := sh_int h3
  exact ⟨⟨a0, a1, a2, a3⟩, rfl⟩
theorem sh_Row {m : Nat} {l : List DV} (h : Shows TT (m + 3) 137 l) : ∃ x, l = eRow x := by
  obtain ⟨_, _, rfl, h0, _, _, rfl, h1, _, _, rfl, h2, _, _, rfl, h3, _, _, rfl, h4, _, _, rfl, h5, rfl⟩ := h
  obtain ⟨a0, rfl⟩ := sh_int h0
  obtain ⟨a1, rfl⟩ := sh_Win h1
  obtain ⟨a2, rfl⟩ := sh_Agg h2
  obtain ⟨a3, rfl⟩ := sh_Agg h3
  obtain ⟨a4, rfl⟩ := sh_int h4
  obtain ⟨a5, rfl⟩ := sh_bool h5
  exact ⟨⟨a0, a1, a2, a3, a4, a5⟩, rfl⟩
theorem sh_SRow {m : Nat} {l : List DV} (h : Shows TT (m + 4) 24 l) : ∃ s : Sl RowT, l = [.sl 13 s.n fun i => eRow (s.g i)] := by
  obtain ⟨sz, n, row, rfl, hsz, hn, hr⟩ := h
  cases hsz
  have hrow : ∀ i, ∃ r : RowT, row i = eRow r := fun i => sh_Row (hr i)
  obtain ⟨rd, hrd⟩ : ∃ rd : Nat → RowT, row = fun i => eRow (rd i) := ⟨fun i => Classical.choose (hrow i), funext fun i => Classical.choose_spec (hrow i)⟩
  subst hrd
  exact ⟨⟨n, rd, hn⟩, rfl⟩
theorem sh_OpSt {m : Nat} {l : List DV} (h : Shows TT (m + 5) 26 l) : ∃ x, l = eOpSt x := by
  obtain ⟨_, _, rfl, h0, _, _, rfl, h1, rfl⟩ := h
  obtain ⟨a0, rfl⟩ := sh_int h0
  obtain ⟨a1, rfl⟩ := sh_SRow h1
  exact ⟨⟨a0, a1⟩, rfl⟩
theorem sh_Itm {m : Nat} {l : List DV} (h : Shows TT (m + 2) 45 l) : ∃ x, l = eItm x := by
  obtain ⟨_, _, rfl, h0, _, _, rfl, h1, _, _, rfl, h2, _, _, rfl, h3, _, _, rfl, h4, rfl⟩ := h
  obtain ⟨a0, rfl⟩ := sh_int h0
  obtain ⟨a1, rfl⟩ := sh_int h1
  obtain ⟨a2, rfl⟩ := sh_int h2
  obtain ⟨a3, rfl⟩ := sh_int h3
  obtain ⟨a4, rfl⟩ := sh_int h4
  exact ⟨⟨a0, a1, a2, a3, a4⟩, rfl⟩
theorem lawRow (ls : List (List DV)) (h : ShowsL TT 5 [23, 26, 45] ls) : Meets Try.prog 5 (xtsIn TT [23, 26, 45] ls) ⟨.one (.c (.d (.v (.bool true)))), [none, none, none]⟩ := by
  rcases ls with _ | ⟨l0, _ | ⟨l1, _ | ⟨l2, _ | ⟨l3, ls⟩⟩⟩⟩
  · exact h.elim
  · exact h.2.elim
  · exact h.2.2.elim
  · obtain ⟨x0, rfl⟩ := sh_Job h.1
    obtain ⟨x1, rfl⟩ := sh_OpSt h.2.1
    obtain ⟨x2, rfl⟩ := sh_Itm h.2.2.1
    exact m_law x0 x1 x2
  · exact h.2.2.2.elim
theorem own : ownKnob Try.prog.godebug = none := by kernel_rfl
theorem laidOut : laidOutB Try.prog = true := by kernel_rfl
set_option maxRecDepth 100000 in
theorem lifted (os : Os) (started : os.Started) (H : Type) (enc : TypeId × Value → H) :
    ReturnsInHanded {} Try.checked os 5 .any (Ytgiomkpcpieplaa.Rows.fnExactOpTakeSpec.pre6 enc Try.prog Try.f5 Ytgiomkpcpieplaa.Rows.fnExactOpTakeRow.domain false)
      (Ytgiomkpcpieplaa.Rows.fnExactOpTakeSpec.post enc Try.prog Try.f5 false true false false) := by
  refine returnsInHanded_of_change_sized (C := Try.checked) own started (by kernel_rfl) Try.func5
    (ChangeSpec.witness6 (enc := enc) (C := Try.checked) false ⟨#[], #[.agg #[.int .i64 0, .int .i64 0, .int .i64 0, .int .i64 0, .int .i64 0, .int .i64 0, .int .i64 0, .bool false, .int .i64 0, .int .i64 0], .agg #[.int .i64 0, .slice none 0 0], .agg #[.int .i64 0, .int .i64 0, .int .i64 0, .int .i64 0, .int .i64 0]], []⟩ 8 (by kernel_rfl) (by kernel_rfl) (by kernel_rfl) (by kernel_rfl)) ?_
  intro W base args ds gs before hval0 hW hcnd hsz0 _
  refine law_contract (P := Try.prog) (T := TT) ttok (n := 5) (tb := 4) laidOut (by decide +kernel) (by kernel_rfl) rfl Try.underlying4 rfl ?_ ?_ W base args ds gs before hval0 hW
  · intro H ds hl
    match ds, hl with
    | [d0, d1, d2], _ => exact ⟨rfl, rfl, rfl⟩
  · rw [Try.params5]
    intro ls hls
    exact lawRow ls hls
theorem over : Ytgiomkpcpieplaa.Rows.fnExactOpTakeRow.holds Ytgiomkpcpieplaa.Try.pinned (OpenSpec.ofChange Ytgiomkpcpieplaa.Rows.fnExactOpTakeSpec) :=
  OpenClaim.holds_of_wide 5 Try.f5 rfl rfl rfl rfl rfl rfl rfl ⟨rfl, rfl, rfl, rfl, rfl⟩ rfl rfl rfl rfl rfl (by kernel_rfl) Try.func5 (by kernel_rfl)
    (of_decide_eq_true (by kernel_rfl)) (by unfold Func.isWrapper; first | (rw [if_pos (by decide +kernel)]; kernel_rfl) | (rw [if_neg (by decide +kernel)]; exact ⟨rfl, rfl⟩))
    (fun os started H enc _ => lifted os started H enc)
end Go.Rk
namespace Go.Proofs.Ytgiomkpcpieplaa
theorem fnExactOpTake_holds : Rows.FnExactOpTakeSaid := Go.Rk.over
#print axioms fnExactOpTake_holds
end Go.Proofs.Ytgiomkpcpieplaa
