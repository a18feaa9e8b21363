/- FnSpcPairs answers true at every input, and its input reads as before: no condition. -/
import Derived.Test.YtbkpfnddpnccmaaTA14
import Derived.Test.YtbkpfnddpnccmaaRows
import Derived.WalkKit
import Derived.ProofKit
import Derived.OpenShut
import Derived.ShutString
import Derived.ChangeOld
import Derived.SizedLaws
import Derived.DataShut
namespace Go.Rk
set_option linter.unusedSimpArgs false
set_option linter.unusedVariables false
open Go.Proofs Go.ChangeShapes Go.WideShapes Go.ChangeAt Go.RowKit
set_option maxRecDepth 100000
set_option maxHeartbeats 1000000
theorem slideF_in {size step t : Int} (hs : 0 ≤ step) : ∀ k f w, w ∈ slideF size step t k f → f ≤ w.s ∧ w.e = w.s + size ∧ w.s ≤ t ∧ t < w.s + size
  | 0, _, w, h => by unfold slideF at h; cases h
  | k + 1, f, w, h => by
    unfold slideF at h
    split at h
    · rename_i hf
      rcases List.mem_append.1 h with h | h
      · split at h
        · rename_i h2
          have e := List.mem_singleton.1 h
          subst e
          exact ⟨Int.le_refl _, rfl, hf, h2⟩
        · cases h
      · have := slideF_in hs k (f + step) w h
        omega
    · cases h
theorem winsL_in {j : JobT} {t : Int} (hj : JobOkP j) (ht : 0 ≤ t ∧ t ≤ 60) {w : WinT} (h : w ∈ winsL j t) : WinOkP w ∧ w.s ≤ t ∧ t ≤ IntKind.i64.wrap (w.e - 1) := by
  have hk : 1 ≤ j.kind ∧ j.kind ≤ 3 := hj.2.2.1
  have hsz : 1 ≤ j.size ∧ j.size ≤ 20 := hj.2.2.2.1
  have hst := hj.2.2.2.2.1
  have hst0 : 0 ≤ winStep j := by unfold winStep; split <;> (try split) <;> omega
  have hf0 : 0 ≤ winFrom j t := by
    unfold winFrom
    split
    · have e : t.tmod j.size ≤ t := by
        rw [Int.tmod_eq_emod_of_nonneg ht.1]
        have := Int.emod_add_mul_ediv t j.size
        have := Int.mul_nonneg (show 0 ≤ j.size by omega) (Int.ediv_nonneg ht.1 (show 0 ≤ j.size by omega))
        omega
      omega
    · split <;> omega
  have hh := slideF_in hst0 100 (winFrom j t) w h
  have w1 : IntKind.i64.wrap (w.e - 1) = w.e - 1 := IntWalk.i64_in _ (by omega)
  have w2 : IntKind.i64.wrap (w.s + 1) = w.s + 1 := IntWalk.i64_in _ (by omega)
  unfold WinOkP
  rw [w1, w2]
  omega
theorem pairsL_at (j : JobT) (g : Nat → ItmT) : ∀ (m i k : Nat), i < m → k < (winsL j (g i).t).length → (pairsL j g i).length + k < (pairsL j g m).length ∧ (pairsL j g m).getD ((pairsL j g i).length + k) zLat = ⟨g i, (winsL j (g i).t).getD k zWin⟩
  | 0, i, k, h, _ => absurd h (Nat.not_lt_zero i)
  | m + 1, i, k, hi, hk => by
    show (pairsL j g i).length + k < (pairsL j g m ++ (winsL j (g m).t).map fun w => (⟨g m, w⟩ : LatT)).length ∧ (pairsL j g m ++ (winsL j (g m).t).map fun w => (⟨g m, w⟩ : LatT)).getD ((pairsL j g i).length + k) zLat = ⟨g i, (winsL j (g i).t).getD k zWin⟩
    by_cases e : i = m
    · subst e
      refine ⟨by rw [List.length_append, List.length_map]; omega, ?_⟩
      rw [List.getD_eq_getElem?_getD, List.getElem?_append_right (Nat.le_add_right _ _), Nat.add_sub_cancel_left, List.getElem?_map, List.getD_eq_getElem?_getD, List.getElem?_eq_getElem hk]
      rfl
    · obtain ⟨h1, h2⟩ := pairsL_at j g m i k (by omega) hk
      refine ⟨by rw [List.length_append]; omega, ?_⟩
      rw [List.getD_eq_getElem?_getD, List.getElem?_append_left h1, ← List.getD_eq_getElem?_getD]
      exact h2
theorem pairsL_succ (j : JobT) (g : Nat → ItmT) (i : Nat) : (pairsL j g (i + 1)).length = (pairsL j g i).length + (winsL j (g i).t).length := by
  show (pairsL j g i ++ (winsL j (g i).t).map fun w => (⟨g i, w⟩ : LatT)).length = _
  rw [List.length_append, List.length_map]
theorem flat_lat {A : Ar} (hA : real = A) (n : Nat) (G : Nat → LatT) : A.flat n (fun i => eLat (G i)) := by
  subst hA
  intro i _ x hx
  simp only [eLat, List.mem_cons, List.not_mem_nil, or_false] at hx
  rcases hx with rfl | rfl | rfl | rfl | rfl | rfl | rfl <;> exact ⟨_, rfl⟩
theorem flat_itm {A : Ar} (hA : real = A) (n : Nat) (G : Nat → ItmT) : A.flat n (fun i => eItm (G i)) := by
  subst hA
  intro i _ x hx
  simp only [eItm, List.mem_cons, List.not_mem_nil, or_false] at hx
  rcases hx with rfl | rfl | rfl | rfl | rfl <;> exact ⟨_, rfl⟩
theorem flat_win {A : Ar} (hA : real = A) (n : Nat) (G : Nat → WinT) : A.flat n (fun i => eWin (G i)) := by
  subst hA
  intro i _ x hx
  simp only [eWin, List.mem_cons, List.not_mem_nil, or_false] at hx
  rcases hx with rfl | rfl <;> exact ⟨_, rfl⟩
theorem go_in {A : Ar} (hA : real = A) {i m n0 : Nat} (h : A.bite (A.cmp .lss (Int.ofNat i) (A.int m)) (A.cmp .gtr (A.int n0) 0) false = true) : i < m ∧ n0 > 0 := by
  subst hA
  have h : (bif decide ((i : Int) < (m : Int)) then decide ((n0 : Int) > 0) else false) = true := h
  rw [bifA, Bool.and_eq_true, decide_eq_true_eq, decide_eq_true_eq] at h
  omega
theorem go_out {A : Ar} (hA : real = A) {i m n0 : Nat} (h : A.bite (A.cmp .lss (Int.ofNat i) (A.int m)) (A.cmp .gtr (A.int n0) 0) false = false) : ¬ i < m ∨ ¬ n0 > 0 := by
  subst hA
  have h : (bif decide ((i : Int) < (m : Int)) then decide ((n0 : Int) > 0) else false) = false := h
  rw [bifA, Bool.and_eq_false_iff, decide_eq_false_iff_not, decide_eq_false_iff_not] at h
  omega
theorem lt_of {A : Ar} (hA : real = A) {i n : Nat} (h : A.cmp .lss (Int.ofNat i) (A.int n) = true) : i < n := by
  subst hA
  have h : decide ((i : Int) < (n : Int)) = true := h
  rw [decide_eq_true_eq] at h
  omega
theorem ge_of {A : Ar} (hA : real = A) {i n : Nat} (h : A.cmp .lss (Int.ofNat i) (A.int n) = false) : n ≤ i := by
  subst hA
  have h : decide ((i : Int) < (n : Int)) = false := h
  rw [decide_eq_false_iff_not] at h
  omega
theorem inb_lt {A : Ar} (hA : real = A) {g : Bool} {i n : Nat} (h : i < n) : A.inb g (Int.ofNat i) n := by
  refine inb_of hA fun _ => ?_
  have e : Int.ofNat i = (i : Int) := rfl
  rw [e]
  omega
def st_fpo (j : JobT) (m : Nat) (g : Nat → ItmT) (n0 : Nat) (G : Nat → LatT) (i n : Nat) : St := ⟨[(7, .c (.d (eI i))), (6, .c (.d (eI n))), (5, .c (.own 1280 0 n0 1)), (4, .c (.own 970 0 m 1)), (3, .c (.bp 192 1 0))], [(192, 1, .box ((eJob j).map .d)), (970, 1, .arr 5 m fun i => eItm (g i)), (1280, 1, .arr 7 n0 fun i => eLat (G i))]⟩
def st_fpi (j : JobT) (m : Nat) (g : Nat → ItmT) (n0 : Nat) (G : Nat → LatT) (i : Nat) (nw : Nat) (gw : Nat → WinT) (k n : Nat) : St := ⟨[(9, .c (.d (eI k))), (8, .c (.own 2816 0 nw 1)), (7, .c (.d (eI i))), (6, .c (.d (eI n))), (5, .c (.own 1280 0 n0 1)), (4, .c (.own 970 0 m 1)), (3, .c (.bp 192 1 0))], [(2816, 1, .arr 2 nw fun i => eWin (gw i)), (192, 1, .box ((eJob j).map .d)), (970, 1, .arr 5 m fun i => eItm (g i)), (1280, 1, .arr 7 n0 fun i => eLat (G i))]⟩
theorem m_law (M0 : Nat) (b : Nat → Int) (hb : ∀ i, 0 ≤ b i ∧ b i ≤ 255) : Meets Try.prog 4 [.c (.d (.sl 1 M0 fun i => [eU (b i)]))] ⟨.one (.c (.d (eB true))), [none]⟩ := by
  obtain ⟨j, m, g, hm15, hD⟩ := c_draw M0 b hb
  have hm : m ≤ maxLen := Nat.le_trans hm15 (by decide)
  obtain ⟨n0, hn0⟩ : ∃ n0, n0 = (spcL j m g).length := ⟨_, rfl⟩
  obtain ⟨G, hG⟩ : ∃ G : Nat → LatT, G = fun k => (spcL j m g).getD k zLat := ⟨_, rfl⟩
  have hl : Tells zLat eLat (spcL j m g) n0 (fun i => eLat (G i)) := ⟨hn0, fun k _ => by rw [hG]⟩
  have hn12 : n0 ≤ 12000 := by
    rw [hn0]; unfold spcL; split
    · rename_i hok
      have := pairsL_len j g m
      have := hok.2.1
      omega
    · exact Nat.zero_le _
  have hnL : n0 ≤ maxLen := Nat.le_trans hn12 (by decide)
  have hS := c_sSpc j m hm g n0 G hl
  have hI := c_Spc j m hm g n0 G hl
  have hFr := c_frLates n0 hnL G
  have hFo := c_frOk
  refine meets_of (H := []) (EX := EXA) ttok mixed Try.func4 rfl (by kernel_rfl) (by decide) ?_
  generalize hA : real = A
  generalize hM : Meets Try.prog = M
  cbv
  repeat' first
    | (refine br_f hA ?_ ?_; focus (subst hA; simp [real]; done))
    | apply And.intro
    | exact True.intro
    | with_reducible rfl
    | exact same_of hA rfl
    | refine br_of hA (fun _ => ?_) (fun _ => ?_)
    | exact imp_of hA id
    | (refine imp_of hA ?_; subst hA; simp only [real, Bool.true_and]; exact id)
    | (refine ind_of hA ?_; decide +kernel)
    | (refine call_of hA hM _ hD ?_; cbv)
    | (refine call_of hA hM _ hI ?_; cbv)
    | (refine call_of hA hM _ hS ?_; cbv)
    | (refine call_of hA hM _ hFr ?_; cbv)
    | exact flat_lat hA _ _
    | exact flat_itm hA _ _
    | (refine call_of2 hA hM _ hI (congrArg (fun f => [xd (eJob j), XT.c (.d (.sl 5 m f))]) (sub0 hA fun i => eItm (g i))) ?_; cbv)
    | (refine call_of2 hA hM _ hS (congrArg (fun f => [xd (eJob j), XT.c (.d (.sl 5 m f))]) (sub0 hA fun i => eItm (g i))) ?_; cbv)
    | (refine call_of2 hA hM _ hFr (congrArg (fun f => [XT.c (.d (.sl 7 n0 f)), XT.c (.d (.sl 7 n0 f))]) (sub0 hA fun i => eLat (G i))) ?_; cbv)
  refine loop_of hA (α := { q : Nat × Nat // q.1 ≤ m ∧ q.2 = (pairsL j g q.1).length ∧ (n0 = 0 → q.1 = 0) }) (fun y => st_fpo j m g n0 G y.1.1 y.1.2) (fun y => m - y.1.1) ⟨(0, 0), Nat.zero_le _, rfl, fun _ => rfl⟩ ?_ ?_
  · refine cov_of ?_ ?_ ?_
    · cbv; try (subst hA; repeat' first | apply And.intro | exact True.intro | rfl)
    · cbv; try (subst hA; repeat' first | apply And.intro | exact True.intro | rfl | (intro _ _; rfl))
    · cbv; try (subst hA; repeat' first | apply And.intro | exact True.intro | rfl | exact .inr trivial)
  rintro ⟨⟨i, n⟩, hi, hn, hz⟩
  have hi : i ≤ m := hi
  have hn : n = (pairsL j g i).length := hn
  have hz : n0 = 0 → i = 0 := hz
  obtain ⟨gw, hgw⟩ : ∃ gw : Nat → WinT, gw = fun k => (winsL j (g i).t).getD k zWin := ⟨_, rfl⟩
  obtain ⟨nw, hnw⟩ : ∃ nw, nw = (winsL j (g i).t).length := ⟨_, rfl⟩
  have hTw : Tells zWin eWin (winsL j (g i).t) nw (fun i => eWin (gw i)) := ⟨hnw, fun k _ => by rw [hgw]⟩
  have hw100 : nw ≤ 100 := by rw [hnw]; exact winsL_len _ _
  have hn100 : n ≤ 100 * i := by rw [hn]; exact pairsL_len _ _ _
  have hok0 : n0 > 0 → SpcOkP j m g := fun h => by
    refine Classical.byContradiction fun hno => ?_
    have e : n0 = 0 := by rw [hn0]; unfold spcL; rw [if_neg hno]; rfl
    omega
  cbv
  repeat' first
    | apply And.intro
    | exact True.intro
    | with_reducible rfl
    | exact same_of hA rfl
    | refine br_of hA (fun _ => ?_) (fun _ => ?_)
    | exact imp_of hA id
    | (refine imp_of hA ?_; subst hA; simp only [real, Bool.true_and]; exact id)
    | (refine ind_of hA ?_; decide +kernel)
    | (rename_i hlt; exact inb_lt hA (go_in hA hlt).1)
    | exact flat_lat hA _ _
    | exact flat_itm hA _ _
    | (refine call_of hA hM _ (show Meets Try.prog 26 [xd (eJob j), .c (.d (eI (g (A.add 0 (A.nat (Int.ofNat i)))).t))] ⟨.one (.c (.own 2 nw fun i => eWin (gw i))), [none, none]⟩ from (by rename_i hlt; have hh := go_in hA hlt; have hok := hok0 hh.2; have hc := c_WinOf j (g i).t hok.1 (recP_t (hok.2.2 i hh.1)) nw gw hTw; have e0 : A.add 0 (A.nat (Int.ofNat i)) = i := (by subst hA; exact Nat.zero_add i); rw [e0]; exact hc)) ?_; cbv)
  · rename_i hlt
    have hh := go_in hA hlt
    have hok := hok0 hh.2
    have hsp : spcL j m g = pairsL j g m := by unfold spcL; rw [if_pos hok]
    have ht := recP_t (hok.2.2 i hh.1)
    refine loop_of hA (α := { q : Nat × Nat // q.1 ≤ nw ∧ q.2 = (pairsL j g i).length + q.1 }) (fun y => st_fpi j m g n0 G i nw gw y.1.1 y.1.2) (fun y => nw - y.1.1) ⟨(0, n), Nat.zero_le _, hn⟩ ?_ ?_
    · refine cov_of ?_ ?_ ?_
      · cbv; try (subst hA; repeat' first | apply And.intro | exact True.intro | rfl)
      · cbv; try (subst hA; repeat' first | apply And.intro | exact True.intro | rfl | (intro _ _; rfl))
      · cbv; try (subst hA; repeat' first | apply And.intro | exact True.intro | rfl | exact .inr trivial)
    rintro ⟨⟨k, n1⟩, hk, hn1⟩
    have hk : k ≤ nw := hk
    have hn1 : n1 = (pairsL j g i).length + k := hn1
    obtain ⟨zr, hzr⟩ : ∃ z : Nat → Prop, z = fun k => k < nw → (n1 < n0 ∧ G n1 = ⟨g i, gw k⟩ ∧ LatOkP (G n1)) := ⟨_, rfl⟩
    have hzk : zr k := by
      rw [hzr]
      intro hkw
      rw [hnw] at hkw
      obtain ⟨h1, h2⟩ := pairsL_at j g m i k hh.1 hkw
      have e1 : G n1 = ⟨g i, gw k⟩ := by rw [hG, hgw, hn1, hsp]; exact h2
      refine ⟨by rw [hn0, hsp, hn1]; exact h1, e1, ?_⟩
      rw [e1]
      have hm2 : gw k ∈ winsL j (g i).t := by
        rw [hgw]
        show (winsL j (g i).t).getD k zWin ∈ _
        rw [List.getD_eq_getElem?_getD, List.getElem?_eq_getElem hkw]
        exact List.getElem_mem hkw
      have hw := winsL_in hok.1 ht hm2
      exact ⟨hok.2.2 i hh.1, hw.1, hw.2⟩
    cbv
    repeat' first
      | apply And.intro
      | exact True.intro
      | with_reducible rfl
      | exact same_of hA rfl
      | refine br_of hA (fun _ => ?_) (fun _ => ?_)
      | exact imp_of hA id
      | (refine imp_of hA ?_; subst hA; simp only [real, Bool.true_and]; exact id)
      | (refine ind_of hA ?_; decide +kernel)
      | (refine call_ex hA hM (c_LatOk _) (fun _ _ => ?_); cbv)
      | exact inb_lt hA hh.1
      | (rename_i hlk; exact inb_lt hA (lt_of hA hlk))
      | (rename_i hlk; exact inb_lt hA (by rw [hzr] at hzk; exact (hzk (lt_of hA hlk)).1))
    · rename_i hlk bb hbb hbad
      exfalso
      rw [hzr] at hzk
      have h3 := hzk (lt_of hA hlk)
      subst hA
      have e0 : real.add 0 (real.nat (Int.ofNat n1)) = n1 := Nat.zero_add n1
      rw [e0] at hbb
      have hbt := hbb.2 h3.2.2
      simp [real, h3.2.1, hbt, h3.1] at hbad
      exact absurd h3.1 (Nat.not_lt.2 hbad)
    · rename_i hlk bb hbb hbad
      have hlk' := lt_of hA hlk
      refine ⟨⟨(k + 1, n1 + 1), by simp only; omega, by simp only; omega⟩, by simp only; omega, cov_of ?_ ?_ ?_⟩
      · cbv
        subst hA
        repeat' first | apply And.intro | exact True.intro | exact congrArg (fun x => DV.v (.int .i64 x)) (up64 hlk' (Nat.le_trans hw100 (by decide))) | exact congrArg (fun x => DV.v (.int .i64 x)) (up64 (show n1 < 20000 by omega) (by decide)) | rfl
      · cbv; try (subst hA; repeat' first | apply And.intro | exact True.intro | rfl | (intro _ _; rfl))
      · cbv; try (subst hA; repeat' first | apply And.intro | exact True.intro | rfl | exact .inr trivial)
    · rename_i hgk
      have hkn : k = nw := by have := ge_of hA hgk; omega
      refine ⟨⟨(i + 1, n1), by simp only; omega, ?_, fun h => by omega⟩, by simp only; omega, cov_of ?_ ?_ ?_⟩
      · simp only
        rw [pairsL_succ, hn1, hkn, hnw]
      · cbv
        subst hA
        repeat' first | apply And.intro | exact True.intro | exact congrArg (fun x => DV.v (.int .i64 x)) (up64 hh.1 hm) | rfl
      · cbv; try (subst hA; repeat' first | apply And.intro | exact True.intro | rfl | (intro _ _; rfl))
      · cbv; try (subst hA; repeat' first | apply And.intro | exact True.intro | rfl | exact .inr trivial)
  · rename_i hge
    have hge' := go_out hA hge
    have hnn : n = n0 := by
      by_cases hok : SpcOkP j m g
      · have hsp : spcL j m g = pairsL j g m := by unfold spcL; rw [if_pos hok]
        by_cases h0 : n0 = 0
        · have := hz h0
          subst this
          rw [hn, h0]; rfl
        · have : i = m := by omega
          subst this
          rw [hn, hn0, hsp]
      · have h0 : n0 = 0 := by rw [hn0]; unfold spcL; rw [if_neg hok]; rfl
        have := hz h0
        subst this
        rw [hn, h0]; rfl
    subst hnn
    repeat' first
      | apply And.intro
      | exact True.intro
      | with_reducible rfl
      | exact same_of hA rfl
      | refine br_of hA (fun _ => ?_) (fun _ => ?_)
      | exact imp_of hA id
      | (refine imp_of hA ?_; subst hA; simp only [real, Bool.true_and]; exact id)
      | (refine ind_of hA ?_; decide +kernel)
      | (refine call_of hA hM _ hFo ?_; cbv)
    subst hA
    exact congrArg (fun b => XA.one (.c (.d (eB b)))) (show (bif ((n : Int) == (n : Int)) then true else false) = true by simp)
theorem sh_u8 {m : Nat} {l : List DV} (h : Shows TT (m + 1) 5 l) : ∃ x : Int, (0 ≤ x ∧ x ≤ 255) ∧ l = [eU x] := by
  obtain ⟨x, h, hw⟩ := h
  have h2 : IntKind.u8.min ≤ x ∧ x ≤ IntKind.u8.max := (Go.Lit.wf_int_iff _ _).1 hw
  have e1 : IntKind.u8.min = 0 := by decide
  have e2 : IntKind.u8.max = 255 := by decide
  rw [e1, e2] at h2
  exact ⟨x, h2, h⟩
theorem sh_bytes {m : Nat} {l : List DV} (h : Shows TT (m + 2) 43 l) : ∃ (n : Nat) (b : Nat → Int), (∀ i, 0 ≤ b i ∧ b i ≤ 255) ∧ l = [.sl 1 n fun i => [eU (b i)]] := by
  obtain ⟨sz, n, row, rfl, hsz, hn, hr⟩ := h
  cases hsz
  have hrow : ∀ i, ∃ x : Int, (0 ≤ x ∧ x ≤ 255) ∧ row i = [eU x] := fun i => sh_u8 (hr i)
  obtain ⟨rd, hrd⟩ : ∃ rd : Nat → Int, ∀ i, (0 ≤ rd i ∧ rd i ≤ 255) ∧ row i = [eU (rd i)] := ⟨fun i => Classical.choose (hrow i), fun i => Classical.choose_spec (hrow i)⟩
  have e : row = fun i => [eU (rd i)] := funext fun i => (hrd i).2
  subst e
  exact ⟨n, rd, fun i => (hrd i).1, rfl⟩
theorem lawRow (ls : List (List DV)) (h : ShowsL TT 2 [43] ls) : Meets Try.prog 4 (xtsIn TT [43] ls) ⟨.one (.c (.d (.v (.bool true)))), [none]⟩ := by
  rcases ls with _ | ⟨l0, _ | ⟨l1, ls⟩⟩
  · exact h.elim
  · obtain ⟨n0, b0, hb0, rfl⟩ := sh_bytes h.1
    exact m_law n0 b0 hb0
  · exact h.2.elim
theorem own : ownKnob Try.prog.godebug = none := by kernel_rfl
theorem laidOut : laidOutB Try.prog = true := by kernel_rfl
set_option maxRecDepth 100000 in
theorem lifted (os : Os) (started : os.Started) (H : Type) (enc : TypeId × Value → H) :
    ReturnsInHanded {} Try.checked os 4 .any (Ytbkpfnddpnccmaa.Rows.fnSpcPairsSpec.pre6 enc Try.prog Try.f4 Ytbkpfnddpnccmaa.Rows.fnSpcPairsRow.domain false)
      (Ytbkpfnddpnccmaa.Rows.fnSpcPairsSpec.post enc Try.prog Try.f4 false true false false) := by
  refine returnsInHanded_of_change_sized (C := Try.checked) own started (by kernel_rfl) Try.func4
    (ChangeSpec.witness6 (enc := enc) (C := Try.checked) false ⟨#[], #[.slice none 0 0], []⟩ 8 (by kernel_rfl) (by kernel_rfl) (by kernel_rfl) (by kernel_rfl)) ?_
  intro W base args ds gs before hval0 hW hcnd hsz0 _
  refine law_contract (P := Try.prog) (T := TT) ttok (n := 2) (tb := 4) laidOut (by decide +kernel) (by kernel_rfl) rfl Try.underlying4 rfl ?_ ?_ W base args ds gs before hval0 hW
  · intro H ds hl
    match ds, hl with
    | [d0], _ => exact ⟨rfl, rfl, rfl⟩
  · rw [Try.params4]
    intro ls hls
    exact lawRow ls hls
theorem over : Ytbkpfnddpnccmaa.Rows.fnSpcPairsRow.holds Ytbkpfnddpnccmaa.Try.pinned (OpenSpec.ofChange Ytbkpfnddpnccmaa.Rows.fnSpcPairsSpec) :=
  OpenClaim.holds_of_wide 4 Try.f4 rfl rfl rfl rfl rfl rfl rfl ⟨rfl, rfl, rfl, rfl, rfl⟩ rfl rfl rfl rfl rfl (by kernel_rfl) Try.func4 (by kernel_rfl)
    (of_decide_eq_true (by kernel_rfl)) (by unfold Func.isWrapper; first | (rw [if_pos (by decide +kernel)]; kernel_rfl) | (rw [if_neg (by decide +kernel)]; exact ⟨rfl, rfl⟩))
    (fun os started H enc _ => lifted os started H enc)
end Go.Rk
namespace Go.Proofs.Ytbkpfnddpnccmaa
theorem fnSpcPairs_holds : Rows.FnSpcPairsSaid := Go.Rk.over
#print axioms fnSpcPairs_holds
end Go.Proofs.Ytbkpfnddpnccmaa
