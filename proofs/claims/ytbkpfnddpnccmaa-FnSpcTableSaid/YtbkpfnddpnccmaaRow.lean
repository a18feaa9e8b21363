/- The walk over this seat's functions, part 5: what each of them answers, at all data. -/
import Derived.Test.YtbkpfnddpnccmaaM1
import Derived.Test.YtbkpfnddpnccmaaM2
import Derived.Test.YtbkpfnddpnccmaaM3
import Derived.Test.YtbkpfnddpnccmaaM4
import Derived.Test.YtbkpfnddpnccmaaRows
import Derived.WalkKit
import Derived.ProofKit
import Derived.OpenShut
import Derived.ShutString
import Derived.ChangeOld
import Derived.SizedLaws
import Derived.DataShut
/- FnSpcTable answers true at every input, and its input reads as before: no condition. -/
namespace Go.Rk
set_option linter.unusedSimpArgs false
set_option linter.unusedVariables false
open Go.Proofs Go.ChangeShapes Go.WideShapes Go.ChangeAt Go.RowKit
set_option maxRecDepth 100000
set_option maxHeartbeats 1000000
def st_to (j : JobT) (m : Nat) (g : Nat → ItmT) (n0 : Nat) (G : Nat → TabT) (i : Nat) : St := ⟨[(6, .c (.d (eI (i : Int)))), (5, .c (.d (.sl 7 n0 fun i => eTab (G i)))), (4, .c (.d (.sl 5 m fun i => eItm (g i)))), (3, .c (.bp 192 1 0))], [(192, 1, .box ((eJob j).map .d))]⟩
def st_t1 (j : JobT) (m : Nat) (g : Nat → ItmT) (n0 : Nat) (G : Nat → TabT) (i k : Nat) (a : AggT) : St := ⟨[(9, .c (.d (eI (k : Int)))), (8, .c (.bp 512 1 0)), (7, .c (.bp 448 1 0)), (6, .c (.d (eI (i : Int)))), (5, .c (.d (.sl 7 n0 fun i => eTab (G i)))), (4, .c (.d (.sl 5 m fun i => eItm (g i)))), (3, .c (.bp 192 1 0))], [(512, 1, .box ((eAgg a).map .d)), (448, 1, .box ((eTab (G i)).map .d)), (192, 1, .box ((eJob j).map .d))]⟩
def st_t2 (j : JobT) (m : Nat) (g : Nat → ItmT) (n0 : Nat) (G : Nat → TabT) (i k : Nat) : St := ⟨[(10, .c (.d (eI (k : Int)))), (7, .c (.bp 448 1 0)), (6, .c (.d (eI (i : Int)))), (5, .c (.d (.sl 7 n0 fun i => eTab (G i)))), (4, .c (.d (.sl 5 m fun i => eItm (g i)))), (3, .c (.bp 192 1 0))], [(448, 1, .box ((eTab (G i)).map .d)), (192, 1, .box ((eJob j).map .d))]⟩
theorem m_law (M0 : Nat) (b : Nat → Int) (hb : ∀ i, 0 ≤ b i ∧ b i ≤ 255) : Meets Try.prog 13 [.c (.d (.sl 1 M0 fun i => [eU (b i)]))] ⟨.one (.c (.d (eB true))), [none]⟩ := by
  obtain ⟨j, m, g, hm15, hD⟩ := c_drawT M0 b hb
  have hm : m ≤ maxLen := Nat.le_trans hm15 (by decide)
  obtain ⟨n0, G, h0⟩ := lst_ex zTab (spcT j.kind (spcL j m g))
  have hn0 : n0 ≤ 12000 := by
    rw [h0.1]
    have h2 := fold_len (stepS_len j.kind) (spcL j m g) []
    have h3 := spcL_len j m g
    simp only [List.length_nil] at h2
    exact Nat.le_trans h2 (by omega)
  have hnL : n0 ≤ maxLen := Nat.le_trans hn0 (by decide)
  have hI := meets_frz (c_SpcT j m hm g n0 G h0) rfl
  have hS := meets_frz (c_sSpcT j m hm g n0 G h0) rfl
  have hFr := c_frTab n0 hnL G
  have hFo := c_frOk
  obtain ⟨c, hc⟩ : ∃ c, c = tCnt (spcT j.kind (spcL j m g)) := ⟨_, rfl⟩
  have hC := c_TabCount _ n0 G h0 (by omega) (fun i _ => by have := spcT_tk (j := j) (m := m) (g := g) i; omega) c hc
  obtain ⟨np, gp, hl⟩ := lst_ex zLat (spcL j m g)
  have hnp : (np : Int) = c := by rw [hc, spcT_cnt (fine_spc j m g), hl.1]
  have hPa := meets_frz (c_Spc j m hm g np gp (lst_tells eLat hl)) rfl
  refine meets_of (H := []) (EX := EXA) ttok mixed Try.func13 rfl (by kernel_rfl) (by decide) ?_
  generalize hA : real = A
  generalize hM : Meets Try.prog = M
  cbv
  repeat' first
    | (refine br_f hA ?_ ?_; focus (subst hA; simp [real]; done))
    | apply And.intro
    | exact True.intro
    | with_reducible rfl
    | exact same_of hA rfl
    | refine br_of hA (fun _ => ?_) (fun _ => ?_)
    | exact imp_of hA id
    | (refine imp_of hA ?_; subst hA; simp only [real, Bool.true_and]; exact id)
    | (refine ind_of hA ?_; decide +kernel)
    | (refine call_of hA hM _ hD ?_; cbv)
    | (refine call_of hA hM _ hI ?_; cbv)
    | (refine call_of hA hM _ hS ?_; cbv)
    | (refine call_of hA hM _ hFr ?_; cbv)
    | (refine call_of hA hM _ hC ?_; cbv)
    | (refine call_of hA hM _ hPa ?_; cbv)
    | (refine call_of hA hM _ hFo ?_; cbv)
    | exact flat_tab hA _ _
    | exact flatI hA _ _
    | (refine inb_lt hA ?_; first | exact lt2_of hA (by assumption) | exact lt_of hA (by assumption))
  · exfalso
    rename_i h
    subst hA
    have h : (!decide (c = ((np : Nat) : Int))) = false → False := fun h' => by simp_all [real]
    simp_all [real]
  refine loop_of hA (α := { i : Nat // i ≤ n0 }) (fun y => st_to j m g n0 G y.1) (fun y => n0 - y.1) ⟨0, Nat.zero_le _⟩ ?_ ?_
  · refine cov_of ?_ ?_ ?_
    · cbv; try (subst hA; repeat' first | apply And.intro | exact True.intro | rfl | fail)
    · cbv; try (subst hA; repeat' first | apply And.intro | exact True.intro | rfl | (intro _ _; rfl) | (intro k hk; exact absurd hk (Nat.not_lt_zero k)) | fail)
    · cbv; try (subst hA; repeat' first | apply And.intro | exact True.intro | rfl | exact .inr trivial | exact .inl trivial)
  rintro ⟨i, hi⟩
  cbv
  repeat' first
    | (refine br_f hA ?_ ?_; focus (subst hA; simp [real]; done))
    | apply And.intro
    | exact True.intro
    | with_reducible rfl
    | exact same_of hA rfl
    | refine br_of hA (fun _ => ?_) (fun _ => ?_)
    | exact imp_of hA id
    | (refine imp_of hA ?_; subst hA; simp only [real, Bool.true_and]; exact id)
    | (refine ind_of hA ?_; decide +kernel)
    | (refine call_of hA hM _ hD ?_; cbv)
    | (refine call_of hA hM _ hI ?_; cbv)
    | (refine call_of hA hM _ hS ?_; cbv)
    | (refine call_of hA hM _ hFr ?_; cbv)
    | (refine call_of hA hM _ hC ?_; cbv)
    | (refine call_of hA hM _ hPa ?_; cbv)
    | (refine call_of hA hM _ hFo ?_; cbv)
    | exact flat_tab hA _ _
    | exact flatI hA _ _
    | (refine inb_lt hA ?_; first | exact lt2_of hA (by assumption) | exact lt_of hA (by assumption))
  · rename_i hlt
    have hi2 : i < n0 := by first | exact lt2_of hA hlt | exact lt_of hA hlt
    have hmem := lst_in h0 hi2
    obtain ⟨hok, hsp⟩ := spcL_ok hmem
    have hmem2 := hmem
    rw [hsp] at hmem2
    have hrf := row_facts hok hmem2
    have hra := row_agg hok hmem2
    refine loop_of hA (α := { q : Nat × AggT // q.1 ≤ m ∧ q.2 = aggF (valsR (G i) ((gl m g).take q.1)) }) (fun y => st_t1 j m g n0 G i y.1.1 y.1.2) (fun y => m - y.1.1) ⟨(0, zAgg), Nat.zero_le _, rfl⟩ ?_ ?_
    · refine cov_of ?_ ?_ ?_
      · cbv; try (subst hA; repeat' first | apply And.intro | exact True.intro | rfl | fail)
      · cbv; try (subst hA; repeat' first | apply And.intro | exact True.intro | rfl | (intro _ _; rfl) | (intro k hk; exact absurd hk (Nat.not_lt_zero k)) | fail)
      · cbv; try (subst hA; repeat' first | apply And.intro | exact True.intro | rfl | exact .inr trivial | exact .inl trivial)
    rintro ⟨⟨k, a⟩, hk, ha⟩
    have hk : k ≤ m := hk
    have ha : a = aggF (valsR (G i) ((gl m g).take k)) := ha
    obtain ⟨a', ha'⟩ : ∃ z, z = aggAdd a (g k).v := ⟨_, rfl⟩
    have cA := c_AggAdd a (g k).v a' ha'
    have hstep : k < m → aggF (valsR (G i) ((gl m g).take (k + 1))) = if inR (G i) (g k) = true then a' else a := fun h => by
      rw [lst_take (gl_lst m g) h, valsR_snoc]
      split
      · rw [aggF_snoc, ← ha, ha']
      · rw [List.append_nil, ← ha]
    cbv
    repeat' first
      | apply And.intro
      | exact True.intro
      | with_reducible rfl
      | exact same_of hA rfl
      | refine br_of hA (fun _ => ?_) (fun _ => ?_)
      | exact imp_of hA id
      | (refine imp_of hA ?_; subst hA; simp only [real, Bool.true_and]; exact id)
      | (refine ind_of hA ?_; decide +kernel)
      | (refine call_of hA hM _ hFo ?_; cbv)
      | (refine call_ex hA hM (c_WinOk _ _) (fun _ _ => ?_); cbv)
      | exact flat_tab hA _ _
      | exact flatI hA _ _
      | (refine inb_lt hA ?_; first | exact lt2_of hA (by assumption) | exact lt_of hA (by assumption))
      | (refine call_of2 hA hM _ cA (by (subst hA; first | rfl | (simp only [sub0r]; try rfl))) ?_; cbv)
    · rename_i hlt2 hc
      have hk2 : k < m := by first | exact lt2_of hA hlt2 | exact lt_of hA hlt2
      have hin : inR (G i) (g k) = true := by
        subst hA
        have hc : (bif (bif ((g k).key == (G i).key) then decide ((g k).t ≥ (G i).win.s) else false) then decide ((g k).t < (G i).win.e) else false) = true := hc
        simp only [bifA, Bool.and_eq_true, beq_iff_eq, decide_eq_true_eq] at hc
        exact decide_eq_true ⟨hc.1.1, hc.1.2, hc.2⟩
      refine ⟨⟨(k + 1, a'), hk2, by simp only; rw [hstep hk2, if_pos hin]⟩, by simp only; omega, cov_of ?_ ?_ ?_⟩
      · cbv; subst hA; repeat' first | apply And.intro | exact True.intro | exact congrArg (fun x => DV.v (.int .i64 x)) (up64 hk2 hm) | rfl
      · cbv; try (subst hA; repeat' first | apply And.intro | exact True.intro | rfl)
      · cbv; try (subst hA; repeat' first | apply And.intro | exact True.intro | rfl | exact .inr trivial | exact .inl trivial)
    · rename_i hlt2 hc
      have hk2 : k < m := by first | exact lt2_of hA hlt2 | exact lt_of hA hlt2
      have hin : ¬ inR (G i) (g k) = true := by
        subst hA
        have hc : (bif (bif ((g k).key == (G i).key) then decide ((g k).t ≥ (G i).win.s) else false) then decide ((g k).t < (G i).win.e) else false) = false := hc
        intro h
        have h := of_decide_eq_true h
        have h1 : ((g k).key == (G i).key) = true := beq_iff_eq.2 h.1
        rw [h1, decide_eq_true h.2.1, decide_eq_true h.2.2] at hc
        cases hc
      refine ⟨⟨(k + 1, a), hk2, by simp only; rw [hstep hk2, if_neg hin]⟩, by simp only; omega, cov_of ?_ ?_ ?_⟩
      · cbv; subst hA; repeat' first | apply And.intro | exact True.intro | exact congrArg (fun x => DV.v (.int .i64 x)) (up64 hk2 hm) | rfl
      · cbv; try (subst hA; repeat' first | apply And.intro | exact True.intro | rfl)
      · cbv; try (subst hA; repeat' first | apply And.intro | exact True.intro | rfl | exact .inr trivial | exact .inl trivial)
    all_goals have hge2 : k = m := by first | (have := ge2_of hA (by assumption); omega) | (have := ge_of hA (by assumption); omega)
    all_goals have ea : a = (G i).agg := by rw [ha, hge2, lst_all (gl_lst m g)]; exact hra
    iterate 3
      · refine inb_of hA (fun hg => ?_)
        subst hA
        simp only [real, Bool.and_eq_true, decide_eq_true_eq, Int.ofNat_eq_natCast] at hg
        have hpos : (i : Int) > 0 := by first | exact hg.2 | exact hg.1.2 | exact hg.1.1.2
        show 0 ≤ IntKind.i64.wrap ((i : Int) - 1) ∧ IntKind.i64.wrap ((i : Int) - 1) < (n0 : Int)
        rw [IntWalk.i64_in _ (by omega)]
        omega
    · exfalso
      rename_i bw hbw h
      subst hA
      have hbt : bw = true := by
        have hbw : bw = decide ((0 ≤ (G i).win.s ∧ (G i).win.s ≤ 60) ∧ IntKind.i64.wrap ((G i).win.s + 1) ≤ (G i).win.e ∧ (G i).win.e ≤ 120) := hbw
        rw [hbw, decide_eq_true_eq, IntWalk.i64_in _ (by have := hrf.low; omega)]
        have := hrf.low
        have := hrf.len
        omega
      subst hbt
      subst ea
      by_cases hi0 : i = 0
      · subst hi0
        simp [real] at h
      · have e1 : (IntKind.i64.wrap (Int.ofNat i - 1)).toNat = i - 1 := by rw [IntWalk.i64_in _ (by simp only [Int.ofNat_eq_natCast]; omega)]; simp only [Int.ofNat_eq_natCast]; omega
        have hah := rise_at h0 (spcT_rise (fine_spc j m g)) (show i - 1 < i by omega) hi2
        have hmp := lst_in h0 (show i - 1 < n0 by omega)
        rw [hsp] at hmp
        have hfp := (row_facts hok hmp).fix
        have hfi := hrf.fix
        simp only [real, e1] at h
        simp at h
        unfold Ahead at hah
        obtain ⟨j1, j2, jk, j4, j5, j6, j7, j8, j9, j10⟩ := j
        revert h hah hfp hfi
        generalize G (i - 1) = rp
        generalize G i = ri
        obtain ⟨pk, ⟨ps, pe⟩, pa⟩ := rp
        obtain ⟨qk, ⟨qs, qe⟩, qa⟩ := ri
        intro h hah hfp hfi
        simp only at h hah hfp hfi
        omega
    · have T2 : j.kind = 3 → ∀ k, k < i → ¬ ((G k).key = (G i).key ∧ (G k).win.s < (G i).win.e ∧ (G i).win.s < (G k).win.e) := fun hk3 q hq hcon => by
        have hah := rise_at h0 (spcT_rise (fine_spc j m g)) hq hi2
        have hmq := lst_in h0 (show q < n0 by omega)
        rw [hsp, hk3] at hmq
        rw [hk3] at hmem2
        have := sess_same (spcT_S (fine_pairs hok)) hmq hmem2 hcon.1 hcon.2.1 hcon.2.2
        rw [this] at hah
        exact ahead_irr _ hah
      refine loop_of hA (α := { q : Nat // q ≤ i }) (fun y => st_t2 j m g n0 G i y.1) (fun y => i - y.1) ⟨0, Nat.zero_le _⟩ ?_ ?_
      · refine cov_of ?_ ?_ ?_
        · cbv; try (subst hA; repeat' first | apply And.intro | exact True.intro | rfl | fail)
        · cbv; try (subst hA; repeat' first | apply And.intro | exact True.intro | rfl | (intro _ _; rfl) | (intro k hk; exact absurd hk (Nat.not_lt_zero k)) | fail)
        · cbv; try (subst hA; repeat' first | apply And.intro | exact True.intro | rfl | exact .inr trivial | exact .inl trivial)
      rintro ⟨k2, hk2⟩
      cbv
      repeat' first
        | apply And.intro
        | exact True.intro
        | with_reducible rfl
        | exact same_of hA rfl
        | refine br_of hA (fun _ => ?_) (fun _ => ?_)
        | exact imp_of hA id
        | (refine imp_of hA ?_; subst hA; simp only [real, Bool.true_and]; exact id)
        | (refine ind_of hA ?_; decide +kernel)
        | (refine call_of hA hM _ hFo ?_; cbv)
        | (refine call_ex hA hM (c_WinTouch _ _ _ _) (fun _ _ => ?_); cbv)
        | (refine inb_of hA (fun _ => ?_); have hx : (A.bite (A.cmp .lss (Int.ofNat k2) (Int.ofNat i)) (A.cmp .eql j.kind 3) false) = true := (by assumption); subst hA; simp only [real, bifA, Bool.and_eq_true, decide_eq_true_eq, Int.ofNat_eq_natCast] at hx; exact ⟨Int.natCast_nonneg k2, by show (k2 : Int) < (n0 : Int); omega⟩)
      · exfalso
        rename_i hc1 b2 hb2 hc
        subst hA
        simp only [real, bifA, Bool.and_eq_true, decide_eq_true_eq, Int.ofNat_eq_natCast, beq_iff_eq] at hc1
        have hb2 : b2 = decide ((G k2).win.s < (G i).win.e ∧ (G i).win.s < (G k2).win.e) := hb2
        have hc : (bif ((G k2).key == (G i).key) then b2 else false) = true := hc
        rw [bifA, Bool.and_eq_true, hb2, decide_eq_true_eq, beq_iff_eq] at hc
        exact T2 hc1.2 k2 (by omega) ⟨hc.1, hc.2.1, hc.2.2⟩
      · rename_i hc1 b2 hb2 hc
        have hki : k2 < i := by
          subst hA
          simp only [real, bifA, Bool.and_eq_true, decide_eq_true_eq, Int.ofNat_eq_natCast, beq_iff_eq] at hc1
          omega
        refine ⟨⟨k2 + 1, hki⟩, by simp only; omega, cov_of ?_ ?_ ?_⟩
        · cbv; subst hA; repeat' first | apply And.intro | exact True.intro | exact congrArg (fun x => DV.v (.int .i64 x)) (up64 hki (Nat.le_trans hi hnL)) | rfl
        · cbv; try (subst hA; repeat' first | apply And.intro | exact True.intro | rfl)
        · cbv; try (subst hA; repeat' first | apply And.intro | exact True.intro | rfl | exact .inr trivial | exact .inl trivial)
      · refine ⟨⟨i + 1, hi2⟩, by simp only; omega, cov_of ?_ ?_ ?_⟩
        · cbv; subst hA; repeat' first | apply And.intro | exact True.intro | exact congrArg (fun x => DV.v (.int .i64 x)) (up64 hi2 hnL) | rfl
        · cbv; try (subst hA; repeat' first | apply And.intro | exact True.intro | rfl)
        · cbv; try (subst hA; repeat' first | apply And.intro | exact True.intro | rfl | exact .inr trivial | exact .inl trivial)
  all_goals first | rfl | (subst hA; rfl)
theorem sh_u8 {m : Nat} {l : List DV} (h : Shows TT (m + 1) 5 l) : ∃ x : Int, (0 ≤ x ∧ x ≤ 255) ∧ l = [eU x] := by
  obtain ⟨x, h, hw⟩ := h
  have h2 : IntKind.u8.min ≤ x ∧ x ≤ IntKind.u8.max := (Go.Lit.wf_int_iff _ _).1 hw
  have e1 : IntKind.u8.min = 0 := by decide
  have e2 : IntKind.u8.max = 255 := by decide
  rw [e1, e2] at h2
  exact ⟨x, h2, h⟩
theorem sh_bytes {m : Nat} {l : List DV} (h : Shows TT (m + 2) 43 l) : ∃ (n : Nat) (b : Nat → Int), (∀ i, 0 ≤ b i ∧ b i ≤ 255) ∧ l = [.sl 1 n fun i => [eU (b i)]] := by
  obtain ⟨sz, n, row, rfl, hsz, hn, hr⟩ := h
  cases hsz
  have hrow : ∀ i, ∃ x : Int, (0 ≤ x ∧ x ≤ 255) ∧ row i = [eU x] := fun i => sh_u8 (hr i)
  obtain ⟨rd, hrd⟩ : ∃ rd : Nat → Int, ∀ i, (0 ≤ rd i ∧ rd i ≤ 255) ∧ row i = [eU (rd i)] := ⟨fun i => Classical.choose (hrow i), fun i => Classical.choose_spec (hrow i)⟩
  have e : row = fun i => [eU (rd i)] := funext fun i => (hrd i).2
  subst e
  exact ⟨n, rd, fun i => (hrd i).1, rfl⟩
theorem lawRow (ls : List (List DV)) (h : ShowsL TT 2 [43] ls) : Meets Try.prog 13 (xtsIn TT [43] ls) ⟨.one (.c (.d (.v (.bool true)))), [none]⟩ := by
  rcases ls with _ | ⟨l0, _ | ⟨l1, ls⟩⟩
  · exact h.elim
  · obtain ⟨n0, b0, hb0, rfl⟩ := sh_bytes h.1
    exact m_law n0 b0 hb0
  · exact h.2.elim
theorem own : ownKnob Try.prog.godebug = none := by kernel_rfl
theorem laidOut : laidOutB Try.prog = true := by kernel_rfl
set_option maxRecDepth 100000 in
theorem lifted (os : Os) (started : os.Started) (H : Type) (enc : TypeId × Value → H) :
    ReturnsInHanded {} Try.checked os 13 .any (Ytbkpfnddpnccmaa.Rows.fnSpcTableSpec.pre6 enc Try.prog Try.f13 Ytbkpfnddpnccmaa.Rows.fnSpcTableRow.domain false)
      (Ytbkpfnddpnccmaa.Rows.fnSpcTableSpec.post enc Try.prog Try.f13 false true false false) := by
  refine returnsInHanded_of_change_sized (C := Try.checked) own started (by kernel_rfl) Try.func13
    (ChangeSpec.witness6 (enc := enc) (C := Try.checked) false ⟨#[], #[.slice none 0 0], []⟩ 8 (by kernel_rfl) (by kernel_rfl) (by kernel_rfl) (by kernel_rfl)) ?_
  intro W base args ds gs before hval0 hW hcnd hsz0 _
  refine law_contract (P := Try.prog) (T := TT) ttok (n := 2) (tb := 4) laidOut (by decide +kernel) (by kernel_rfl) rfl Try.underlying4 rfl ?_ ?_ W base args ds gs before hval0 hW
  · intro H ds hl
    match ds, hl with
    | [d0], _ => exact ⟨rfl, rfl, rfl⟩
  · rw [Try.params13]
    intro ls hls
    exact lawRow ls hls
theorem over : Ytbkpfnddpnccmaa.Rows.fnSpcTableRow.holds Ytbkpfnddpnccmaa.Try.pinned (OpenSpec.ofChange Ytbkpfnddpnccmaa.Rows.fnSpcTableSpec) :=
  OpenClaim.holds_of_wide 13 Try.f13 rfl rfl rfl rfl rfl rfl rfl ⟨rfl, rfl, rfl, rfl, rfl⟩ rfl rfl rfl rfl rfl (by kernel_rfl) Try.func13 (by kernel_rfl)
    (of_decide_eq_true (by kernel_rfl)) (by unfold Func.isWrapper; first | (rw [if_pos (by decide +kernel)]; kernel_rfl) | (rw [if_neg (by decide +kernel)]; exact ⟨rfl, rfl⟩))
    (fun os started H enc _ => lifted os started H enc)
end Go.Rk
namespace Go.Proofs.Ytbkpfnddpnccmaa
theorem fnSpcTable_holds : Rows.FnSpcTableSaid := Go.Rk.over
#print axioms fnSpcTable_holds
end Go.Proofs.Ytbkpfnddpnccmaa
