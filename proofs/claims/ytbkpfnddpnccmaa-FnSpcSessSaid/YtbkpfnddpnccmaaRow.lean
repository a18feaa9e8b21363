/- The walk over this seat's functions, part 5: what each of them answers, at all data. -/
import Derived.Test.YtbkpfnddpnccmaaM1
import Derived.Test.YtbkpfnddpnccmaaM2
import Derived.Test.YtbkpfnddpnccmaaM3
import Derived.Test.YtbkpfnddpnccmaaM4
import Derived.Test.YtbkpfnddpnccmaaRows
import Derived.WalkKit
import Derived.ProofKit
import Derived.OpenShut
import Derived.ShutString
import Derived.ChangeOld
import Derived.SizedLaws
import Derived.DataShut
/- FnSpcSess answers true at every input, and its input reads as before: no condition. -/
namespace Go.Rk
set_option linter.unusedSimpArgs false
set_option linter.unusedVariables false
open Go.Proofs Go.ChangeShapes Go.WideShapes Go.ChangeAt Go.RowKit
set_option maxRecDepth 100000
set_option maxHeartbeats 1000000
def st_s0 (j : JobT) (m : Nat) (g : Nat → ItmT) (n0 : Nat) (G : Nat → TabT) (i : Nat) : St := ⟨[(6, .c (.d (eI (i : Int)))), (5, .c (.d (.sl 7 n0 fun i => eTab (G i)))), (4, .c (.d (.sl 5 m fun i => eItm (g i)))), (3, .c (.bp 192 1 0))], [(192, 1, .box ((eJob j).map .d))]⟩
def st_s1 (j : JobT) (m : Nat) (g : Nat → ItmT) (n0 : Nat) (G : Nat → TabT) (i : Nat) (c : Nat) (t : Int) : St := ⟨[(9, .c (.d (eI (c : Int)))), (8, .c (.d (eI t))), (7, .c (.bp 448 1 0)), (6, .c (.d (eI (i : Int)))), (5, .c (.d (.sl 7 n0 fun i => eTab (G i)))), (4, .c (.d (.sl 5 m fun i => eItm (g i)))), (3, .c (.bp 192 1 0))], [(448, 1, .box ((eWin (G i).win).map .d)), (192, 1, .box ((eJob j).map .d))]⟩
def st_s2 (j : JobT) (m : Nat) (g : Nat → ItmT) (n0 : Nat) (G : Nat → TabT) (i : Nat) (c : Nat) (t : Int) (k : Nat) (v : Int) : St := ⟨[(11, .c (.d (eI (k : Int)))), (10, .c (.d (eI v))), (9, .c (.d (eI (c : Int)))), (8, .c (.d (eI t))), (7, .c (.bp 448 1 0)), (6, .c (.d (eI (i : Int)))), (5, .c (.d (.sl 7 n0 fun i => eTab (G i)))), (4, .c (.d (.sl 5 m fun i => eItm (g i)))), (3, .c (.bp 192 1 0))], [(448, 1, .box ((eWin (G i).win).map .d)), (192, 1, .box ((eJob j).map .d))]⟩
def st_s3 (j : JobT) (m : Nat) (g : Nat → ItmT) (n0 : Nat) (G : Nat → TabT) (i : Nat) (t : Int) (k : Nat) (f : Bool) : St := ⟨[(13, .c (.d (eI (k : Int)))), (12, .c (.d (eB f))), (8, .c (.d (eI t))), (7, .c (.bp 448 1 0)), (6, .c (.d (eI (i : Int)))), (5, .c (.d (.sl 7 n0 fun i => eTab (G i)))), (4, .c (.d (.sl 5 m fun i => eItm (g i)))), (3, .c (.bp 192 1 0))], [(448, 1, .box ((eWin (G i).win).map .d)), (192, 1, .box ((eJob j).map .d))]⟩
theorem m_law (M0 : Nat) (b : Nat → Int) (hb : ∀ i, 0 ≤ b i ∧ b i ≤ 255) : Meets Try.prog 10 [.c (.d (.sl 1 M0 fun i => [eU (b i)]))] ⟨.one (.c (.d (eB true))), [none]⟩ := by
  obtain ⟨jd, m, g, hm15, hD⟩ := c_drawT M0 b hb
  obtain ⟨j, hj⟩ : ∃ j : JobT, j = ⟨jd.srcs, jd.tsks, 3, jd.size, 0, jd.late, jd.tell, jd.piece, jd.least, jd.room⟩ := ⟨_, rfl⟩
  have hk3 : j.kind = 3 := by rw [hj]
  have hm : m ≤ maxLen := Nat.le_trans hm15 (by decide)
  obtain ⟨n0, G, h0⟩ := lst_ex zTab (spcT j.kind (spcL j m g))
  have hn0 : n0 ≤ 12000 := by
    rw [h0.1]
    have h2 := fold_len (stepS_len j.kind) (spcL j m g) []
    have h3 := spcL_len j m g
    simp only [List.length_nil] at h2
    exact Nat.le_trans h2 (by omega)
  have hnL : n0 ≤ maxLen := Nat.le_trans hn0 (by decide)
  have hI := meets_frz (c_SpcT j m hm g n0 G h0) rfl
  have hS := meets_frz (c_sSpcT j m hm g n0 G h0) rfl
  have hFr := c_frTab n0 hnL G
  have hFo := c_frOk
  refine meets_of (H := [6]) (EX := EXA) ttok mixed Try.func10 rfl (by kernel_rfl) (by decide) ?_
  generalize hA : real = A
  generalize hM : Meets Try.prog = M
  cbv
  repeat' first
    | (refine br_f hA ?_ ?_; focus (subst hA; simp [real]; done))
    | apply And.intro
    | exact True.intro
    | with_reducible rfl
    | exact same_of hA rfl
    | refine br_of hA (fun _ => ?_) (fun _ => ?_)
    | exact imp_of hA id
    | (refine imp_of hA ?_; subst hA; simp only [real, Bool.true_and]; exact id)
    | (refine ind_of hA ?_; decide +kernel)
    | (refine call_of hA hM _ hD ?_; cbv)
    | (refine call_of hA hM _ hI ?_; cbv)
    | (refine call_of hA hM _ hS ?_; cbv)
    | (refine call_of hA hM _ hFr ?_; cbv)
    | (refine call_of hA hM _ hFo ?_; cbv)
    | exact flat_tab hA _ _
    | exact flatI hA _ _
    | (refine inb_lt hA ?_; first | exact lt2_of hA (by assumption) | exact lt_of hA (by assumption))
  refine stop_of hA ⟨[(4, .c (.d (.sl 5 m fun i => eItm (g i)))), (3, .c (.bp 192 1 0))], [(192, 1, .box ((eJob j).map .d))]⟩ (cov_of ?_ ?_ ?_) ?_
  · cbv; try (subst hA; repeat' first | apply And.intro | exact True.intro | rfl)
  · rw [hj]; cbv; try (subst hA; repeat' first | apply And.intro | exact True.intro | rfl)
  · cbv; try (subst hA; repeat' first | apply And.intro | exact True.intro | rfl | exact .inr trivial)
  cbv
  repeat' first
    | (refine br_f hA ?_ ?_; focus (subst hA; simp [real]; done))
    | apply And.intro
    | exact True.intro
    | with_reducible rfl
    | exact same_of hA rfl
    | refine br_of hA (fun _ => ?_) (fun _ => ?_)
    | exact imp_of hA id
    | (refine imp_of hA ?_; subst hA; simp only [real, Bool.true_and]; exact id)
    | (refine ind_of hA ?_; decide +kernel)
    | (refine call_of hA hM _ hD ?_; cbv)
    | (refine call_of hA hM _ hI ?_; cbv)
    | (refine call_of hA hM _ hS ?_; cbv)
    | (refine call_of hA hM _ hFr ?_; cbv)
    | (refine call_of hA hM _ hFo ?_; cbv)
    | exact flat_tab hA _ _
    | exact flatI hA _ _
    | (refine inb_lt hA ?_; first | exact lt2_of hA (by assumption) | exact lt_of hA (by assumption))
  refine loop_of hA (α := { i : Nat // i ≤ n0 }) (fun y => st_s0 j m g n0 G y.1) (fun y => n0 - y.1) ⟨0, Nat.zero_le _⟩ ?_ ?_
  · refine cov_of ?_ ?_ ?_
    · cbv; try (subst hA; repeat' first | apply And.intro | exact True.intro | rfl | fail)
    · cbv; try (subst hA; repeat' first | apply And.intro | exact True.intro | rfl | (intro _ _; rfl) | (intro k hk; exact absurd hk (Nat.not_lt_zero k)) | fail)
    · cbv; try (subst hA; repeat' first | apply And.intro | exact True.intro | rfl | exact .inr trivial | exact .inl trivial)
  rintro ⟨i, hi⟩
  cbv
  repeat' first
    | (refine br_f hA ?_ ?_; focus (subst hA; simp [real]; done))
    | apply And.intro
    | exact True.intro
    | with_reducible rfl
    | exact same_of hA rfl
    | refine br_of hA (fun _ => ?_) (fun _ => ?_)
    | exact imp_of hA id
    | (refine imp_of hA ?_; subst hA; simp only [real, Bool.true_and]; exact id)
    | (refine ind_of hA ?_; decide +kernel)
    | (refine call_of hA hM _ hD ?_; cbv)
    | (refine call_of hA hM _ hI ?_; cbv)
    | (refine call_of hA hM _ hS ?_; cbv)
    | (refine call_of hA hM _ hFr ?_; cbv)
    | (refine call_of hA hM _ hFo ?_; cbv)
    | exact flat_tab hA _ _
    | exact flatI hA _ _
    | (refine inb_lt hA ?_; first | exact lt2_of hA (by assumption) | exact lt_of hA (by assumption))
  rename_i hlt
  have hi2 : i < n0 := by first | exact lt2_of hA hlt | exact lt_of hA hlt
  have hmem := lst_in h0 hi2
  obtain ⟨hok, hsp⟩ := spcL_ok hmem
  have hmem2 := hmem
  rw [hsp] at hmem2
  have hrf := row_facts hok hmem2
  have hsf := sess_facts hok hk3 hmem2
  have hsz := hok.1.2.2.2.1
  have hlen : (gl m g).length = m := by simp [gl]
  obtain ⟨K, hK⟩ : ∃ K, K = (G i).key := ⟨_, rfl⟩
  obtain ⟨S, hS'⟩ : ∃ S, S = (G i).win.s := ⟨_, rfl⟩
  obtain ⟨E, hE⟩ : ∃ E, E = (G i).win.e := ⟨_, rfl⟩
  have hSE : 0 ≤ S ∧ S ≤ 60 ∧ S < E ∧ E ≤ 80 := by have := hrf.low; have := hrf.len; omega
  obtain ⟨f1, f2, f3⟩ := hsf
  rw [← hK, ← hS'] at f1
  rw [← hK, ← hS', ← hE] at f2 f3
  refine loop_of hA (α := { q : Nat × Int // q.1 ≤ m ∧ (∃ x, x ∈ gl m g ∧ x.key = K ∧ x.t = q.2) ∧ S ≤ q.2 ∧ q.2 < E ∧ behind K q.2 E (gl m g) + q.1 ≤ m }) (fun y => st_s1 j m g n0 G i y.1.1 y.1.2) (fun y => m - y.1.1) ⟨(0, S), Nat.zero_le _, f1, Int.le_refl _, hSE.2.2.1, by have := behind_le K S E (gl m g); simp only; omega⟩ ?_ ?_
  · refine cov_of ?_ ?_ ?_
    · cbv; subst hA; repeat' first | apply And.intro | exact True.intro | exact congrArg (fun x => DV.v (.int .i64 x)) hS'.symm | rfl
    · cbv; try (subst hA; repeat' first | apply And.intro | exact True.intro | rfl)
    · cbv; try (subst hA; repeat' first | apply And.intro | exact True.intro | rfl | exact .inr trivial)
  rintro ⟨⟨c, t⟩, hc, hx, ht1, ht2, hbh⟩
  have hc : c ≤ m := hc
  have hx : ∃ x, x ∈ gl m g ∧ x.key = K ∧ x.t = t := hx
  have ht1 : S ≤ t := ht1
  have ht2 : t < E := ht2
  have hbh : behind K t E (gl m g) + c ≤ m := hbh
  cbv
  repeat' first
    | (refine br_f hA ?_ ?_; focus (subst hA; simp [real]; done))
    | apply And.intro
    | exact True.intro
    | with_reducible rfl
    | exact same_of hA rfl
    | refine br_of hA (fun _ => ?_) (fun _ => ?_)
    | exact imp_of hA id
    | (refine imp_of hA ?_; subst hA; simp only [real, Bool.true_and]; exact id)
    | (refine ind_of hA ?_; decide +kernel)
    | (refine call_of hA hM _ hD ?_; cbv)
    | (refine call_of hA hM _ hI ?_; cbv)
    | (refine call_of hA hM _ hS ?_; cbv)
    | (refine call_of hA hM _ hFr ?_; cbv)
    | (refine call_of hA hM _ hFo ?_; cbv)
    | exact flat_tab hA _ _
    | exact flatI hA _ _
    | (refine inb_lt hA ?_; first | exact lt2_of hA (by assumption) | exact lt_of hA (by assumption))
  · rename_i hltc
    have hcm : c < m := by first | exact lt2_of hA hltc | exact lt_of hA hltc
    refine loop_of hA (α := { q : Nat × Int // q.1 ≤ m ∧ NextP K t E ((gl m g).take q.1) q.2 ∧ -1 ≤ q.2 ∧ q.2 ≤ 60 }) (fun y => st_s2 j m g n0 G i c t y.1.1 y.1.2) (fun y => m - y.1.1) ⟨(0, -1), Nat.zero_le _, next_nil _ _ _, Int.le_refl _, by decide⟩ ?_ ?_
    · refine cov_of ?_ ?_ ?_
      · cbv; try (subst hA; repeat' first | apply And.intro | exact True.intro | rfl | fail)
      · cbv; try (subst hA; repeat' first | apply And.intro | exact True.intro | rfl | (intro _ _; rfl) | (intro k hk; exact absurd hk (Nat.not_lt_zero k)) | fail)
      · cbv; try (subst hA; repeat' first | apply And.intro | exact True.intro | rfl | exact .inr trivial | exact .inl trivial)
    rintro ⟨⟨k, v⟩, hk, hN, hv1, hv2⟩
    have hk : k ≤ m := hk
    have hN : NextP K t E ((gl m g).take k) v := hN
    have hv1 : -1 ≤ v := hv1
    have hv2 : v ≤ 60 := hv2
    obtain ⟨v', hv'⟩ : ∃ z, z = if (g k).key = K ∧ t < (g k).t ∧ (g k).t < E ∧ (v < 0 ∨ (g k).t < v) then (g k).t else v := ⟨_, rfl⟩
    have hstep : k < m → NextP K t E ((gl m g).take (k + 1)) v' ∧ -1 ≤ v' ∧ v' ≤ 60 := fun h => by
      have hr := recP_t (hok.2.2 k h)
      rw [lst_take (gl_lst m g) h]
      refine ⟨by rw [hv']; exact next_snoc hN hr.1, ?_⟩
      rw [hv']
      split <;> omega
    cbv
    repeat' first
      | apply And.intro
      | exact True.intro
      | with_reducible rfl
      | exact same_of hA rfl
      | refine br_of hA (fun _ => ?_) (fun _ => ?_)
      | exact imp_of hA id
      | (refine imp_of hA ?_; subst hA; simp only [real, Bool.true_and]; exact id)
      | (refine ind_of hA ?_; decide +kernel)
      | (refine call_of hA hM _ hFo ?_; cbv)
      | (refine inb_of hA (fun _ => ?_); exact ⟨Int.natCast_nonneg i, Int.ofNat_lt.2 hi2⟩)
      | (refine inb_lt hA ?_; first | exact lt2_of hA (by assumption) | exact lt_of hA (by assumption))
    · rename_i hlk hcd
      have hkm : k < m := by first | exact lt2_of hA hlk | exact lt_of hA hlk
      have hcd : (bif (bif (bif ((g k).key == (G i).key) then decide ((g k).t > t) else false) then decide ((g k).t < (G i).win.e) else false) then (bif decide (v < 0) then true else decide ((g k).t < v)) else false) = true := by subst hA; exact hcd
      have hcc : (g k).key = K ∧ t < (g k).t ∧ (g k).t < E ∧ (v < 0 ∨ (g k).t < v) := by
        simp only [bifA, bifB, Bool.and_eq_true, Bool.or_eq_true, beq_iff_eq, decide_eq_true_eq, ← hK, ← hE] at hcd
        omega
      rw [if_pos hcc] at hv'
      refine ⟨⟨(k + 1, v'), hkm, hstep hkm⟩, by simp only; omega, cov_of ?_ ?_ ?_⟩
      · cbv; subst hA; repeat' first | apply And.intro | exact True.intro | exact congrArg (fun x => DV.v (.int .i64 x)) (up64 hkm hm) | exact congrArg (fun x => DV.v (.int .i64 x)) hv'.symm | rfl
      · cbv; try (subst hA; repeat' first | apply And.intro | exact True.intro | rfl)
      · cbv; try (subst hA; repeat' first | apply And.intro | exact True.intro | rfl | exact .inr trivial | exact .inl trivial)
    · rename_i hlk hcd
      have hkm : k < m := by first | exact lt2_of hA hlk | exact lt_of hA hlk
      have hcd : (bif (bif (bif ((g k).key == (G i).key) then decide ((g k).t > t) else false) then decide ((g k).t < (G i).win.e) else false) then (bif decide (v < 0) then true else decide ((g k).t < v)) else false) = false := by subst hA; exact hcd
      have hcc : ¬ ((g k).key = K ∧ t < (g k).t ∧ (g k).t < E ∧ (v < 0 ∨ (g k).t < v)) := by
        intro hq
        have hd : (bif (bif (bif ((g k).key == (G i).key) then decide ((g k).t > t) else false) then decide ((g k).t < (G i).win.e) else false) then (bif decide (v < 0) then true else decide ((g k).t < v)) else false) = true := by
          simp only [bifA, bifB, Bool.and_eq_true, Bool.or_eq_true, beq_iff_eq, decide_eq_true_eq, ← hK, ← hE]
          omega
        rw [hd] at hcd; cases hcd
      rw [if_neg hcc] at hv'
      refine ⟨⟨(k + 1, v'), hkm, hstep hkm⟩, by simp only; omega, cov_of ?_ ?_ ?_⟩
      · cbv; subst hA; repeat' first | apply And.intro | exact True.intro | exact congrArg (fun x => DV.v (.int .i64 x)) (up64 hkm hm) | exact congrArg (fun x => DV.v (.int .i64 x)) hv'.symm | rfl
      · cbv; try (subst hA; repeat' first | apply And.intro | exact True.intro | rfl)
      · cbv; try (subst hA; repeat' first | apply And.intro | exact True.intro | rfl | exact .inr trivial | exact .inl trivial)
    all_goals have hkm : k = m := by first | (have := ge2_of hA (by assumption); omega) | (have := ge_of hA (by assumption); omega)
    all_goals have hNm : NextP K t E (gl m g) v := by have e := lst_all (gl_lst m g); rw [hkm, e] at hN; exact hN
    · exfalso
      rename_i hge hgap
      subst hA
      have hge : v ≥ 0 := of_decide_eq_true hge
      have hgap : IntKind.i64.wrap (v - t) ≥ j.size := of_decide_eq_true hgap
      rw [IntWalk.i64_in _ (by omega)] at hgap
      have := f2 t v hx ht1 ht2 hNm hge
      omega
    · rename_i hge _
      have hge : v ≥ 0 := by subst hA; exact of_decide_eq_true hge
      obtain ⟨⟨x, hx1, hx2, hx3, hx4, hx5⟩, _⟩ := hNm.yes hge
      have hb2 := behind_lt hNm hge
      refine ⟨⟨(c + 1, v), hcm, ⟨x, hx1, hx2, hx3⟩, by simp only; omega, hx5, by simp only; omega⟩, by simp only; omega, cov_of ?_ ?_ ?_⟩
      · cbv; subst hA; repeat' first | apply And.intro | exact True.intro | exact congrArg (fun x => DV.v (.int .i64 x)) (up64 hcm hm) | rfl
      · cbv; try (subst hA; repeat' first | apply And.intro | exact True.intro | rfl)
      · cbv; try (subst hA; repeat' first | apply And.intro | exact True.intro | rfl | exact .inr trivial | exact .inl trivial)
    · rename_i hge
      have hge : ¬ v ≥ 0 := by subst hA; exact of_decide_eq_false hge
      have hb2 := none_behind hNm (by omega)
      refine ⟨⟨(c + 1, t), hcm, hx, ht1, ht2, by simp only; omega⟩, by simp only; omega, cov_of ?_ ?_ ?_⟩
      · cbv; subst hA; repeat' first | apply And.intro | exact True.intro | exact congrArg (fun x => DV.v (.int .i64 x)) (up64 hcm hm) | rfl
      · cbv; try (subst hA; repeat' first | apply And.intro | exact True.intro | rfl)
      · cbv; try (subst hA; repeat' first | apply And.intro | exact True.intro | rfl | exact .inr trivial | exact .inl trivial)
  · rename_i hltc
    have hcm : c = m := by first | (have := ge2_of hA hltc; omega) | (have := ge_of hA hltc; omega)
    have hend := f3 t hx ht1 ht2 (behind_none (by omega))
    refine loop_of hA (α := { q : Nat × Bool // q.1 ≤ m ∧ (q.2 = true ↔ ∃ x, x ∈ (gl m g).take q.1 ∧ x.key = K ∧ x.t = S) }) (fun y => st_s3 j m g n0 G i t y.1.1 y.1.2) (fun y => m - y.1.1) ⟨(0, false), Nat.zero_le _, by simp⟩ ?_ ?_
    · refine cov_of ?_ ?_ ?_
      · cbv; try (subst hA; repeat' first | apply And.intro | exact True.intro | rfl | fail)
      · cbv; try (subst hA; repeat' first | apply And.intro | exact True.intro | rfl | (intro _ _; rfl) | (intro k hk; exact absurd hk (Nat.not_lt_zero k)) | fail)
      · cbv; try (subst hA; repeat' first | apply And.intro | exact True.intro | rfl | exact .inr trivial | exact .inl trivial)
    rintro ⟨⟨k, f⟩, hk, hf⟩
    have hk : k ≤ m := hk
    have hf : f = true ↔ ∃ x, x ∈ (gl m g).take k ∧ x.key = K ∧ x.t = S := hf
    obtain ⟨f', hf'⟩ : ∃ z, z = (f || (decide ((g k).key = K) && decide ((g k).t = S))) := ⟨_, rfl⟩
    have hstep : k < m → (f' = true ↔ ∃ x, x ∈ (gl m g).take (k + 1) ∧ x.key = K ∧ x.t = S) := fun h => by
      rw [lst_take (gl_lst m g) h, hf', Bool.or_eq_true, hf, Bool.and_eq_true, decide_eq_true_eq, decide_eq_true_eq]
      constructor
      · rintro (⟨x, h1, h2⟩ | h)
        · exact ⟨x, List.mem_append_left _ h1, h2⟩
        · exact ⟨g k, by simp, h⟩
      · rintro ⟨x, h1, h2⟩
        rcases List.mem_append.1 h1 with h1 | h1
        · exact .inl ⟨x, h1, h2⟩
        · simp at h1; subst h1; exact .inr h2
    cbv
    repeat' first
      | apply And.intro
      | exact True.intro
      | with_reducible rfl
      | exact same_of hA rfl
      | refine br_of hA (fun _ => ?_) (fun _ => ?_)
      | exact imp_of hA id
      | (refine imp_of hA ?_; subst hA; simp only [real, Bool.true_and]; exact id)
      | (refine ind_of hA ?_; decide +kernel)
      | (refine call_of hA hM _ hFo ?_; cbv)
      | (refine inb_of hA (fun _ => ?_); exact ⟨Int.natCast_nonneg i, Int.ofNat_lt.2 hi2⟩)
      | (refine inb_lt hA ?_; first | exact lt2_of hA (by assumption) | exact lt_of hA (by assumption))
    · rename_i hlk
      have hkm : k < m := by first | exact lt2_of hA hlk | exact lt_of hA hlk
      have hfb : (bif f then true else bif ((g k).key == (G i).key) then ((g k).t == (G i).win.s) else false) = f' := by
        rw [bifB, bifA, hf', ← hK, ← hS']
        rfl
      refine ⟨⟨(k + 1, f'), hkm, hstep hkm⟩, by simp only; omega, cov_of ?_ ?_ ?_⟩
      · cbv; subst hA; repeat' first | apply And.intro | exact True.intro | exact congrArg (fun x => DV.v (.int .i64 x)) (up64 hkm hm) | exact congrArg (fun x => DV.v (.bool x)) hfb | rfl
      · cbv; try (subst hA; repeat' first | apply And.intro | exact True.intro | rfl)
      · cbv; try (subst hA; repeat' first | apply And.intro | exact True.intro | rfl | exact .inr trivial | exact .inl trivial)
    all_goals have hkm : k = m := by first | (have := ge2_of hA (by assumption); omega) | (have := ge_of hA (by assumption); omega)
    all_goals have hft : f = true := hf.2 (by have e := lst_all (gl_lst m g); rw [hkm, e]; exact f1)
    · exfalso
      rename_i hbad
      subst hA
      have hbad : (bif !f then true else (IntKind.i64.wrap (t + j.size) != (G i).win.e)) = true := hbad
      rw [hft, IntWalk.i64_in _ (by omega), hend, hE] at hbad
      simp at hbad
    · refine ⟨⟨i + 1, hi2⟩, by simp only; omega, cov_of ?_ ?_ ?_⟩
      · cbv; subst hA; repeat' first | apply And.intro | exact True.intro | exact congrArg (fun x => DV.v (.int .i64 x)) (up64 hi2 hnL) | rfl
      · cbv; try (subst hA; repeat' first | apply And.intro | exact True.intro | rfl)
      · cbv; try (subst hA; repeat' first | apply And.intro | exact True.intro | rfl | exact .inr trivial | exact .inl trivial)
  all_goals first | rfl | (subst hA; rfl)
theorem sh_u8 {m : Nat} {l : List DV} (h : Shows TT (m + 1) 5 l) : ∃ x : Int, (0 ≤ x ∧ x ≤ 255) ∧ l = [eU x] := by
  obtain ⟨x, h, hw⟩ := h
  have h2 : IntKind.u8.min ≤ x ∧ x ≤ IntKind.u8.max := (Go.Lit.wf_int_iff _ _).1 hw
  have e1 : IntKind.u8.min = 0 := by decide
  have e2 : IntKind.u8.max = 255 := by decide
  rw [e1, e2] at h2
  exact ⟨x, h2, h⟩
theorem sh_bytes {m : Nat} {l : List DV} (h : Shows TT (m + 2) 43 l) : ∃ (n : Nat) (b : Nat → Int), (∀ i, 0 ≤ b i ∧ b i ≤ 255) ∧ l = [.sl 1 n fun i => [eU (b i)]] := by
  obtain ⟨sz, n, row, rfl, hsz, hn, hr⟩ := h
  cases hsz
  have hrow : ∀ i, ∃ x : Int, (0 ≤ x ∧ x ≤ 255) ∧ row i = [eU x] := fun i => sh_u8 (hr i)
  obtain ⟨rd, hrd⟩ : ∃ rd : Nat → Int, ∀ i, (0 ≤ rd i ∧ rd i ≤ 255) ∧ row i = [eU (rd i)] := ⟨fun i => Classical.choose (hrow i), fun i => Classical.choose_spec (hrow i)⟩
  have e : row = fun i => [eU (rd i)] := funext fun i => (hrd i).2
  subst e
  exact ⟨n, rd, fun i => (hrd i).1, rfl⟩
theorem lawRow (ls : List (List DV)) (h : ShowsL TT 2 [43] ls) : Meets Try.prog 10 (xtsIn TT [43] ls) ⟨.one (.c (.d (.v (.bool true)))), [none]⟩ := by
  rcases ls with _ | ⟨l0, _ | ⟨l1, ls⟩⟩
  · exact h.elim
  · obtain ⟨n0, b0, hb0, rfl⟩ := sh_bytes h.1
    exact m_law n0 b0 hb0
  · exact h.2.elim
theorem own : ownKnob Try.prog.godebug = none := by kernel_rfl
theorem laidOut : laidOutB Try.prog = true := by kernel_rfl
set_option maxRecDepth 100000 in
theorem lifted (os : Os) (started : os.Started) (H : Type) (enc : TypeId × Value → H) :
    ReturnsInHanded {} Try.checked os 10 .any (Ytbkpfnddpnccmaa.Rows.fnSpcSessSpec.pre6 enc Try.prog Try.f10 Ytbkpfnddpnccmaa.Rows.fnSpcSessRow.domain false)
      (Ytbkpfnddpnccmaa.Rows.fnSpcSessSpec.post enc Try.prog Try.f10 false true false false) := by
  refine returnsInHanded_of_change_sized (C := Try.checked) own started (by kernel_rfl) Try.func10
    (ChangeSpec.witness6 (enc := enc) (C := Try.checked) false ⟨#[], #[.slice none 0 0], []⟩ 8 (by kernel_rfl) (by kernel_rfl) (by kernel_rfl) (by kernel_rfl)) ?_
  intro W base args ds gs before hval0 hW hcnd hsz0 _
  refine law_contract (P := Try.prog) (T := TT) ttok (n := 2) (tb := 4) laidOut (by decide +kernel) (by kernel_rfl) rfl Try.underlying4 rfl ?_ ?_ W base args ds gs before hval0 hW
  · intro H ds hl
    match ds, hl with
    | [d0], _ => exact ⟨rfl, rfl, rfl⟩
  · rw [Try.params10]
    intro ls hls
    exact lawRow ls hls
theorem over : Ytbkpfnddpnccmaa.Rows.fnSpcSessRow.holds Ytbkpfnddpnccmaa.Try.pinned (OpenSpec.ofChange Ytbkpfnddpnccmaa.Rows.fnSpcSessSpec) :=
  OpenClaim.holds_of_wide 10 Try.f10 rfl rfl rfl rfl rfl rfl rfl ⟨rfl, rfl, rfl, rfl, rfl⟩ rfl rfl rfl rfl rfl (by kernel_rfl) Try.func10 (by kernel_rfl)
    (of_decide_eq_true (by kernel_rfl)) (by unfold Func.isWrapper; first | (rw [if_pos (by decide +kernel)]; kernel_rfl) | (rw [if_neg (by decide +kernel)]; exact ⟨rfl, rfl⟩))
    (fun os started H enc _ => lifted os started H enc)
end Go.Rk
namespace Go.Proofs.Ytbkpfnddpnccmaa
theorem fnSpcSess_holds : Rows.FnSpcSessSaid := Go.Rk.over
#print axioms fnSpcSess_holds
end Go.Proofs.Ytbkpfnddpnccmaa
