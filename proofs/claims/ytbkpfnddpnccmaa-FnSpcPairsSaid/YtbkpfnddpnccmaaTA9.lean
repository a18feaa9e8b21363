/- Draws. -/
import Derived.Test.YtbkpfnddpnccmaaTA6
import Derived.Test.YtbkpfnddpnccmaaDDr
namespace Go.Rk
set_option linter.unusedSimpArgs false
set_option linter.unusedVariables false
open Go.Proofs
set_option maxRecDepth 100000 in
theorem m_pick (m : Nat) (hm : m ≤ 2000) (b : Nat → Int) (hb : ∀ i, 0 ≤ b i ∧ b i ≤ 255) (p : Int) (hp : 0 ≤ p ∧ p ≤ 1000000) (n : Int) (hn : 1 ≤ n ∧ n ≤ 1000000) (x : Int) (hx : x = pickV m b p n) (q : Int) (hq : q = p + 1) : Meets Try.prog 94 [.c (.box [.d (.sl 1 m fun i => [eU (b i)]), .d (eI p)]), .c (.d (eI n))] ⟨.one (.c (.d (eI x))), [some (.box [.d (.sl 1 m fun i => [eU (b i)]), .d (eI q)]), none]⟩ := by
  have w1 : IntKind.i64.wrap (p + 1) = q := by rw [IntWalk.i64_in _ (by omega)]; omega
  have w2 : IntKind.i64.wrap (q - 1) = p := by rw [IntWalk.i64_in _ (by omega)]; omega
  have w7 : IntKind.i64.wrap (p * 7) = p * 7 := IntWalk.i64_in _ (by omega)
  have w73 : IntKind.i64.wrap (p * 7 + 3) = p * 7 + 3 := IntWalk.i64_in _ (by omega)
  have mpos : real.bite (real.cmp .lss n 1) true (real.cmp .eql (real.int m) 0) = false → 1 ≤ m := fun h => by
    have h : (bif decide (n < 1) then true else ((m : Int) == 0)) = false := h
    rw [decide_eq_false (by omega)] at h
    have h : ((m : Int) == 0) = false := h
    have h : ¬ (m : Int) = 0 := by simpa using h
    omega
  refine meets_of (H := []) (EX := EXA) ttok mixed Try.func94 rfl (by kernel_rfl) (by decide) ?_
  generalize hA : real = A
  generalize hM : Meets Try.prog = M
  cbv
  repeat' first
    | apply And.intro
    | exact True.intro
    | with_reducible rfl
    | exact same_of hA rfl
    | refine br_of hA (fun _ => ?_) (fun _ => ?_)
    | exact imp_of hA id
    | (refine imp_of hA ?_; subst hA; simp only [real, Bool.true_and]; exact id)
    | (refine ind_of hA ?_; decide +kernel)
    | (refine nz_of hA ?_; first | (show n ≠ 0; omega) | (show (64 : Int) ≠ 0; decide) | (rename_i h1 h2; subst hA; have h3 := mpos h1; show (m : Int) ≠ 0; omega))
  · rename_i hbad
    subst hA
    have h : (bif decide (n < 1) then true else ((m : Int) == 0)) = true := hbad
    rw [decide_eq_false (by omega)] at h
    have h : ((m : Int) == 0) = true := h
    have h : (m : Int) = 0 := by simpa using h
    refine congrArg (fun z => XA.one (.c (.d (eI z)))) ?_
    rw [hx]; unfold pickV; rw [if_pos (by omega)]
  · rename_i hbad
    subst hA
    exact congrArg (fun z => [some (XV.box [XC.d (DV.sl 1 m fun i => [eU (b i)]), XC.d (eI z)]), none]) w1
  · rename_i hg hlt
    refine inb_of hA fun _ => ?_
    subst hA
    have hlt : decide (IntKind.i64.wrap (IntKind.i64.wrap (p + 1) - 1) < (m : Int)) = true := hlt
    have hlt := of_decide_eq_true hlt
    show 0 ≤ IntKind.i64.wrap (IntKind.i64.wrap (p + 1) - 1) ∧ IntKind.i64.wrap (IntKind.i64.wrap (p + 1) - 1) < (m : Int)
    rw [w1, w2] at hlt ⊢
    exact ⟨hp.1, hlt⟩
  · rename_i hg hlt
    subst hA
    have hlt : decide (IntKind.i64.wrap (IntKind.i64.wrap (p + 1) - 1) < (m : Int)) = true := hlt
    have hlt := of_decide_eq_true hlt
    rw [w1, w2] at hlt
    refine congrArg (fun z => XA.one (.c (.d (eI z)))) ?_
    have h1 := mpos hg
    show (IntKind.i64.wrap (b (IntKind.i64.wrap (IntKind.i64.wrap (p + 1) - 1)).toNat)).tmod n = x
    have hbb := hb p.toNat
    rw [w1, w2, IntWalk.i64_in _ (by omega), hx]
    unfold pickV
    rw [if_neg (by omega), if_pos hlt]
  · rename_i hg hlt
    subst hA
    exact congrArg (fun z => [some (XV.box [XC.d (DV.sl 1 m fun i => [eU (b i)]), XC.d (eI z)]), none]) w1
  · rename_i hg hlt
    refine inb_of hA fun _ => ?_
    subst hA
    have h1 := mpos hg
    show 0 ≤ (IntKind.i64.wrap (IntKind.i64.wrap (p + 1) - 1)).tmod (m : Int) ∧ (IntKind.i64.wrap (IntKind.i64.wrap (p + 1) - 1)).tmod (m : Int) < (m : Int)
    rw [w1, w2]
    exact tmod_in hp.1 (Int.ofNat_le.2 h1)
  · rename_i hg hlt
    refine inb_of hA fun _ => ?_
    subst hA
    have h1 := mpos hg
    show 0 ≤ (IntKind.i64.wrap (IntKind.i64.wrap (IntKind.i64.wrap (IntKind.i64.wrap (p + 1) - 1) * 7) + 3)).tmod (m : Int) ∧ (IntKind.i64.wrap (IntKind.i64.wrap (IntKind.i64.wrap (IntKind.i64.wrap (p + 1) - 1) * 7) + 3)).tmod (m : Int) < (m : Int)
    rw [w1, w2, w7, w73]
    exact tmod_in (by omega) (Int.ofNat_le.2 h1)
  · rename_i hg hlt
    subst hA
    have hlt : decide (IntKind.i64.wrap (IntKind.i64.wrap (p + 1) - 1) < (m : Int)) = false := hlt
    have hlt := of_decide_eq_false hlt
    rw [w1, w2] at hlt
    have h1 := mpos hg
    refine congrArg (fun z => XA.one (.c (.d (eI z)))) ?_
    rw [hx]; unfold pickV
    rw [if_neg (by omega), if_neg hlt]
    have hy := pickY_in (m := m) (p := p) (b := b) h1 hb hp
    obtain ⟨W, hW⟩ : ∃ W, W = IntKind.i64.wrap (IntKind.i64.wrap (p + 1) - 1) := ⟨_, rfl⟩
    have hWp : W = p := by rw [hW, w1, w2]
    obtain ⟨Y, hY⟩ : ∃ Y, Y = IntKind.i64.wrap (IntKind.i64.wrap (IntKind.i64.wrap (IntKind.i64.wrap (IntKind.i64.wrap (b (W.tmod (m : Int)).toNat) * 131) + IntKind.i64.wrap (IntKind.i64.wrap (b ((IntKind.i64.wrap (IntKind.i64.wrap (W * 7) + 3)).tmod (m : Int)).toNat) * 1117)) + IntKind.i64.wrap (W * 29)) + IntKind.i64.wrap (IntKind.i64.wrap (W.tdiv (m : Int)) * 53)) := ⟨_, rfl⟩
    have hYp : Y = pickY m b p := by
      rw [hY, hWp, w7, w73]
      unfold pickY
      have b1 := hb (p.tmod (m : Int)).toNat
      have b2 := hb ((p * 7 + 3).tmod (m : Int)).toNat
      have d1 : 0 ≤ p.tdiv (m : Int) := Int.tdiv_nonneg hp.1 (Int.natCast_nonneg m)
      have d2 : p.tdiv (m : Int) ≤ p := Int.tdiv_le_self (m : Int) hp.1
      generalize b (p.tmod (m : Int)).toNat = c1 at b1 ⊢
      generalize b ((p * 7 + 3).tmod (m : Int)).toNat = c2 at b2 ⊢
      generalize p.tdiv (m : Int) = d at d1 d2 ⊢
      rw [IntWalk.i64_in c1 (by omega), IntWalk.i64_in c2 (by omega), IntWalk.i64_in d (by omega), IntWalk.i64_in (c1 * 131) (by omega), IntWalk.i64_in (c2 * 1117) (by omega), IntWalk.i64_in (p * 29) (by omega), IntWalk.i64_in (d * 53) (by omega), IntWalk.i64_in (c1 * 131 + c2 * 1117) (by omega), IntWalk.i64_in (c1 * 131 + c2 * 1117 + p * 29) (by omega), IntWalk.i64_in _ (by omega)]
    have q1 : 0 ≤ (pickY m b p).tdiv 64 := Int.tdiv_nonneg hy.1 (by decide)
    have q2 : (pickY m b p).tdiv 64 ≤ pickY m b p := Int.tdiv_le_self 64 hy.1
    have key : (IntKind.i64.wrap (BitVec.ofInt 64 Y ^^^ BitVec.ofInt 64 (IntKind.i64.wrap (Y.tdiv 64))).toNat).tmod n = (pickX (pickY m b p)).tmod n := by
      rw [hYp, IntWalk.i64_in ((pickY m b p).tdiv 64) (by omega)]; rfl
    rw [← key, hY, hW]
    rfl
  · rename_i hg hlt
    subst hA
    exact congrArg (fun z => [some (XV.box [XC.d (DV.sl 1 m fun i => [eU (b i)]), XC.d (eI z)]), none]) w1
end Go.Rk
