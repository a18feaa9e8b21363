/- Draws: jobs. -/
import Derived.Test.YtbkpfnddpnccmaaTA11
import Derived.Test.YtbkpfnddpnccmaaDDr
namespace Go.Rk
set_option linter.unusedSimpArgs false
set_option linter.unusedVariables false
open Go.Proofs
set_option maxRecDepth 100000
set_option maxHeartbeats 1000000
theorem c_job (m : Nat) (hm : m ≤ 2000) (b : Nat → Int) (hb : ∀ i, 0 ≤ b i ∧ b i ≤ 255) (p : Int) (hp : 0 ≤ p ∧ p ≤ 50000) : ∃ (j : JobT) (q : Int), (p ≤ q ∧ q ≤ p + 20) ∧ Meets Try.prog 109 [.c (.box [.d (.sl 1 m fun i => [eU (b i)]), .d (eI p)])] ⟨.one (xd (eJob j)), [some (.box [.d (.sl 1 m fun i => [eU (b i)]), .d (eI q)])]⟩ := by
  obtain ⟨x0, hx0⟩ : ∃ x : Int, x = pickV m b p 3 := ⟨_, rfl⟩
  obtain ⟨p1, hp1⟩ : ∃ z : Int, z = p + 1 := ⟨_, rfl⟩
  have c0 := m_pick m hm b hb p (by omega) 3 (by omega) x0 hx0 p1 hp1
  have i0 := pickV_in (m := m) (b := b) (p := p) (n := 3) hb (by omega) (by omega)
  rw [← hx0] at i0
  obtain ⟨x1, hx1⟩ : ∃ x : Int, x = pickV m b p1 2 := ⟨_, rfl⟩
  obtain ⟨p2, hp2⟩ : ∃ z : Int, z = p1 + 1 := ⟨_, rfl⟩
  have c1 := m_pick m hm b hb p1 (by omega) 2 (by omega) x1 hx1 p2 hp2
  have i1 := pickV_in (m := m) (b := b) (p := p1) (n := 2) hb (by omega) (by omega)
  rw [← hx1] at i1
  obtain ⟨x2, hx2⟩ : ∃ x : Int, x = pickV m b p2 3 := ⟨_, rfl⟩
  obtain ⟨p3, hp3⟩ : ∃ z : Int, z = p2 + 1 := ⟨_, rfl⟩
  have c2 := m_pick m hm b hb p2 (by omega) 3 (by omega) x2 hx2 p3 hp3
  have i2 := pickV_in (m := m) (b := b) (p := p2) (n := 3) hb (by omega) (by omega)
  rw [← hx2] at i2
  obtain ⟨x3, hx3⟩ : ∃ x : Int, x = pickV m b p3 6 := ⟨_, rfl⟩
  obtain ⟨p4, hp4⟩ : ∃ z : Int, z = p3 + 1 := ⟨_, rfl⟩
  have c3 := m_pick m hm b hb p3 (by omega) 6 (by omega) x3 hx3 p4 hp4
  have i3 := pickV_in (m := m) (b := b) (p := p3) (n := 6) hb (by omega) (by omega)
  rw [← hx3] at i3
  obtain ⟨x4, hx4⟩ : ∃ x : Int, x = pickV m b p4 5 := ⟨_, rfl⟩
  obtain ⟨p5, hp5⟩ : ∃ z : Int, z = p4 + 1 := ⟨_, rfl⟩
  have c4 := m_pick m hm b hb p4 (by omega) 5 (by omega) x4 hx4 p5 hp5
  have i4 := pickV_in (m := m) (b := b) (p := p4) (n := 5) hb (by omega) (by omega)
  rw [← hx4] at i4
  obtain ⟨x5, hx5⟩ : ∃ x : Int, x = pickV m b p5 4 := ⟨_, rfl⟩
  obtain ⟨p6, hp6⟩ : ∃ z : Int, z = p5 + 1 := ⟨_, rfl⟩
  have c5 := m_pick m hm b hb p5 (by omega) 4 (by omega) x5 hx5 p6 hp6
  have i5 := pickV_in (m := m) (b := b) (p := p5) (n := 4) hb (by omega) (by omega)
  rw [← hx5] at i5
  obtain ⟨x6, hx6⟩ : ∃ x : Int, x = pickV m b p6 2 := ⟨_, rfl⟩
  obtain ⟨p7, hp7⟩ : ∃ z : Int, z = p6 + 1 := ⟨_, rfl⟩
  have c6 := m_pick m hm b hb p6 (by omega) 2 (by omega) x6 hx6 p7 hp7
  have i6 := pickV_in (m := m) (b := b) (p := p6) (n := 2) hb (by omega) (by omega)
  rw [← hx6] at i6
  obtain ⟨x7, hx7⟩ : ∃ x : Int, x = pickV m b p7 5 := ⟨_, rfl⟩
  obtain ⟨p8, hp8⟩ : ∃ z : Int, z = p7 + 1 := ⟨_, rfl⟩
  have c7 := m_pick m hm b hb p7 (by omega) 5 (by omega) x7 hx7 p8 hp8
  have i7 := pickV_in (m := m) (b := b) (p := p7) (n := 5) hb (by omega) (by omega)
  rw [← hx7] at i7
  obtain ⟨x8, hx8⟩ : ∃ x : Int, x = pickV m b p8 4 := ⟨_, rfl⟩
  obtain ⟨p9, hp9⟩ : ∃ z : Int, z = p8 + 1 := ⟨_, rfl⟩
  have c8 := m_pick m hm b hb p8 (by omega) 4 (by omega) x8 hx8 p9 hp9
  have i8 := pickV_in (m := m) (b := b) (p := p8) (n := 4) hb (by omega) (by omega)
  rw [← hx8] at i8
  obtain ⟨x9, hx9⟩ : ∃ x : Int, x = pickV m b p9 4 := ⟨_, rfl⟩
  obtain ⟨p10, hp10⟩ : ∃ z : Int, z = p9 + 1 := ⟨_, rfl⟩
  have c9 := m_pick m hm b hb p9 (by omega) 4 (by omega) x9 hx9 p10 hp10
  have i9 := pickV_in (m := m) (b := b) (p := p9) (n := 4) hb (by omega) (by omega)
  rw [← hx9] at i9
  obtain ⟨x10, hx10⟩ : ∃ x : Int, x = pickV m b p10 4 := ⟨_, rfl⟩
  obtain ⟨p11, hp11⟩ : ∃ z : Int, z = p10 + 1 := ⟨_, rfl⟩
  have c10 := m_pick m hm b hb p10 (by omega) 4 (by omega) x10 hx10 p11 hp11
  have i10 := pickV_in (m := m) (b := b) (p := p10) (n := 4) hb (by omega) (by omega)
  rw [← hx10] at i10
  obtain ⟨sz, hsz⟩ : ∃ z : Int, z = real.sel [1, 3, 5, 8, 10, 20] (real.add 0 (real.nat x3)) := ⟨_, rfl⟩
  obtain ⟨kd, hkd⟩ : ∃ z : Int, z = real.ar .add .i64 1 x2 := ⟨_, rfl⟩
  obtain ⟨j0, hj0⟩ : ∃ j : JobT, j = ⟨real.ar .add .i64 1 x0, real.ar .add .i64 1 x1, kd, sz, 0, real.sel [0, 2, 5, 12, 20] (real.add 0 (real.nat x4)), real.ar .add .i64 1 x5, real.cmp .eql x6 0, real.sel [-9, -9, -9, 0, 5] (real.add 0 (real.nat x7)), real.ar .add .i64 1 x8⟩ := ⟨_, rfl⟩
  obtain ⟨st, hst⟩ : ∃ z : Int, z = real.ar .quo .i64 (real.ar .add .i64 sz x9) (real.ar .add .i64 1 x10) := ⟨_, rfl⟩
  obtain ⟨big, hbig⟩ : ∃ z : Bool, z = real.bite (real.bite (real.cmp .lss st 1) true (real.cmp .lss (real.ar .mul .i64 4 st) sz)) true (real.cmp .gtr st sz) := ⟨_, rfl⟩
  obtain ⟨j, hj⟩ : ∃ j : JobT, j = bif (kd == 2) then (bif big then { j0 with step := real.ar .quo .i64 (real.ar .add .i64 sz 1) 2 } else { j0 with step := st }) else j0 := ⟨_, rfl⟩
  obtain ⟨q, hq⟩ : ∃ z : Int, z = bif (kd == 2) then p11 else p9 := ⟨_, rfl⟩
  refine ⟨j, q, by rw [hq]; cases (kd == 2) <;> simp only [cond_true, cond_false] <;> omega, ?_⟩
  have w10 : real.ar .add .i64 1 x10 ≠ 0 := by
    show IntKind.i64.wrap (1 + x10) ≠ 0
    rw [IntWalk.i64_in _ (by omega)]; omega
  refine meets_of (H := []) (EX := EXA) ttok mixed Try.func109 rfl (by kernel_rfl) (by decide) ?_
  generalize hA : real = A
  generalize hM : Meets Try.prog = M
  cbv
  repeat' first
    | apply And.intro
    | exact True.intro
    | with_reducible rfl
    | exact same_of hA rfl
    | refine br_of hA (fun _ => ?_) (fun _ => ?_)
    | exact imp_of hA id
    | (refine imp_of hA ?_; subst hA; simp only [real, Bool.true_and]; exact id)
    | (refine ind_of hA ?_; decide +kernel)
    | (refine call_of hA hM _ c0 ?_; cbv)
    | (refine call_of hA hM _ c1 ?_; cbv)
    | (refine call_of hA hM _ c2 ?_; cbv)
    | (refine call_of hA hM _ c3 ?_; cbv)
    | (refine call_of hA hM _ c4 ?_; cbv)
    | (refine call_of hA hM _ c5 ?_; cbv)
    | (refine call_of hA hM _ c6 ?_; cbv)
    | (refine call_of hA hM _ c7 ?_; cbv)
    | (refine call_of hA hM _ c8 ?_; cbv)
    | (refine call_of hA hM _ c9 ?_; cbv)
    | (refine call_of hA hM _ c10 ?_; cbv)
    | (refine inb_of hA fun _ => ?_; exact ⟨i3.1, i3.2⟩)
    | (refine inb_of hA fun _ => ?_; exact ⟨i4.1, i4.2⟩)
    | (refine inb_of hA fun _ => ?_; exact ⟨i7.1, i7.2⟩)
    | (subst hA; exact nz_of rfl w10)
    | exact nz_of hA (show (2 : Int) ≠ 0 by decide)
  · rename_i hk hb
    subst hA
    have e0 : (kd == 2) = true := by rw [hkd]; exact hk
    have e1 : big = true := by rw [hbig, hst, hsz]; exact hb
    rw [hj, e0, e1]; subst hj0; subst hst; subst hkd; subst hsz; rfl
  · rename_i hk hb
    subst hA
    have e0 : (kd == 2) = true := by rw [hkd]; exact hk
    have e1 : big = true := by rw [hbig, hst, hsz]; exact hb
    rw [hq, e0]; rfl
  · rename_i hk hb
    subst hA
    have e0 : (kd == 2) = true := by rw [hkd]; exact hk
    have e1 : big = false := by rw [hbig, hst, hsz]; exact hb
    rw [hj, e0, e1]; subst hj0; subst hst; subst hkd; subst hsz; rfl
  · rename_i hk hb
    subst hA
    have e0 : (kd == 2) = true := by rw [hkd]; exact hk
    have e1 : big = false := by rw [hbig, hst, hsz]; exact hb
    rw [hq, e0]; rfl
  · rename_i hk
    subst hA
    have e0 : (kd == 2) = false := by rw [hkd]; exact hk
    rw [hj, e0]; subst hj0; subst hst; subst hkd; subst hsz; rfl
  · rename_i hk
    subst hA
    have e0 : (kd == 2) = false := by rw [hkd]; exact hk
    rw [hq, e0]; rfl
theorem c_anyJob (m : Nat) (hm : m ≤ 2000) (b : Nat → Int) (hb : ∀ i, 0 ≤ b i ∧ b i ≤ 255) (p : Int) (hp : 0 ≤ p ∧ p ≤ 40000) (n : Int) (hn : 1 ≤ n ∧ n ≤ 100) : ∃ (j : JobT) (q : Int), (p ≤ q ∧ q ≤ p + 40) ∧ Meets Try.prog 72 [.c (.box [.d (.sl 1 m fun i => [eU (b i)]), .d (eI p)]), .c (.d (eI n))] ⟨.one (xd (eJob j)), [some (.box [.d (.sl 1 m fun i => [eU (b i)]), .d (eI q)]), none]⟩ := by
  obtain ⟨j0, q0, hq0, hj0⟩ := c_job m hm b hb p (by omega)
  obtain ⟨x0, hx0⟩ : ∃ x : Int, x = pickV m b q0 n := ⟨_, rfl⟩
  obtain ⟨p1, hp1⟩ : ∃ z : Int, z = q0 + 1 := ⟨_, rfl⟩
  have c0 := m_pick m hm b hb q0 (by omega) n (by omega) x0 hx0 p1 hp1
  have i0 := pickV_in (m := m) (b := b) (p := q0) (n := n) hb (by omega) (by omega)
  rw [← hx0] at i0
  obtain ⟨x1, hx1⟩ : ∃ x : Int, x = pickV m b p1 8 := ⟨_, rfl⟩
  obtain ⟨p2, hp2⟩ : ∃ z : Int, z = p1 + 1 := ⟨_, rfl⟩
  have c1 := m_pick m hm b hb p1 (by omega) 8 (by omega) x1 hx1 p2 hp2
  have i1 := pickV_in (m := m) (b := b) (p := p1) (n := 8) hb (by omega) (by omega)
  rw [← hx1] at i1
  obtain ⟨x2, hx2⟩ : ∃ x : Int, x = pickV m b p2 9 := ⟨_, rfl⟩
  obtain ⟨p3, hp3⟩ : ∃ z : Int, z = p2 + 1 := ⟨_, rfl⟩
  have c2 := m_pick m hm b hb p2 (by omega) 9 (by omega) x2 hx2 p3 hp3
  have i2 := pickV_in (m := m) (b := b) (p := p2) (n := 9) hb (by omega) (by omega)
  rw [← hx2] at i2
  obtain ⟨kv, hkv⟩ : ∃ z : Int, z = real.sel [-1, 0, 3, 4, 5, 21, 10, 1] (real.add 0 (real.nat x1)) := ⟨_, rfl⟩
  obtain ⟨j, hj⟩ : ∃ j : JobT, j = bif decide (x0 > 0) then j0 else bif (x2 == 0) then { j0 with srcs := kv } else bif (x2 == 1) then { j0 with tsks := kv } else bif (x2 == 2) then { j0 with kind := kv } else bif (x2 == 3) then { j0 with size := kv } else bif (x2 == 4) then { j0 with step := kv } else bif (x2 == 5) then { j0 with late := kv } else bif (x2 == 6) then { j0 with tell := kv } else bif (x2 == 7) then { j0 with least := real.ar .mul .i64 kv 2 } else { j0 with room := kv } := ⟨_, rfl⟩
  obtain ⟨q, hq⟩ : ∃ z : Int, z = bif decide (x0 > 0) then p1 else p3 := ⟨_, rfl⟩
  refine ⟨j, q, by rw [hq]; cases decide (x0 > 0) <;> simp only [cond_true, cond_false] <;> omega, ?_⟩
  refine meets_of (H := []) (EX := EXA) ttok mixed Try.func72 rfl (by kernel_rfl) (by decide) ?_
  generalize hA : real = A
  generalize hM : Meets Try.prog = M
  cbv
  repeat' first
    | apply And.intro
    | exact True.intro
    | with_reducible rfl
    | exact same_of hA rfl
    | refine br_of hA (fun _ => ?_) (fun _ => ?_)
    | exact imp_of hA id
    | (refine imp_of hA ?_; subst hA; simp only [real, Bool.true_and]; exact id)
    | (refine ind_of hA ?_; decide +kernel)
    | (refine call_of hA hM _ hj0 ?_; cbv)
    | (refine call_of hA hM _ c0 ?_; cbv)
    | (refine call_of hA hM _ c1 ?_; cbv)
    | (refine call_of hA hM _ c2 ?_; cbv)
    | (refine inb_of hA fun _ => ?_; exact ⟨i1.1, i1.2⟩)
  · rename_i hg; subst hA; have e0 : decide (x0 > 0) = true := hg; rw [hj, e0]; subst hkv; rfl
  · rename_i hg; subst hA; have e0 : decide (x0 > 0) = true := hg; rw [hq, e0]; rfl
  · rename_i hg s0; subst hA; have e0 : decide (x0 > 0) = false := hg; have e1 : (x2 == 0) = true := s0; rw [hj, e0, e1]; subst hkv; rfl
  · rename_i hg s0; subst hA; have e0 : decide (x0 > 0) = false := hg; have e1 : (x2 == 0) = true := s0; rw [hq, e0]; rfl
  · rename_i hg s0 s1; subst hA; have e0 : decide (x0 > 0) = false := hg; have e1 : (x2 == 0) = false := s0; have e2 : (x2 == 1) = true := s1; rw [hj, e0, e1, e2]; subst hkv; rfl
  · rename_i hg s0 s1; subst hA; have e0 : decide (x0 > 0) = false := hg; have e1 : (x2 == 0) = false := s0; have e2 : (x2 == 1) = true := s1; rw [hq, e0]; rfl
  · rename_i hg s0 s1 s2; subst hA; have e0 : decide (x0 > 0) = false := hg; have e1 : (x2 == 0) = false := s0; have e2 : (x2 == 1) = false := s1; have e3 : (x2 == 2) = true := s2; rw [hj, e0, e1, e2, e3]; subst hkv; rfl
  · rename_i hg s0 s1 s2; subst hA; have e0 : decide (x0 > 0) = false := hg; have e1 : (x2 == 0) = false := s0; have e2 : (x2 == 1) = false := s1; have e3 : (x2 == 2) = true := s2; rw [hq, e0]; rfl
  · rename_i hg s0 s1 s2 s3; subst hA; have e0 : decide (x0 > 0) = false := hg; have e1 : (x2 == 0) = false := s0; have e2 : (x2 == 1) = false := s1; have e3 : (x2 == 2) = false := s2; have e4 : (x2 == 3) = true := s3; rw [hj, e0, e1, e2, e3, e4]; subst hkv; rfl
  · rename_i hg s0 s1 s2 s3; subst hA; have e0 : decide (x0 > 0) = false := hg; have e1 : (x2 == 0) = false := s0; have e2 : (x2 == 1) = false := s1; have e3 : (x2 == 2) = false := s2; have e4 : (x2 == 3) = true := s3; rw [hq, e0]; rfl
  · rename_i hg s0 s1 s2 s3 s4; subst hA; have e0 : decide (x0 > 0) = false := hg; have e1 : (x2 == 0) = false := s0; have e2 : (x2 == 1) = false := s1; have e3 : (x2 == 2) = false := s2; have e4 : (x2 == 3) = false := s3; have e5 : (x2 == 4) = true := s4; rw [hj, e0, e1, e2, e3, e4, e5]; subst hkv; rfl
  · rename_i hg s0 s1 s2 s3 s4; subst hA; have e0 : decide (x0 > 0) = false := hg; have e1 : (x2 == 0) = false := s0; have e2 : (x2 == 1) = false := s1; have e3 : (x2 == 2) = false := s2; have e4 : (x2 == 3) = false := s3; have e5 : (x2 == 4) = true := s4; rw [hq, e0]; rfl
  · rename_i hg s0 s1 s2 s3 s4 s5; subst hA; have e0 : decide (x0 > 0) = false := hg; have e1 : (x2 == 0) = false := s0; have e2 : (x2 == 1) = false := s1; have e3 : (x2 == 2) = false := s2; have e4 : (x2 == 3) = false := s3; have e5 : (x2 == 4) = false := s4; have e6 : (x2 == 5) = true := s5; rw [hj, e0, e1, e2, e3, e4, e5, e6]; subst hkv; rfl
  · rename_i hg s0 s1 s2 s3 s4 s5; subst hA; have e0 : decide (x0 > 0) = false := hg; have e1 : (x2 == 0) = false := s0; have e2 : (x2 == 1) = false := s1; have e3 : (x2 == 2) = false := s2; have e4 : (x2 == 3) = false := s3; have e5 : (x2 == 4) = false := s4; have e6 : (x2 == 5) = true := s5; rw [hq, e0]; rfl
  · rename_i hg s0 s1 s2 s3 s4 s5 s6; subst hA; have e0 : decide (x0 > 0) = false := hg; have e1 : (x2 == 0) = false := s0; have e2 : (x2 == 1) = false := s1; have e3 : (x2 == 2) = false := s2; have e4 : (x2 == 3) = false := s3; have e5 : (x2 == 4) = false := s4; have e6 : (x2 == 5) = false := s5; have e7 : (x2 == 6) = true := s6; rw [hj, e0, e1, e2, e3, e4, e5, e6, e7]; subst hkv; rfl
  · rename_i hg s0 s1 s2 s3 s4 s5 s6; subst hA; have e0 : decide (x0 > 0) = false := hg; have e1 : (x2 == 0) = false := s0; have e2 : (x2 == 1) = false := s1; have e3 : (x2 == 2) = false := s2; have e4 : (x2 == 3) = false := s3; have e5 : (x2 == 4) = false := s4; have e6 : (x2 == 5) = false := s5; have e7 : (x2 == 6) = true := s6; rw [hq, e0]; rfl
  · rename_i hg s0 s1 s2 s3 s4 s5 s6 s7; subst hA; have e0 : decide (x0 > 0) = false := hg; have e1 : (x2 == 0) = false := s0; have e2 : (x2 == 1) = false := s1; have e3 : (x2 == 2) = false := s2; have e4 : (x2 == 3) = false := s3; have e5 : (x2 == 4) = false := s4; have e6 : (x2 == 5) = false := s5; have e7 : (x2 == 6) = false := s6; have e8 : (x2 == 7) = true := s7; rw [hj, e0, e1, e2, e3, e4, e5, e6, e7, e8]; subst hkv; rfl
  · rename_i hg s0 s1 s2 s3 s4 s5 s6 s7; subst hA; have e0 : decide (x0 > 0) = false := hg; have e1 : (x2 == 0) = false := s0; have e2 : (x2 == 1) = false := s1; have e3 : (x2 == 2) = false := s2; have e4 : (x2 == 3) = false := s3; have e5 : (x2 == 4) = false := s4; have e6 : (x2 == 5) = false := s5; have e7 : (x2 == 6) = false := s6; have e8 : (x2 == 7) = true := s7; rw [hq, e0]; rfl
  · rename_i hg s0 s1 s2 s3 s4 s5 s6 s7; subst hA; have e0 : decide (x0 > 0) = false := hg; have e1 : (x2 == 0) = false := s0; have e2 : (x2 == 1) = false := s1; have e3 : (x2 == 2) = false := s2; have e4 : (x2 == 3) = false := s3; have e5 : (x2 == 4) = false := s4; have e6 : (x2 == 5) = false := s5; have e7 : (x2 == 6) = false := s6; have e8 : (x2 == 7) = false := s7; rw [hj, e0, e1, e2, e3, e4, e5, e6, e7, e8]; subst hkv; rfl
  · rename_i hg s0 s1 s2 s3 s4 s5 s6 s7; subst hA; have e0 : decide (x0 > 0) = false := hg; have e1 : (x2 == 0) = false := s0; have e2 : (x2 == 1) = false := s1; have e3 : (x2 == 2) = false := s2; have e4 : (x2 == 3) = false := s3; have e5 : (x2 == 4) = false := s4; have e6 : (x2 == 5) = false := s5; have e7 : (x2 == 6) = false := s6; have e8 : (x2 == 7) = false := s7; rw [hq, e0]; rfl
end Go.Rk
