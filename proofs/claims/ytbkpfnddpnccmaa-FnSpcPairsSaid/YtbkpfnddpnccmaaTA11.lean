/- Draws, of items. -/
import Derived.Test.YtbkpfnddpnccmaaTA10
import Derived.Test.YtbkpfnddpnccmaaDDr
namespace Go.Rk
set_option linter.unusedSimpArgs false
set_option linter.unusedVariables false
open Go.Proofs
set_option maxRecDepth 100000
set_option maxHeartbeats 1000000
theorem c_item (m : Nat) (hm : m ≤ 2000) (b : Nat → Int) (hb : ∀ i, 0 ≤ b i ∧ b i ≤ 255) (p : Int) (hp : 0 ≤ p ∧ p ≤ 50000) (n : Int) (hn : 1 ≤ n ∧ n ≤ 100) : ∃ (it : ItmT) (q : Int), (p ≤ q ∧ q ≤ p + 20) ∧ Meets Try.prog 111 [.c (.box [.d (.sl 1 m fun i => [eU (b i)]), .d (eI p)]), .c (.d (eI n))] ⟨.one (xd (eItm it)), [some (.box [.d (.sl 1 m fun i => [eU (b i)]), .d (eI q)]), none]⟩ := by
  obtain ⟨q0, hq0⟩ : ∃ q : Int, q = p + 4 := ⟨_, rfl⟩
  obtain ⟨r, hr⟩ := c_rec m hm b hb p (by omega) q0 hq0
  obtain ⟨x4, hx4⟩ : ∃ x : Int, x = pickV m b q0 4 := ⟨_, rfl⟩
  obtain ⟨p5, hp5⟩ : ∃ z : Int, z = q0 + 1 := ⟨_, rfl⟩
  have c4 := m_pick m hm b hb q0 (by omega) 4 (by omega) x4 hx4 p5 hp5
  have i4 := pickV_in (m := m) (b := b) (p := q0) (n := 4) hb (by omega) (by omega)
  rw [← hx4] at i4
  by_cases h0 : x4 = 0
  · skip
    obtain ⟨x5, hx5⟩ : ∃ x : Int, x = pickV m b p5 4 := ⟨_, rfl⟩
    obtain ⟨p6, hp6⟩ : ∃ z : Int, z = p5 + 1 := ⟨_, rfl⟩
    have c5 := m_pick m hm b hb p5 (by omega) 4 (by omega) x5 hx5 p6 hp6
    have i5 := pickV_in (m := m) (b := b) (p := p5) (n := 4) hb (by omega) (by omega)
    rw [← hx5] at i5
    obtain ⟨x6, hx6⟩ : ∃ x : Int, x = pickV m b p6 n := ⟨_, rfl⟩
    obtain ⟨p7, hp7⟩ : ∃ z : Int, z = p6 + 1 := ⟨_, rfl⟩
    have c6 := m_pick m hm b hb p6 (by omega) n (by omega) x6 hx6 p7 hp7
    have i6 := pickV_in (m := m) (b := b) (p := p6) (n := n) hb (by omega) (by omega)
    rw [← hx6] at i6
    obtain ⟨x7, hx7⟩ : ∃ x : Int, x = pickV m b p7 7 := ⟨_, rfl⟩
    obtain ⟨p8, hp8⟩ : ∃ z : Int, z = p7 + 1 := ⟨_, rfl⟩
    have c7 := m_pick m hm b hb p7 (by omega) 7 (by omega) x7 hx7 p8 hp8
    have i7 := pickV_in (m := m) (b := b) (p := p7) (n := 7) hb (by omega) (by omega)
    rw [← hx7] at i7
    obtain ⟨x8, hx8⟩ : ∃ x : Int, x = pickV m b p8 5 := ⟨_, rfl⟩
    obtain ⟨p9, hp9⟩ : ∃ z : Int, z = p8 + 1 := ⟨_, rfl⟩
    have c8 := m_pick m hm b hb p8 (by omega) 5 (by omega) x8 hx8 p9 hp9
    have i8 := pickV_in (m := m) (b := b) (p := p8) (n := 5) hb (by omega) (by omega)
    rw [← hx8] at i8
    obtain ⟨i0, hi0⟩ : ∃ it : ItmT, it = ⟨2, real.sel [1, 10, 60, 1000] (real.add 0 (real.nat x5)), 0, 0, 0⟩ := ⟨_, rfl⟩
    obtain ⟨kv, hkv⟩ : ∃ z : Int, z = real.sel [-1, 0, 61, 4, 10, 1000, 901] (real.add 0 (real.nat x7)) := ⟨_, rfl⟩
    obtain ⟨it, hit⟩ : ∃ it : ItmT, it = bif decide (x6 > 0) then i0 else bif (x8 == 0) then { i0 with kind := kv } else bif (x8 == 1) then { i0 with t := kv } else bif (x8 == 2) then { i0 with key := kv } else bif (x8 == 3) then { i0 with v := kv } else { i0 with n := kv } := ⟨_, rfl⟩
    obtain ⟨q, hq⟩ : ∃ z : Int, z = bif decide (x6 > 0) then p7 else p9 := ⟨_, rfl⟩
    refine ⟨it, q, by rw [hq]; cases decide (x6 > 0) <;> simp only [cond_true, cond_false] <;> omega, ?_⟩
    refine meets_of (H := []) (EX := EXA) ttok mixed Try.func111 rfl (by kernel_rfl) (by decide) ?_
    generalize hA : real = A
    generalize hM : Meets Try.prog = M
    cbv
    repeat' first
      | (refine br_t hA (by subst hA; exact (show (x4 == 0) = true by rw [h0]; rfl)) ?_)
      | apply And.intro
      | exact True.intro
      | with_reducible rfl
      | exact same_of hA rfl
      | refine br_of hA (fun _ => ?_) (fun _ => ?_)
      | exact imp_of hA id
      | (refine imp_of hA ?_; subst hA; simp only [real, Bool.true_and]; exact id)
      | (refine ind_of hA ?_; decide +kernel)
      | (refine call_of hA hM _ hr ?_; cbv)
      | (refine call_of hA hM _ c4 ?_; cbv)
      | (refine call_of hA hM _ c5 ?_; cbv)
      | (refine call_of hA hM _ c6 ?_; cbv)
      | (refine call_of hA hM _ c7 ?_; cbv)
      | (refine call_of hA hM _ c8 ?_; cbv)
      | (refine inb_of hA fun _ => ?_; exact ⟨i5.1, i5.2⟩)
      | (refine inb_of hA fun _ => ?_; exact ⟨i7.1, i7.2⟩)
    · rename_i hg; subst hA; have e0 : decide (x6 > 0) = true := hg; rw [hit, e0]; subst hkv; subst hi0; rfl
    · rename_i hg; subst hA; have e0 : decide (x6 > 0) = true := hg; rw [hq, e0]; rfl
    · rename_i hg s0; subst hA; have e0 : decide (x6 > 0) = false := hg; have e1 : (x8 == 0) = true := s0; rw [hit, e0, e1]; subst hkv; subst hi0; rfl
    · rename_i hg s0; subst hA; have e0 : decide (x6 > 0) = false := hg; have e1 : (x8 == 0) = true := s0; rw [hq, e0]; rfl
    · rename_i hg s0 s1; subst hA; have e0 : decide (x6 > 0) = false := hg; have e1 : (x8 == 0) = false := s0; have e2 : (x8 == 1) = true := s1; rw [hit, e0, e1, e2]; subst hkv; subst hi0; rfl
    · rename_i hg s0 s1; subst hA; have e0 : decide (x6 > 0) = false := hg; have e1 : (x8 == 0) = false := s0; have e2 : (x8 == 1) = true := s1; rw [hq, e0]; rfl
    · rename_i hg s0 s1 s2; subst hA; have e0 : decide (x6 > 0) = false := hg; have e1 : (x8 == 0) = false := s0; have e2 : (x8 == 1) = false := s1; have e3 : (x8 == 2) = true := s2; rw [hit, e0, e1, e2, e3]; subst hkv; subst hi0; rfl
    · rename_i hg s0 s1 s2; subst hA; have e0 : decide (x6 > 0) = false := hg; have e1 : (x8 == 0) = false := s0; have e2 : (x8 == 1) = false := s1; have e3 : (x8 == 2) = true := s2; rw [hq, e0]; rfl
    · rename_i hg s0 s1 s2 s3; subst hA; have e0 : decide (x6 > 0) = false := hg; have e1 : (x8 == 0) = false := s0; have e2 : (x8 == 1) = false := s1; have e3 : (x8 == 2) = false := s2; have e4 : (x8 == 3) = true := s3; rw [hit, e0, e1, e2, e3, e4]; subst hkv; subst hi0; rfl
    · rename_i hg s0 s1 s2 s3; subst hA; have e0 : decide (x6 > 0) = false := hg; have e1 : (x8 == 0) = false := s0; have e2 : (x8 == 1) = false := s1; have e3 : (x8 == 2) = false := s2; have e4 : (x8 == 3) = true := s3; rw [hq, e0]; rfl
    · rename_i hg s0 s1 s2 s3; subst hA; have e0 : decide (x6 > 0) = false := hg; have e1 : (x8 == 0) = false := s0; have e2 : (x8 == 1) = false := s1; have e3 : (x8 == 2) = false := s2; have e4 : (x8 == 3) = false := s3; rw [hit, e0, e1, e2, e3, e4]; subst hkv; subst hi0; rfl
    · rename_i hg s0 s1 s2 s3; subst hA; have e0 : decide (x6 > 0) = false := hg; have e1 : (x8 == 0) = false := s0; have e2 : (x8 == 1) = false := s1; have e3 : (x8 == 2) = false := s2; have e4 : (x8 == 3) = false := s3; rw [hq, e0]; rfl
  by_cases h1 : x4 = 1
  · skip
    obtain ⟨x5, hx5⟩ : ∃ x : Int, x = pickV m b p5 3 := ⟨_, rfl⟩
    obtain ⟨p6, hp6⟩ : ∃ z : Int, z = p5 + 1 := ⟨_, rfl⟩
    have c5 := m_pick m hm b hb p5 (by omega) 3 (by omega) x5 hx5 p6 hp6
    have i5 := pickV_in (m := m) (b := b) (p := p5) (n := 3) hb (by omega) (by omega)
    rw [← hx5] at i5
    obtain ⟨x6, hx6⟩ : ∃ x : Int, x = pickV m b p6 n := ⟨_, rfl⟩
    obtain ⟨p7, hp7⟩ : ∃ z : Int, z = p6 + 1 := ⟨_, rfl⟩
    have c6 := m_pick m hm b hb p6 (by omega) n (by omega) x6 hx6 p7 hp7
    have i6 := pickV_in (m := m) (b := b) (p := p6) (n := n) hb (by omega) (by omega)
    rw [← hx6] at i6
    obtain ⟨x7, hx7⟩ : ∃ x : Int, x = pickV m b p7 7 := ⟨_, rfl⟩
    obtain ⟨p8, hp8⟩ : ∃ z : Int, z = p7 + 1 := ⟨_, rfl⟩
    have c7 := m_pick m hm b hb p7 (by omega) 7 (by omega) x7 hx7 p8 hp8
    have i7 := pickV_in (m := m) (b := b) (p := p7) (n := 7) hb (by omega) (by omega)
    rw [← hx7] at i7
    obtain ⟨x8, hx8⟩ : ∃ x : Int, x = pickV m b p8 5 := ⟨_, rfl⟩
    obtain ⟨p9, hp9⟩ : ∃ z : Int, z = p8 + 1 := ⟨_, rfl⟩
    have c8 := m_pick m hm b hb p8 (by omega) 5 (by omega) x8 hx8 p9 hp9
    have i8 := pickV_in (m := m) (b := b) (p := p8) (n := 5) hb (by omega) (by omega)
    rw [← hx8] at i8
    obtain ⟨i0, hi0⟩ : ∃ it : ItmT, it = ⟨3, 0, 0, 0, real.sel [1, 2, 900] (real.add 0 (real.nat x5))⟩ := ⟨_, rfl⟩
    obtain ⟨kv, hkv⟩ : ∃ z : Int, z = real.sel [-1, 0, 61, 4, 10, 1000, 901] (real.add 0 (real.nat x7)) := ⟨_, rfl⟩
    obtain ⟨it, hit⟩ : ∃ it : ItmT, it = bif decide (x6 > 0) then i0 else bif (x8 == 0) then { i0 with kind := kv } else bif (x8 == 1) then { i0 with t := kv } else bif (x8 == 2) then { i0 with key := kv } else bif (x8 == 3) then { i0 with v := kv } else { i0 with n := kv } := ⟨_, rfl⟩
    obtain ⟨q, hq⟩ : ∃ z : Int, z = bif decide (x6 > 0) then p7 else p9 := ⟨_, rfl⟩
    refine ⟨it, q, by rw [hq]; cases decide (x6 > 0) <;> simp only [cond_true, cond_false] <;> omega, ?_⟩
    refine meets_of (H := []) (EX := EXA) ttok mixed Try.func111 rfl (by kernel_rfl) (by decide) ?_
    generalize hA : real = A
    generalize hM : Meets Try.prog = M
    cbv
    repeat' first
      | (refine br_f hA (by subst hA; exact (show (x4 == 0) = false by exact beq_false_of_ne h0)) ?_)
      | (refine br_t hA (by subst hA; exact (show (x4 == 1) = true by rw [h1]; rfl)) ?_)
      | apply And.intro
      | exact True.intro
      | with_reducible rfl
      | exact same_of hA rfl
      | refine br_of hA (fun _ => ?_) (fun _ => ?_)
      | exact imp_of hA id
      | (refine imp_of hA ?_; subst hA; simp only [real, Bool.true_and]; exact id)
      | (refine ind_of hA ?_; decide +kernel)
      | (refine call_of hA hM _ hr ?_; cbv)
      | (refine call_of hA hM _ c4 ?_; cbv)
      | (refine call_of hA hM _ c5 ?_; cbv)
      | (refine call_of hA hM _ c6 ?_; cbv)
      | (refine call_of hA hM _ c7 ?_; cbv)
      | (refine call_of hA hM _ c8 ?_; cbv)
      | (refine inb_of hA fun _ => ?_; exact ⟨i5.1, i5.2⟩)
      | (refine inb_of hA fun _ => ?_; exact ⟨i7.1, i7.2⟩)
    · rename_i hg; subst hA; have e0 : decide (x6 > 0) = true := hg; rw [hit, e0]; subst hkv; subst hi0; rfl
    · rename_i hg; subst hA; have e0 : decide (x6 > 0) = true := hg; rw [hq, e0]; rfl
    · rename_i hg s0; subst hA; have e0 : decide (x6 > 0) = false := hg; have e1 : (x8 == 0) = true := s0; rw [hit, e0, e1]; subst hkv; subst hi0; rfl
    · rename_i hg s0; subst hA; have e0 : decide (x6 > 0) = false := hg; have e1 : (x8 == 0) = true := s0; rw [hq, e0]; rfl
    · rename_i hg s0 s1; subst hA; have e0 : decide (x6 > 0) = false := hg; have e1 : (x8 == 0) = false := s0; have e2 : (x8 == 1) = true := s1; rw [hit, e0, e1, e2]; subst hkv; subst hi0; rfl
    · rename_i hg s0 s1; subst hA; have e0 : decide (x6 > 0) = false := hg; have e1 : (x8 == 0) = false := s0; have e2 : (x8 == 1) = true := s1; rw [hq, e0]; rfl
    · rename_i hg s0 s1 s2; subst hA; have e0 : decide (x6 > 0) = false := hg; have e1 : (x8 == 0) = false := s0; have e2 : (x8 == 1) = false := s1; have e3 : (x8 == 2) = true := s2; rw [hit, e0, e1, e2, e3]; subst hkv; subst hi0; rfl
    · rename_i hg s0 s1 s2; subst hA; have e0 : decide (x6 > 0) = false := hg; have e1 : (x8 == 0) = false := s0; have e2 : (x8 == 1) = false := s1; have e3 : (x8 == 2) = true := s2; rw [hq, e0]; rfl
    · rename_i hg s0 s1 s2 s3; subst hA; have e0 : decide (x6 > 0) = false := hg; have e1 : (x8 == 0) = false := s0; have e2 : (x8 == 1) = false := s1; have e3 : (x8 == 2) = false := s2; have e4 : (x8 == 3) = true := s3; rw [hit, e0, e1, e2, e3, e4]; subst hkv; subst hi0; rfl
    · rename_i hg s0 s1 s2 s3; subst hA; have e0 : decide (x6 > 0) = false := hg; have e1 : (x8 == 0) = false := s0; have e2 : (x8 == 1) = false := s1; have e3 : (x8 == 2) = false := s2; have e4 : (x8 == 3) = true := s3; rw [hq, e0]; rfl
    · rename_i hg s0 s1 s2 s3; subst hA; have e0 : decide (x6 > 0) = false := hg; have e1 : (x8 == 0) = false := s0; have e2 : (x8 == 1) = false := s1; have e3 : (x8 == 2) = false := s2; have e4 : (x8 == 3) = false := s3; rw [hit, e0, e1, e2, e3, e4]; subst hkv; subst hi0; rfl
    · rename_i hg s0 s1 s2 s3; subst hA; have e0 : decide (x6 > 0) = false := hg; have e1 : (x8 == 0) = false := s0; have e2 : (x8 == 1) = false := s1; have e3 : (x8 == 2) = false := s2; have e4 : (x8 == 3) = false := s3; rw [hq, e0]; rfl
  · skip
    obtain ⟨x5, hx5⟩ : ∃ x : Int, x = pickV m b p5 n := ⟨_, rfl⟩
    obtain ⟨p6, hp6⟩ : ∃ z : Int, z = p5 + 1 := ⟨_, rfl⟩
    have c5 := m_pick m hm b hb p5 (by omega) n (by omega) x5 hx5 p6 hp6
    have i5 := pickV_in (m := m) (b := b) (p := p5) (n := n) hb (by omega) (by omega)
    rw [← hx5] at i5
    obtain ⟨x6, hx6⟩ : ∃ x : Int, x = pickV m b p6 7 := ⟨_, rfl⟩
    obtain ⟨p7, hp7⟩ : ∃ z : Int, z = p6 + 1 := ⟨_, rfl⟩
    have c6 := m_pick m hm b hb p6 (by omega) 7 (by omega) x6 hx6 p7 hp7
    have i6 := pickV_in (m := m) (b := b) (p := p6) (n := 7) hb (by omega) (by omega)
    rw [← hx6] at i6
    obtain ⟨x7, hx7⟩ : ∃ x : Int, x = pickV m b p7 5 := ⟨_, rfl⟩
    obtain ⟨p8, hp8⟩ : ∃ z : Int, z = p7 + 1 := ⟨_, rfl⟩
    have c7 := m_pick m hm b hb p7 (by omega) 5 (by omega) x7 hx7 p8 hp8
    have i7 := pickV_in (m := m) (b := b) (p := p7) (n := 5) hb (by omega) (by omega)
    rw [← hx7] at i7
    obtain ⟨i0, hi0⟩ : ∃ it : ItmT, it = r := ⟨_, rfl⟩
    obtain ⟨kv, hkv⟩ : ∃ z : Int, z = real.sel [-1, 0, 61, 4, 10, 1000, 901] (real.add 0 (real.nat x6)) := ⟨_, rfl⟩
    obtain ⟨it, hit⟩ : ∃ it : ItmT, it = bif decide (x5 > 0) then i0 else bif (x7 == 0) then { i0 with kind := kv } else bif (x7 == 1) then { i0 with t := kv } else bif (x7 == 2) then { i0 with key := kv } else bif (x7 == 3) then { i0 with v := kv } else { i0 with n := kv } := ⟨_, rfl⟩
    obtain ⟨q, hq⟩ : ∃ z : Int, z = bif decide (x5 > 0) then p6 else p8 := ⟨_, rfl⟩
    refine ⟨it, q, by rw [hq]; cases decide (x5 > 0) <;> simp only [cond_true, cond_false] <;> omega, ?_⟩
    refine meets_of (H := []) (EX := EXA) ttok mixed Try.func111 rfl (by kernel_rfl) (by decide) ?_
    generalize hA : real = A
    generalize hM : Meets Try.prog = M
    cbv
    repeat' first
      | (refine br_f hA (by subst hA; exact (show (x4 == 0) = false by exact beq_false_of_ne h0)) ?_)
      | (refine br_f hA (by subst hA; exact (show (x4 == 1) = false by exact beq_false_of_ne h1)) ?_)
      | apply And.intro
      | exact True.intro
      | with_reducible rfl
      | exact same_of hA rfl
      | refine br_of hA (fun _ => ?_) (fun _ => ?_)
      | exact imp_of hA id
      | (refine imp_of hA ?_; subst hA; simp only [real, Bool.true_and]; exact id)
      | (refine ind_of hA ?_; decide +kernel)
      | (refine call_of hA hM _ hr ?_; cbv)
      | (refine call_of hA hM _ c4 ?_; cbv)
      | (refine call_of hA hM _ c5 ?_; cbv)
      | (refine call_of hA hM _ c6 ?_; cbv)
      | (refine call_of hA hM _ c7 ?_; cbv)
      | (refine inb_of hA fun _ => ?_; exact ⟨i6.1, i6.2⟩)
    · rename_i hg; subst hA; have e0 : decide (x5 > 0) = true := hg; rw [hit, e0]; subst hkv; subst hi0; rfl
    · rename_i hg; subst hA; have e0 : decide (x5 > 0) = true := hg; rw [hq, e0]; rfl
    · rename_i hg s0; subst hA; have e0 : decide (x5 > 0) = false := hg; have e1 : (x7 == 0) = true := s0; rw [hit, e0, e1]; subst hkv; subst hi0; rfl
    · rename_i hg s0; subst hA; have e0 : decide (x5 > 0) = false := hg; have e1 : (x7 == 0) = true := s0; rw [hq, e0]; rfl
    · rename_i hg s0 s1; subst hA; have e0 : decide (x5 > 0) = false := hg; have e1 : (x7 == 0) = false := s0; have e2 : (x7 == 1) = true := s1; rw [hit, e0, e1, e2]; subst hkv; subst hi0; rfl
    · rename_i hg s0 s1; subst hA; have e0 : decide (x5 > 0) = false := hg; have e1 : (x7 == 0) = false := s0; have e2 : (x7 == 1) = true := s1; rw [hq, e0]; rfl
    · rename_i hg s0 s1 s2; subst hA; have e0 : decide (x5 > 0) = false := hg; have e1 : (x7 == 0) = false := s0; have e2 : (x7 == 1) = false := s1; have e3 : (x7 == 2) = true := s2; rw [hit, e0, e1, e2, e3]; subst hkv; subst hi0; rfl
    · rename_i hg s0 s1 s2; subst hA; have e0 : decide (x5 > 0) = false := hg; have e1 : (x7 == 0) = false := s0; have e2 : (x7 == 1) = false := s1; have e3 : (x7 == 2) = true := s2; rw [hq, e0]; rfl
    · rename_i hg s0 s1 s2 s3; subst hA; have e0 : decide (x5 > 0) = false := hg; have e1 : (x7 == 0) = false := s0; have e2 : (x7 == 1) = false := s1; have e3 : (x7 == 2) = false := s2; have e4 : (x7 == 3) = true := s3; rw [hit, e0, e1, e2, e3, e4]; subst hkv; subst hi0; rfl
    · rename_i hg s0 s1 s2 s3; subst hA; have e0 : decide (x5 > 0) = false := hg; have e1 : (x7 == 0) = false := s0; have e2 : (x7 == 1) = false := s1; have e3 : (x7 == 2) = false := s2; have e4 : (x7 == 3) = true := s3; rw [hq, e0]; rfl
    · rename_i hg s0 s1 s2 s3; subst hA; have e0 : decide (x5 > 0) = false := hg; have e1 : (x7 == 0) = false := s0; have e2 : (x7 == 1) = false := s1; have e3 : (x7 == 2) = false := s2; have e4 : (x7 == 3) = false := s3; rw [hit, e0, e1, e2, e3, e4]; subst hkv; subst hi0; rfl
    · rename_i hg s0 s1 s2 s3; subst hA; have e0 : decide (x5 > 0) = false := hg; have e1 : (x7 == 0) = false := s0; have e2 : (x7 == 1) = false := s1; have e3 : (x7 == 2) = false := s2; have e4 : (x7 == 3) = false := s3; rw [hq, e0]; rfl
end Go.Rk
