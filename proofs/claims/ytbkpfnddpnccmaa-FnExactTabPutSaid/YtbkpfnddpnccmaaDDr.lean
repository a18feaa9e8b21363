/- Draws. -/
import Derived.Test.YtbkpfnddpnccmaaDSp
namespace Go.Rk
set_option linter.unusedSimpArgs false
set_option linter.unusedVariables false
theorem br_t {A : Ar} (hA : real = A) {t : Bool} {p q : Prop} (h : t = true) (hp : p) : A.br t p q := by subst hA; exact ⟨fun _ => hp, fun h2 => by rw [h] at h2; cases h2⟩
theorem br_f {A : Ar} (hA : real = A) {t : Bool} {p q : Prop} (h : t = false) (hq : q) : A.br t p q := by subst hA; exact ⟨fun h2 => (by rw [h] at h2; cases h2), fun _ => hq⟩
abbrev eU (n : Int) : DV := .v (.int .u8 n)
def pickY (m : Nat) (b : Nat → Int) (p : Int) : Int := b (p.tmod m).toNat * 131 + b ((p * 7 + 3).tmod m).toNat * 1117 + p * 29 + p.tdiv m * 53
def pickX (y : Int) : Int := IntKind.i64.wrap (BitVec.ofInt 64 y ^^^ BitVec.ofInt 64 (y.tdiv 64)).toNat
def pickV (m : Nat) (b : Nat → Int) (p n : Int) : Int := if m = 0 then 0 else if p < m then (b p.toNat).tmod n else (pickX (pickY m b p)).tmod n
theorem xor_nn {a b : Int} (h0 : 0 ≤ a ∧ a < 4611686018427387904) (h1 : 0 ≤ b ∧ b < 4611686018427387904) : 0 ≤ ((BitVec.ofInt 64 a ^^^ BitVec.ofInt 64 b).toNat : Int) ∧ ((BitVec.ofInt 64 a ^^^ BitVec.ofInt 64 b).toNat : Int) < 4611686018427387904 := by
  have e : ∀ c : Int, 0 ≤ c ∧ c < 4611686018427387904 → (BitVec.ofInt 64 c).toNat < 2 ^ 62 := fun c hc => by
    rw [BitVec.toNat_ofInt]
    have h64 : ((2 ^ 64 : Nat) : Int) = 18446744073709551616 := by decide
    have h62 : (2 : Nat) ^ 62 = 4611686018427387904 := by decide
    rw [h64, h62]
    omega
  have h := Nat.xor_lt_two_pow (e a h0) (e b h1)
  rw [← BitVec.toNat_xor] at h
  have : (2 : Nat) ^ 62 = 4611686018427387904 := by decide
  exact ⟨by omega, by omega⟩
theorem tmod_in {a n : Int} (ha : 0 ≤ a) (hn : 1 ≤ n) : 0 ≤ a.tmod n ∧ a.tmod n < n := ⟨Int.tmod_nonneg n ha, Int.tmod_lt_of_pos a (by omega)⟩
theorem pickY_in {m : Nat} {b : Nat → Int} {p : Int} (hm : 1 ≤ m) (hb : ∀ i, 0 ≤ b i ∧ b i ≤ 255) (hp : 0 ≤ p ∧ p ≤ 1000000) : 0 ≤ pickY m b p ∧ pickY m b p ≤ 1000000000 := by
  unfold pickY
  have h1 := hb (p.tmod m).toNat
  have h2 := hb ((p * 7 + 3).tmod m).toNat
  have h3 : 0 ≤ p.tdiv m := Int.tdiv_nonneg hp.1 (by omega)
  have h4 : p.tdiv m ≤ p := by
    have := Int.tdiv_le_self (a := p) m hp.1
    exact this
  omega
theorem pickV_in {m : Nat} {b : Nat → Int} {p n : Int} (hb : ∀ i, 0 ≤ b i ∧ b i ≤ 255) (hp : 0 ≤ p ∧ p ≤ 1000000) (hn : 1 ≤ n) : 0 ≤ pickV m b p n ∧ pickV m b p n < n := by
  unfold pickV
  split
  · omega
  · split
    · exact tmod_in (hb _).1 hn
    · refine tmod_in ?_ hn
      have hy := pickY_in (m := m) (p := p) (by omega) hb hp
      have hd : 0 ≤ (pickY m b p).tdiv 64 := Int.tdiv_nonneg hy.1 (by decide)
      have hd2 : (pickY m b p).tdiv 64 ≤ pickY m b p := Int.tdiv_le_self 64 hy.1
      have hx := xor_nn (a := pickY m b p) (b := (pickY m b p).tdiv 64) ⟨hy.1, by omega⟩ ⟨hd, by omega⟩
      unfold pickX
      rw [IntWalk.i64_in _ (by omega)]
      exact hx.1
end Go.Rk
