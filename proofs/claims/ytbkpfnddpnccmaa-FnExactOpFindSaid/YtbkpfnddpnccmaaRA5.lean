/- A part of the walk over this seat's functions: what each answers, at all data. -/
import Derived.Test.YtbkpfnddpnccmaaRA4
namespace Go.Rk
open Go.Proofs
set_option maxRecDepth 100000 in
theorem m3 (mark : Int) (n : Nat) (hn : n ≤ maxLen) (rd : Nat → RowT) (k : Int) (w : WinT) :
    Meets Try.prog 3 [xd (eSt mark n rd), .c (.d (eI k)), xd (eWin w)] ⟨.one (.c (.d (eB true))), [none, none, none]⟩ := by
  obtain ⟨x, hx⟩ : ∃ x : Int, (Int.ofNat n ≤ 1048576 ∧ x = 1048576 - Int.ofNat n) ∨ (1048576 < Int.ofNat n ∧ x = -1) := by
    by_cases h : Int.ofNat n ≤ 1048576
    · exact ⟨_, .inl ⟨h, rfl⟩⟩
    · exact ⟨_, .inr ⟨by omega, rfl⟩⟩
  obtain ⟨r, b, hF⟩ := first_ex n rd k w
  refine meets_of (H := []) (EX := EXA) ttok mixed Try.func3 rfl (by kernel_rfl) (by decide) ?_
  generalize hA : real = A
  generalize hM : Meets Try.prog = M
  cbv
  repeat' first | apply And.intro | refine br_of hA (fun _ => ?_) (fun _ => ?_)
  all_goals first | exact True.intro | with_reducible rfl | exact same_of hA rfl | exact imp_of hA id | (refine imp_of hA ?_; subst hA; simp only [real, Bool.true_and]; exact id) | (refine ind_of hA ?_; decide +kernel) | skip
  refine call_of hA hM _ (m15 mark n hn rd 1048576 rfl x hx) ?_
  cbv
  repeat' first | apply And.intro | refine br_of hA (fun _ => ?_) (fun _ => ?_)
  all_goals first | exact True.intro | with_reducible rfl | exact same_of hA rfl | exact imp_of hA id | (refine imp_of hA ?_; subst hA; simp only [real, Bool.true_and]; exact id) | (refine ind_of hA ?_; decide +kernel) | skip
  rename_i hge
  have hn2 : n ≤ 1048576 := by
    subst hA
    have : ¬ x < 0 := of_decide_eq_false hge
    simp only [Int.ofNat_eq_natCast] at hx
    omega
  refine call_of hA hM _ (m17 mark n hn2 rd) ?_
  cbv
  repeat' first | apply And.intro | refine br_of hA (fun _ => ?_) (fun _ => ?_)
  all_goals first | exact True.intro | with_reducible rfl | exact same_of hA rfl | exact imp_of hA id | (refine imp_of hA ?_; subst hA; simp only [real, Bool.true_and]; exact id) | (refine ind_of hA ?_; decide +kernel) | skip
  refine call_of hA hM _ (m18 w) ?_
  cbv
  repeat' first | apply And.intro | refine br_of hA (fun _ => ?_) (fun _ => ?_)
  all_goals first | exact True.intro | with_reducible rfl | exact same_of hA rfl | exact imp_of hA id | (refine imp_of hA ?_; subst hA; simp only [real, Bool.true_and]; exact id) | (refine ind_of hA ?_; decide +kernel) | skip
  have hs := sub0 hA (fun i => eRow (rd i))
  have h16 : Meets Try.prog 16 [xd (eSt mark n rd), .c (.d (eI k)), xd (eWin w)] ⟨.tup [xd (eRow r), .c (.d (eB b))], [none, none, none]⟩ := by
    obtain ⟨r', b', h1, h2⟩ := m16 mark n hn rd k w
    obtain ⟨rfl, rfl⟩ := first_one hF h1
    exact h2
  refine call_of2 hA hM _ h16 (congrArg (fun f => [XT.agg [.d (eI mark), .d (.sl 13 n f)], .c (.d (eI k)), xd (eWin w)]) hs) ?_
  cbv
  repeat' first | apply And.intro | refine br_of hA (fun _ => ?_) (fun _ => ?_)
  all_goals first | exact True.intro | with_reducible rfl | exact same_of hA rfl | exact imp_of hA id | (refine imp_of hA ?_; subst hA; simp only [real, Bool.true_and]; exact id) | (refine ind_of hA ?_; decide +kernel) | (exfalso; rename_i h; subst hA; simp [real] at h; done) | skip
  refine call_of hA hM _ (m17 mark n hn2 rd) ?_
  cbv
  repeat' first | apply And.intro | refine br_of hA (fun _ => ?_) (fun _ => ?_)
  all_goals first | exact True.intro | with_reducible rfl | exact same_of hA rfl | exact imp_of hA id | (refine imp_of hA ?_; subst hA; simp only [real, Bool.true_and]; exact id) | (refine ind_of hA ?_; decide +kernel) | (exfalso; rename_i h; subst hA; simp [real] at h; done) | skip
  refine call_of hA hM _ (m18 w) ?_
  cbv
  repeat' first | apply And.intro | refine br_of hA (fun _ => ?_) (fun _ => ?_)
  all_goals first | exact True.intro | with_reducible rfl | exact same_of hA rfl | exact imp_of hA id | (refine imp_of hA ?_; subst hA; simp only [real, Bool.true_and]; exact id) | (refine ind_of hA ?_; decide +kernel) | (exfalso; rename_i h; subst hA; simp [real] at h; done) | skip
  refine call_of2 hA hM _ (m19 mark n hn rd k w r b hF) (congrArg (fun f => [XT.agg [.d (eI mark), .d (.sl 13 n f)], .c (.d (eI k)), xd (eWin w)]) hs) ?_
  cbv
  repeat' first | apply And.intro | refine br_of hA (fun _ => ?_) (fun _ => ?_)
  all_goals first | exact True.intro | with_reducible rfl | exact same_of hA rfl | exact imp_of hA id | (refine imp_of hA ?_; subst hA; simp only [real, Bool.true_and]; exact id) | (refine ind_of hA ?_; decide +kernel) | (exfalso; rename_i h; subst hA; simp [real] at h; done) | skip
  refine call_of hA hM _ (m20 r) ?_
  cbv
  repeat' first | apply And.intro | refine br_of hA (fun _ => ?_) (fun _ => ?_)
  all_goals first | exact True.intro | with_reducible rfl | exact same_of hA rfl | exact imp_of hA id | (refine imp_of hA ?_; subst hA; simp only [real, Bool.true_and]; exact id) | (refine ind_of hA ?_; decide +kernel) | (exfalso; rename_i h; subst hA; simp [real] at h; done) | skip
  refine call_of hA hM _ (m17 mark n hn2 rd) ?_
  cbv
  repeat' first | apply And.intro | refine br_of hA (fun _ => ?_) (fun _ => ?_)
  all_goals first | exact True.intro | with_reducible rfl | exact same_of hA rfl | exact imp_of hA id | (refine imp_of hA ?_; subst hA; simp only [real, Bool.true_and]; exact id) | (refine ind_of hA ?_; decide +kernel) | (exfalso; rename_i h; subst hA; simp [real] at h; done) | skip
  refine call_of2 hA hM _ (m21 mark n hn rd) (congrArg (fun f => [XT.agg [.d (eI mark), .d (.sl 13 n f)], XT.agg [.d (eI mark), .d (.sl 13 n f)]]) hs) ?_
  cbv
  repeat' first | apply And.intro | refine br_of hA (fun _ => ?_) (fun _ => ?_)
  all_goals first | exact True.intro | with_reducible rfl | exact same_of hA rfl | exact imp_of hA id | (refine imp_of hA ?_; subst hA; simp only [real, Bool.true_and]; exact id) | (refine ind_of hA ?_; decide +kernel) | (exfalso; rename_i h; subst hA; simp [real] at h; done) | skip
end Go.Rk
