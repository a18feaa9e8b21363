/- FnExactFloOk answers true at every input, and its input reads as before: no condition. -/
import Derived.Test.YtppekklalfebkaaGreatTW15
import Derived.Test.YtppekklalfebkaaGreatRows
import Derived.WalkKit
import Derived.ProofKit
import Derived.OpenShut
import Derived.ShutString
import Derived.ChangeOld
import Derived.SizedLaws
namespace Go.Rk
set_option linter.unusedSimpArgs false
set_option linter.unusedVariables false
open Go.Proofs Go.ChangeShapes Go.WideShapes Go.ChangeAt Go.RowKit
set_option maxRecDepth 100000 in
theorem m_law (f : FloT) : Meets Tryz.prog 6 [xd (eFlo f)] ⟨.one (.c (.d (eB true))), [none]⟩ := by
  obtain ⟨y, hy⟩ : ∃ y : Int, y = szFlo f 1048576 := ⟨_, rfl⟩
  have hc := sz_Flo f 1048576 (by omega) (by omega) y hy
  have hs := szFlo_spec f (l0 := 1048576) (by omega) (by omega)
  rw [← hy] at hs
  refine meets_of (H := []) (EX := EXA) ttok mixed Tryz.func6 rfl (by kernel_rfl) (by decide) ?_
  generalize hA : real = A
  generalize hM : Meets Tryz.prog = M
  cbv
  repeat' first
    | apply And.intro
    | exact True.intro
    | with_reducible rfl
    | exact same_of hA rfl
    | refine br_of hA (fun _ => ?_) (fun _ => ?_)
    | exact imp_of hA id
    | (refine imp_of hA ?_; subst hA; simp only [real, Bool.true_and]; exact id)
    | (refine ind_of hA ?_; decide +kernel)
    | (refine call_of hA hM _ hc ?_; cbv)
  rename_i hge
  have hbd : bdFlo f := hs.2.2 (by subst hA; have h : ¬ y < 0 := of_decide_eq_false hge; omega)
  obtain ⟨b, hb, hm⟩ := c_FloOk f hbd
  obtain ⟨b', hb', hm'⟩ := c_sFloOk f hbd
  have e : b' = b := Bool.eq_iff_iff.2 (hb'.trans hb.symm)
  subst e
  repeat' first
    | apply And.intro
    | exact True.intro
    | with_reducible rfl
    | exact same_of hA rfl
    | refine br_of hA (fun _ => ?_) (fun _ => ?_)
    | exact imp_of hA id
    | (refine imp_of hA ?_; subst hA; simp only [real, Bool.true_and]; exact id)
    | (refine ind_of hA ?_; decide +kernel)
    | (refine call_of hA hM _ (to_Flo f hbd) ?_; cbv)
    | (refine call_of hA hM _ hm ?_; cbv)
    | (refine call_of hA hM _ hm' ?_; cbv)
    | (refine call_of hA hM _ (eq_Flo f) ?_; cbv)
    | (exfalso; rename_i h; subst hA; simp [real] at h; done)
theorem sh_int {m : Nat} {l : List DV} (h : Shows TT (m + 1) 3 l) : ∃ x, l = [eI x] := by
  obtain ⟨x, h, _⟩ := h
  exact ⟨x, h⟩
theorem sh_bool {m : Nat} {l : List DV} (h : Shows TT (m + 1) 4 l) : ∃ x, l = [eB x] := h
theorem sh_Job {m : Nat} {l : List DV} (h : Shows TT (m + 2) 23 l) : ∃ x, l = eJob x := by
  obtain ⟨_, _, rfl, h0, _, _, rfl, h1, _, _, rfl, h2, _, _, rfl, h3, _, _, rfl, h4, _, _, rfl, h5, _, _, rfl, h6, _, _, rfl, h7, _, _, rfl, h8, _, _, rfl, h9, rfl⟩ := h
  obtain ⟨a0, rfl⟩ := sh_int h0
  obtain ⟨a1, rfl⟩ := sh_int h1
  obtain ⟨a2, rfl⟩ := sh_int h2
  obtain ⟨a3, rfl⟩ := sh_int h3
  obtain ⟨a4, rfl⟩ := sh_int h4
  obtain ⟨a5, rfl⟩ := sh_int h5
  obtain ⟨a6, rfl⟩ := sh_int h6
  obtain ⟨a7, rfl⟩ := sh_bool h7
  obtain ⟨a8, rfl⟩ := sh_int h8
  obtain ⟨a9, rfl⟩ := sh_int h9
  exact ⟨⟨a0, a1, a2, a3, a4, a5, a6, a7, a8, a9⟩, rfl⟩
theorem sh_Itm {m : Nat} {l : List DV} (h : Shows TT (m + 2) 226 l) : ∃ x, l = eItm x := by
  obtain ⟨_, _, rfl, h0, _, _, rfl, h1, _, _, rfl, h2, _, _, rfl, h3, _, _, rfl, h4, rfl⟩ := h
  obtain ⟨a0, rfl⟩ := sh_int h0
  obtain ⟨a1, rfl⟩ := sh_int h1
  obtain ⟨a2, rfl⟩ := sh_int h2
  obtain ⟨a3, rfl⟩ := sh_int h3
  obtain ⟨a4, rfl⟩ := sh_int h4
  exact ⟨⟨a0, a1, a2, a3, a4⟩, rfl⟩
theorem sh_SItm {m : Nat} {l : List DV} (h : Shows TT (m + 3) 149 l) : ∃ s : Sl ItmT, l = [.sl 5 s.n fun i => eItm (s.g i)] := by
  obtain ⟨sz, n, row, rfl, hsz, hn, hr⟩ := h
  cases hsz
  have hrow : ∀ i, ∃ r : ItmT, row i = eItm r := fun i => sh_Itm (hr i)
  obtain ⟨rd, hrd⟩ : ∃ rd : Nat → ItmT, row = fun i => eItm (rd i) := ⟨fun i => Classical.choose (hrow i), funext fun i => Classical.choose_spec (hrow i)⟩
  subst hrd
  exact ⟨⟨n, rd, hn⟩, rfl⟩
theorem sh_SSItm {m : Nat} {l : List DV} (h : Shows TT (m + 4) 46 l) : ∃ s : Sl (Sl ItmT), l = [.sl 1 s.n fun i => [.sl 5 (s.g i).n fun k => eItm ((s.g i).g k)]] := by
  obtain ⟨sz, n, row, rfl, hsz, hn, hr⟩ := h
  cases hsz
  have hrow : ∀ i, ∃ r : Sl ItmT, row i = [.sl 5 r.n fun i => eItm (r.g i)] := fun i => sh_SItm (hr i)
  obtain ⟨rd, hrd⟩ : ∃ rd : Nat → Sl ItmT, row = fun i => [.sl 5 (rd i).n fun k => eItm ((rd i).g k)] := ⟨fun i => Classical.choose (hrow i), funext fun i => Classical.choose_spec (hrow i)⟩
  subst hrd
  exact ⟨⟨n, rd, hn⟩, rfl⟩
theorem sh_Src {m : Nat} {l : List DV} (h : Shows TT (m + 2) 181 l) : ∃ x, l = eSrc x := by
  obtain ⟨_, _, rfl, h0, _, _, rfl, h1, rfl⟩ := h
  obtain ⟨a0, rfl⟩ := sh_int h0
  obtain ⟨a1, rfl⟩ := sh_int h1
  exact ⟨⟨a0, a1⟩, rfl⟩
theorem sh_SSrc {m : Nat} {l : List DV} (h : Shows TT (m + 3) 47 l) : ∃ s : Sl SrcT, l = [.sl 2 s.n fun i => eSrc (s.g i)] := by
  obtain ⟨sz, n, row, rfl, hsz, hn, hr⟩ := h
  cases hsz
  have hrow : ∀ i, ∃ r : SrcT, row i = eSrc r := fun i => sh_Src (hr i)
  obtain ⟨rd, hrd⟩ : ∃ rd : Nat → SrcT, row = fun i => eSrc (rd i) := ⟨fun i => Classical.choose (hrow i), funext fun i => Classical.choose_spec (hrow i)⟩
  subst hrd
  exact ⟨⟨n, rd, hn⟩, rfl⟩
theorem sh_TskIn {m : Nat} {l : List DV} (h : Shows TT (m + 4) 268 l) : ∃ x, l = eTskIn x := by
  obtain ⟨_, _, rfl, h0, _, _, rfl, h1, _, _, rfl, h2, rfl⟩ := h
  obtain ⟨a0, rfl⟩ := sh_SItm h0
  obtain ⟨a1, rfl⟩ := sh_int h1
  obtain ⟨a2, rfl⟩ := sh_bool h2
  exact ⟨⟨a0, a1, a2⟩, rfl⟩
theorem sh_STskIn {m : Nat} {l : List DV} (h : Shows TT (m + 5) 151 l) : ∃ s : Sl TskInT, l = [.sl 3 s.n fun i => eTskIn (s.g i)] := by
  obtain ⟨sz, n, row, rfl, hsz, hn, hr⟩ := h
  cases hsz
  have hrow : ∀ i, ∃ r : TskInT, row i = eTskIn r := fun i => sh_TskIn (hr i)
  obtain ⟨rd, hrd⟩ : ∃ rd : Nat → TskInT, row = fun i => eTskIn (rd i) := ⟨fun i => Classical.choose (hrow i), funext fun i => Classical.choose_spec (hrow i)⟩
  subst hrd
  exact ⟨⟨n, rd, hn⟩, rfl⟩
theorem sh_Win {m : Nat} {l : List DV} (h : Shows TT (m + 2) 271 l) : ∃ x, l = eWin x := by
  obtain ⟨_, _, rfl, h0, _, _, rfl, h1, rfl⟩ := h
  obtain ⟨a0, rfl⟩ := sh_int h0
  obtain ⟨a1, rfl⟩ := sh_int h1
  exact ⟨⟨a0, a1⟩, rfl⟩
theorem sh_Agg {m : Nat} {l : List DV} (h : Shows TT (m + 2) 272 l) : ∃ x, l = eAgg x := by
  obtain ⟨_, _, rfl, h0, _, _, rfl, h1, _, _, rfl, h2, _, _, rfl, h3, rfl⟩ := h
  obtain ⟨a0, rfl⟩ := sh_int h0
  obtain ⟨a1, rfl⟩ := sh_int h1
  obtain ⟨a2, rfl⟩ := sh_int h2
  obtain ⟨a3, rfl⟩ := sh_int h3
  exact ⟨⟨a0, a1, a2, a3⟩, rfl⟩
theorem sh_Row {m : Nat} {l : List DV} (h : Shows TT (m + 3) 298 l) : ∃ x, l = eRow x := by
  obtain ⟨_, _, rfl, h0, _, _, rfl, h1, _, _, rfl, h2, _, _, rfl, h3, _, _, rfl, h4, _, _, rfl, h5, rfl⟩ := h
  obtain ⟨a0, rfl⟩ := sh_int h0
  obtain ⟨a1, rfl⟩ := sh_Win h1
  obtain ⟨a2, rfl⟩ := sh_Agg h2
  obtain ⟨a3, rfl⟩ := sh_Agg h3
  obtain ⟨a4, rfl⟩ := sh_int h4
  obtain ⟨a5, rfl⟩ := sh_bool h5
  exact ⟨⟨a0, a1, a2, a3, a4, a5⟩, rfl⟩
theorem sh_SRow {m : Nat} {l : List DV} (h : Shows TT (m + 4) 135 l) : ∃ s : Sl RowT, l = [.sl 13 s.n fun i => eRow (s.g i)] := by
  obtain ⟨sz, n, row, rfl, hsz, hn, hr⟩ := h
  cases hsz
  have hrow : ∀ i, ∃ r : RowT, row i = eRow r := fun i => sh_Row (hr i)
  obtain ⟨rd, hrd⟩ : ∃ rd : Nat → RowT, row = fun i => eRow (rd i) := ⟨fun i => Classical.choose (hrow i), funext fun i => Classical.choose_spec (hrow i)⟩
  subst hrd
  exact ⟨⟨n, rd, hn⟩, rfl⟩
theorem sh_OpSt {m : Nat} {l : List DV} (h : Shows TT (m + 5) 137 l) : ∃ x, l = eOpSt x := by
  obtain ⟨_, _, rfl, h0, _, _, rfl, h1, rfl⟩ := h
  obtain ⟨a0, rfl⟩ := sh_int h0
  obtain ⟨a1, rfl⟩ := sh_SRow h1
  exact ⟨⟨a0, a1⟩, rfl⟩
theorem sh_Pane {m : Nat} {l : List DV} (h : Shows TT (m + 3) 274 l) : ∃ x, l = ePane x := by
  obtain ⟨_, _, rfl, h0, _, _, rfl, h1, _, _, rfl, h2, _, _, rfl, h3, _, _, rfl, h4, rfl⟩ := h
  obtain ⟨a0, rfl⟩ := sh_int h0
  obtain ⟨a1, rfl⟩ := sh_Win h1
  obtain ⟨a2, rfl⟩ := sh_int h2
  obtain ⟨a3, rfl⟩ := sh_int h3
  obtain ⟨a4, rfl⟩ := sh_Agg h4
  exact ⟨⟨a0, a1, a2, a3, a4⟩, rfl⟩
theorem sh_SPane {m : Nat} {l : List DV} (h : Shows TT (m + 4) 152 l) : ∃ s : Sl PaneT, l = [.sl 9 s.n fun i => ePane (s.g i)] := by
  obtain ⟨sz, n, row, rfl, hsz, hn, hr⟩ := h
  cases hsz
  have hrow : ∀ i, ∃ r : PaneT, row i = ePane r := fun i => sh_Pane (hr i)
  obtain ⟨rd, hrd⟩ : ∃ rd : Nat → PaneT, row = fun i => ePane (rd i) := ⟨fun i => Classical.choose (hrow i), funext fun i => Classical.choose_spec (hrow i)⟩
  subst hrd
  exact ⟨⟨n, rd, hn⟩, rfl⟩
theorem sh_Lat {m : Nat} {l : List DV} (h : Shows TT (m + 3) 277 l) : ∃ x, l = eLat x := by
  obtain ⟨_, _, rfl, h0, _, _, rfl, h1, rfl⟩ := h
  obtain ⟨a0, rfl⟩ := sh_Itm h0
  obtain ⟨a1, rfl⟩ := sh_Win h1
  exact ⟨⟨a0, a1⟩, rfl⟩
theorem sh_SLat {m : Nat} {l : List DV} (h : Shows TT (m + 4) 153 l) : ∃ s : Sl LatT, l = [.sl 7 s.n fun i => eLat (s.g i)] := by
  obtain ⟨sz, n, row, rfl, hsz, hn, hr⟩ := h
  cases hsz
  have hrow : ∀ i, ∃ r : LatT, row i = eLat r := fun i => sh_Lat (hr i)
  obtain ⟨rd, hrd⟩ : ∃ rd : Nat → LatT, row = fun i => eLat (rd i) := ⟨fun i => Classical.choose (hrow i), funext fun i => Classical.choose_spec (hrow i)⟩
  subst hrd
  exact ⟨⟨n, rd, hn⟩, rfl⟩
theorem sh_Txn {m : Nat} {l : List DV} (h : Shows TT (m + 5) 155 l) : ∃ x, l = eTxn x := by
  obtain ⟨_, _, rfl, h0, _, _, rfl, h1, _, _, rfl, h2, rfl⟩ := h
  obtain ⟨a0, rfl⟩ := sh_int h0
  obtain ⟨a1, rfl⟩ := sh_SPane h1
  obtain ⟨a2, rfl⟩ := sh_SLat h2
  exact ⟨⟨a0, a1, a2⟩, rfl⟩
theorem sh_Tsk {m : Nat} {l : List DV} (h : Shows TT (m + 6) 157 l) : ∃ x, l = eTsk x := by
  obtain ⟨_, _, rfl, h0, _, _, rfl, h1, _, _, rfl, h2, _, _, rfl, h3, rfl⟩ := h
  obtain ⟨a0, rfl⟩ := sh_STskIn h0
  obtain ⟨a1, rfl⟩ := sh_OpSt h1
  obtain ⟨a2, rfl⟩ := sh_int h2
  obtain ⟨a3, rfl⟩ := sh_Txn h3
  exact ⟨⟨a0, a1, a2, a3⟩, rfl⟩
theorem sh_STsk {m : Nat} {l : List DV} (h : Shows TT (m + 7) 48 l) : ∃ s : Sl TskT, l = [.sl 7 s.n fun i => eTsk (s.g i)] := by
  obtain ⟨sz, n, row, rfl, hsz, hn, hr⟩ := h
  cases hsz
  have hrow : ∀ i, ∃ r : TskT, row i = eTsk r := fun i => sh_Tsk (hr i)
  obtain ⟨rd, hrd⟩ : ∃ rd : Nat → TskT, row = fun i => eTsk (rd i) := ⟨fun i => Classical.choose (hrow i), funext fun i => Classical.choose_spec (hrow i)⟩
  subst hrd
  exact ⟨⟨n, rd, hn⟩, rfl⟩
theorem sh_STxn {m : Nat} {l : List DV} (h : Shows TT (m + 6) 159 l) : ∃ s : Sl TxnT, l = [.sl 3 s.n fun i => eTxn (s.g i)] := by
  obtain ⟨sz, n, row, rfl, hsz, hn, hr⟩ := h
  cases hsz
  have hrow : ∀ i, ∃ r : TxnT, row i = eTxn r := fun i => sh_Txn (hr i)
  obtain ⟨rd, hrd⟩ : ∃ rd : Nat → TxnT, row = fun i => eTxn (rd i) := ⟨fun i => Classical.choose (hrow i), funext fun i => Classical.choose_spec (hrow i)⟩
  subst hrd
  exact ⟨⟨n, rd, hn⟩, rfl⟩
theorem sh_Sink {m : Nat} {l : List DV} (h : Shows TT (m + 7) 161 l) : ∃ x, l = eSink x := by
  obtain ⟨_, _, rfl, h0, _, _, rfl, h1, _, _, rfl, h2, _, _, rfl, h3, rfl⟩ := h
  obtain ⟨a0, rfl⟩ := sh_STxn h0
  obtain ⟨a1, rfl⟩ := sh_int h1
  obtain ⟨a2, rfl⟩ := sh_SPane h2
  obtain ⟨a3, rfl⟩ := sh_SLat h3
  exact ⟨⟨a0, a1, a2, a3⟩, rfl⟩
theorem sh_SSink {m : Nat} {l : List DV} (h : Shows TT (m + 8) 49 l) : ∃ s : Sl SinkT, l = [.sl 4 s.n fun i => eSink (s.g i)] := by
  obtain ⟨sz, n, row, rfl, hsz, hn, hr⟩ := h
  cases hsz
  have hrow : ∀ i, ∃ r : SinkT, row i = eSink r := fun i => sh_Sink (hr i)
  obtain ⟨rd, hrd⟩ : ∃ rd : Nat → SinkT, row = fun i => eSink (rd i) := ⟨fun i => Classical.choose (hrow i), funext fun i => Classical.choose_spec (hrow i)⟩
  subst hrd
  exact ⟨⟨n, rd, hn⟩, rfl⟩
theorem sh_Sint {m : Nat} {l : List DV} (h : Shows TT (m + 2) 24 l) : ∃ s : Sl Int, l = [.sl 1 s.n fun i => [eI (s.g i)]] := by
  obtain ⟨sz, n, row, rfl, hsz, hn, hr⟩ := h
  cases hsz
  have hrow : ∀ i, ∃ r : Int, row i = [eI r] := fun i => sh_int (hr i)
  obtain ⟨rd, hrd⟩ : ∃ rd : Nat → Int, row = fun i => [eI (rd i)] := ⟨fun i => Classical.choose (hrow i), funext fun i => Classical.choose_spec (hrow i)⟩
  subst hrd
  exact ⟨⟨n, rd, hn⟩, rfl⟩
theorem sh_Sbool {m : Nat} {l : List DV} (h : Shows TT (m + 2) 25 l) : ∃ s : Sl Bool, l = [.sl 1 s.n fun i => [eB (s.g i)]] := by
  obtain ⟨sz, n, row, rfl, hsz, hn, hr⟩ := h
  cases hsz
  have hrow : ∀ i, ∃ r : Bool, row i = [eB r] := fun i => sh_bool (hr i)
  obtain ⟨rd, hrd⟩ : ∃ rd : Nat → Bool, row = fun i => [eB (rd i)] := ⟨fun i => Classical.choose (hrow i), funext fun i => Classical.choose_spec (hrow i)⟩
  subst hrd
  exact ⟨⟨n, rd, hn⟩, rfl⟩
theorem sh_Snap {m : Nat} {l : List DV} (h : Shows TT (m + 6) 139 l) : ∃ x, l = eSnap x := by
  obtain ⟨_, _, rfl, h0, _, _, rfl, h1, rfl⟩ := h
  obtain ⟨a0, rfl⟩ := sh_OpSt h0
  obtain ⟨a1, rfl⟩ := sh_Sint h1
  exact ⟨⟨a0, a1⟩, rfl⟩
theorem sh_SSnap {m : Nat} {l : List DV} (h : Shows TT (m + 7) 26 l) : ∃ s : Sl SnapT, l = [.sl 3 s.n fun i => eSnap (s.g i)] := by
  obtain ⟨sz, n, row, rfl, hsz, hn, hr⟩ := h
  cases hsz
  have hrow : ∀ i, ∃ r : SnapT, row i = eSnap r := fun i => sh_Snap (hr i)
  obtain ⟨rd, hrd⟩ : ∃ rd : Nat → SnapT, row = fun i => eSnap (rd i) := ⟨fun i => Classical.choose (hrow i), funext fun i => Classical.choose_spec (hrow i)⟩
  subst hrd
  exact ⟨⟨n, rd, hn⟩, rfl⟩
theorem sh_Safe {m : Nat} {l : List DV} (h : Shows TT (m + 8) 28 l) : ∃ x, l = eSafe x := by
  obtain ⟨_, _, rfl, h0, _, _, rfl, h1, _, _, rfl, h2, rfl⟩ := h
  obtain ⟨a0, rfl⟩ := sh_int h0
  obtain ⟨a1, rfl⟩ := sh_Sint h1
  obtain ⟨a2, rfl⟩ := sh_SSnap h2
  exact ⟨⟨a0, a1, a2⟩, rfl⟩
theorem sh_Ckp {m : Nat} {l : List DV} (h : Shows TT (m + 9) 30 l) : ∃ x, l = eCkp x := by
  obtain ⟨_, _, rfl, h0, _, _, rfl, h1, _, _, rfl, h2, _, _, rfl, h3, _, _, rfl, h4, _, _, rfl, h5, rfl⟩ := h
  obtain ⟨a0, rfl⟩ := sh_int h0
  obtain ⟨a1, rfl⟩ := sh_bool h1
  obtain ⟨a2, rfl⟩ := sh_Sint h2
  obtain ⟨a3, rfl⟩ := sh_Sbool h3
  obtain ⟨a4, rfl⟩ := sh_SSnap h4
  obtain ⟨a5, rfl⟩ := sh_Safe h5
  exact ⟨⟨a0, a1, a2, a3, a4, a5⟩, rfl⟩
theorem sh_Flo {m : Nat} {l : List DV} (h : Shows TT (m + 10) 51 l) : ∃ x, l = eFlo x := by
  obtain ⟨_, _, rfl, h0, _, _, rfl, h1, _, _, rfl, h2, _, _, rfl, h3, _, _, rfl, h4, _, _, rfl, h5, rfl⟩ := h
  obtain ⟨a0, rfl⟩ := sh_Job h0
  obtain ⟨a1, rfl⟩ := sh_SSItm h1
  obtain ⟨a2, rfl⟩ := sh_SSrc h2
  obtain ⟨a3, rfl⟩ := sh_STsk h3
  obtain ⟨a4, rfl⟩ := sh_SSink h4
  obtain ⟨a5, rfl⟩ := sh_Ckp h5
  exact ⟨⟨a0, a1, a2, a3, a4, a5⟩, rfl⟩
theorem lawRow (ls : List (List DV)) (h : ShowsL TT 10 [51] ls) : Meets Tryz.prog 6 (xtsIn TT [51] ls) ⟨.one (.c (.d (.v (.bool true)))), [none]⟩ := by
  rcases ls with _ | ⟨l0, _ | ⟨l1, ls⟩⟩
  · exact h.elim
  · obtain ⟨x0, rfl⟩ := sh_Flo h.1
    exact m_law x0
  · exact h.2.elim
theorem own : ownKnob Tryz.prog.godebug = none := by kernel_rfl
theorem laidOut : laidOutB Tryz.prog = true := by kernel_rfl
set_option maxRecDepth 100000 in
theorem lifted (os : Os) (started : os.Started) (H : Type) (enc : TypeId × Value → H) :
    ReturnsInHanded {} Tryz.checked os 6 .any (YtppekklalfebkaaGreat.Rows.fnExactFloOkSpec.pre6 enc Tryz.prog Tryz.f6 YtppekklalfebkaaGreat.Rows.fnExactFloOkRow.domain false)
      (YtppekklalfebkaaGreat.Rows.fnExactFloOkSpec.post enc Tryz.prog Tryz.f6 false true false false) := by
  refine returnsInHanded_of_change_sized (C := Tryz.checked) own started (by kernel_rfl) Tryz.func6
    (ChangeSpec.witness6 (enc := enc) (C := Tryz.checked) false ⟨#[], #[.agg #[.int .i64 0, .int .i64 0, .int .i64 0, .int .i64 0, .int .i64 0, .int .i64 0, .int .i64 0, .bool false, .int .i64 0, .int .i64 0, .slice none 0 0, .slice none 0 0, .slice none 0 0, .slice none 0 0, .int .i64 0, .bool false, .slice none 0 0, .slice none 0 0, .slice none 0 0, .int .i64 0, .slice none 0 0, .slice none 0 0]], []⟩ 8 (by kernel_rfl) (by kernel_rfl) (by kernel_rfl) (by kernel_rfl)) ?_
  intro W base args ds gs before hval0 hW hcnd hsz0 _
  refine law_contract (P := Tryz.prog) (T := TT) ttok (n := 10) (tb := 4) laidOut (by decide +kernel) (by kernel_rfl) rfl Tryz.underlying4 rfl ?_ ?_ W base args ds gs before hval0 hW
  · intro H ds hl
    match ds, hl with
    | [d0], _ => exact ⟨rfl, rfl, rfl⟩
  · rw [Tryz.params6]
    intro ls hls
    exact lawRow ls hls
theorem over : YtppekklalfebkaaGreat.Rows.fnExactFloOkRow.holds YtppekklalfebkaaGreat.Tryz.pinned (OpenSpec.ofChange YtppekklalfebkaaGreat.Rows.fnExactFloOkSpec) :=
  OpenClaim.holds_of_wide 6 Tryz.f6 rfl rfl rfl rfl rfl rfl rfl ⟨rfl, rfl, rfl, rfl, rfl⟩ rfl rfl rfl rfl rfl (by kernel_rfl) Tryz.func6 closed
    (of_decide_eq_true (by kernel_rfl)) (by unfold Func.isWrapper; first | (rw [if_pos (by decide +kernel)]; kernel_rfl) | (rw [if_neg (by decide +kernel)]; exact ⟨rfl, rfl⟩))
    (fun os started H enc _ => lifted os started H enc)
end Go.Rk
namespace Go.Proofs.YtppekklalfebkaaGreat
theorem fnExactFloOk_holds : Rows.FnExactFloOkSaid := Go.Rk.over
#print axioms fnExactFloOk_holds
end Go.Proofs.YtppekklalfebkaaGreat
