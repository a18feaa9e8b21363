/- The facts of the row, reckoned one by one. -/
import Derived.Test.YtppekklalfebkaaGreatTW14
import Derived.Test.YtppekklalfebkaaGreatRows
import Derived.WalkKit
import Derived.ProofKit
import Derived.OpenShut
import Derived.ShutString
import Derived.ChangeOld
import Derived.SizedLaws
namespace Go.Rk
set_option linter.unusedSimpArgs false
set_option linter.unusedVariables false
open Go.Proofs Go.ChangeShapes Go.WideShapes Go.ChangeAt Go.RowKit
theorem and2 {a b : Bool} (h : a = true) (k : b = true) : (a && b) = true := by rw [h, k]; rfl
theorem fact0 : (YtppekklalfebkaaGreat.Rows.fnExactFloOkRow.wf (OpenSpec.ofChange YtppekklalfebkaaGreat.Rows.fnExactFloOkSpec)) = true := by kernel_rfl
theorem fact1 : (laidOutB Tryz.prog) = true := by kernel_rfl
theorem fact2 : (mapsRowed Tryz.prog) = true := by kernel_rfl
theorem fact3 : (Tryz.f6.params.all (Tryz.prog.readableRec ·)) = true := by kernel_rfl
theorem fact4 : (namedTie Tryz.prog YtppekklalfebkaaGreat.Rows.fnExactFloOkRow.named YtppekklalfebkaaGreat.Rows.fnExactFloOkSpec.vars) = true := by kernel_rfl
theorem fact5 : ((YtppekklalfebkaaGreat.Rows.fnExactFloOkRow.stops == [])) = true := by kernel_rfl
theorem fact6 : ((Tryz.prog.stops == [])) = true := by kernel_rfl
theorem fact7 : ((YtppekklalfebkaaGreat.Rows.fnExactFloOkRow.knobs == [])) = true := by kernel_rfl
theorem fact8 : ((Tryz.prog.stopKnobs == [])) = true := by kernel_rfl
theorem fact9 : ((YtppekklalfebkaaGreat.Rows.fnExactFloOkRow.inPlace == Tryz.prog.inPlace 6)) = true := by kernel_rfl
theorem fact10 : ((YtppekklalfebkaaGreat.Rows.fnExactFloOkRow.unfollowed == Tryz.prog.unfollowed 6)) = true := by kernel_rfl
theorem fact11 : ((YtppekklalfebkaaGreat.Rows.fnExactFloOkRow.recurses == Tryz.prog.recurses 6)) = true := by kernel_rfl
theorem fact12 : ((YtppekklalfebkaaGreat.Rows.fnExactFloOkRow.named == Tryz.prog.varsNamed 6)) = true := by kernel_rfl
theorem fact13 : ((YtppekklalfebkaaGreat.Rows.fnExactFloOkRow.maps == (Tryz.f6.params.toList ++ YtppekklalfebkaaGreat.Rows.fnExactFloOkSpec.plain.varTypes Tryz.prog).any (Tryz.prog.mapsRec ·))) = true := by kernel_rfl
theorem fact14 : ((YtppekklalfebkaaGreat.Rows.fnExactFloOkRow.ifaces == (Tryz.f6.params.toList ++ YtppekklalfebkaaGreat.Rows.fnExactFloOkSpec.plain.varTypes Tryz.prog).any (Tryz.prog.ifacesRec ·))) = true := by kernel_rfl
theorem fact15 : ((YtppekklalfebkaaGreat.Rows.fnExactFloOkRow.mapsOut == Tryz.prog.mapsAmong Tryz.f6.resultTypes.toList)) = true := by kernel_rfl
theorem fact16 : ((YtppekklalfebkaaGreat.Rows.fnExactFloOkRow.loops == (Tryz.f6.params.toList ++ YtppekklalfebkaaGreat.Rows.fnExactFloOkSpec.plain.varTypes Tryz.prog).any (Tryz.prog.loopsFrom ·))) = true := by kernel_rfl
theorem fact17 : ((YtppekklalfebkaaGreat.Rows.fnExactFloOkRow.wideKeys == (Tryz.f6.params.toList ++ YtppekklalfebkaaGreat.Rows.fnExactFloOkSpec.plain.varTypes Tryz.prog ++ Tryz.f6.resultTypes.toList).any (Tryz.prog.wideKeysFrom ·))) = true := by kernel_rfl
theorem fact18 : (YtppekklalfebkaaGreat.Rows.fnExactFloOkSpec.vars.all (Tryz.prog.varReadable ·)) = true := by kernel_rfl
theorem fact19 : (Tryz.f6.resultTypes.all (fun t => Tryz.prog.readableRec t && decide (t < Tryz.prog.types.size))) = true := by kernel_rfl
theorem fact20 : ((YtppekklalfebkaaGreat.Rows.fnExactFloOkRow.ifacesOut == Tryz.f6.resultTypes.toList.any (Tryz.prog.ifacesRec ·))) = true := by kernel_rfl
theorem fact21 : ((YtppekklalfebkaaGreat.Rows.fnExactFloOkRow.loopsOut == Tryz.f6.resultTypes.toList.any (Tryz.prog.loopsFrom ·))) = true := by kernel_rfl
theorem fact22 : ((YtppekklalfebkaaGreat.Rows.fnExactFloOkRow.plainKeys == Tryz.prog.plainKeys)) = true := by kernel_rfl
theorem fact23 : (YtppekklalfebkaaGreat.Rows.fnExactFloOkRow.shortTexts.isNone) = true := by kernel_rfl
theorem fact24 : (Tryz.prog.stopsHeard) = true := by kernel_rfl
theorem fact25 : (Tryz.prog.mayEnter) = true := by kernel_rfl
theorem fact26 : ((YtppekklalfebkaaGreat.Rows.fnExactFloOkRow.lifted == Tryz.prog.liftsFinal)) = true := by kernel_rfl
theorem fact27 : ((Tryz.prog.make == some YtppekklalfebkaaGreat.Rows.fnExactFloOkRow.make)) = true := by kernel_rfl
theorem fact28 : ((YtppekklalfebkaaGreat.Rows.fnExactFloOkRow.kinds == (if YtppekklalfebkaaGreat.Rows.fnExactFloOkRow.domain.isEmpty then [] else Tryz.f6.params.toList.map fun t => match Tryz.prog.underlying t with | some (.int k) => some k | _ => none))) = true := by kernel_rfl
theorem fact29 : ((YtppekklalfebkaaGreat.Rows.fnExactFloOkRow.pinned == YtppekklalfebkaaGreat.Rows.fnExactFloOkRow.pinnedBy)) = true := by kernel_rfl
theorem fact30 : ((YtppekklalfebkaaGreat.Rows.fnExactFloOkRow.veiled == (Tryz.f6.params.toList ++ YtppekklalfebkaaGreat.Rows.fnExactFloOkSpec.plain.varTypes Tryz.prog ++ Tryz.f6.resultTypes.toList).any (Tryz.prog.veiledRec ·))) = true := by kernel_rfl
theorem fact31 : (YtppekklalfebkaaGreat.Rows.fnExactFloOkRow.veiledFits Tryz.prog Tryz.f6.params.toList (Tryz.f6.params.toList ++ YtppekklalfebkaaGreat.Rows.fnExactFloOkSpec.plain.varTypes Tryz.prog ++ Tryz.f6.resultTypes.toList)) = true := by kernel_rfl
set_option maxRecDepth 100000 in
theorem closed : joinedFacts Tryz.prog 6 Tryz.f6 YtppekklalfebkaaGreat.Rows.fnExactFloOkSpec YtppekklalfebkaaGreat.Rows.fnExactFloOkRow = true := by
  unfold joinedFacts
  exact and2 (and2 (and2 (and2 (and2 (and2 (and2 (and2 (and2 (and2 (and2 (and2 (and2 (and2 (and2 (and2 (and2 (and2 (and2 (and2 (and2 (and2 (and2 (and2 (and2 (and2 (and2 (and2 (and2 (and2 (and2 (fact0) fact1) fact2) fact3) fact4) fact5) fact6) fact7) fact8) fact9) fact10) fact11) fact12) fact13) fact14) fact15) fact16) fact17) fact18) fact19) fact20) fact21) fact22) fact23) fact24) fact25) fact26) fact27) fact28) fact29) fact30) fact31
end Go.Rk
