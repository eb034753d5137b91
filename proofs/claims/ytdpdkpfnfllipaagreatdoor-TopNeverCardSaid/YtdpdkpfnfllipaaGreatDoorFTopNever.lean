/-
  TopNever: the closed facts of its row, and of its card, each by the kernel, one by one. No condition.
-/
import Derived.Test.YtdpdkpfnfllipaaGreatDoorRows
import Derived.JoinedOf
import Derived.SevenTiedAt
import Derived.KernelRfl
namespace Go.Proofs.YtdpdkpfnfllipaaGreatDoor.topNever
set_option linter.unusedVariables false
set_option linter.unusedSimpArgs false
open Go.ChangeShapes Go.WideShapes
set_option maxRecDepth 100000

theorem q1 : (Rows.topNeverRow.wf (OpenSpec.ofChange Rows.topNeverSpec)) = true := by kernel_rfl
theorem q2 : (laidOutB Tryz.pinned.checked.prog) = true := by kernel_rfl
theorem q3 : (mapsRowed Tryz.pinned.checked.prog) = true := by kernel_rfl
theorem q4 : (Tryz.f3.params.all (Tryz.pinned.checked.prog.readableRec ·)) = true := by kernel_rfl
theorem q5 : (namedTie Tryz.pinned.checked.prog Rows.topNeverRow.named Rows.topNeverSpec.vars) = true := by kernel_rfl
theorem q6 : ((Rows.topNeverRow.stops == [])) = true := by kernel_rfl
theorem q7 : ((Tryz.pinned.checked.prog.stops == [])) = true := by kernel_rfl
theorem q8 : ((Rows.topNeverRow.knobs == [])) = true := by kernel_rfl
theorem q9 : ((Tryz.pinned.checked.prog.stopKnobs == [])) = true := by kernel_rfl
theorem q10 : ((Rows.topNeverRow.inPlace == Tryz.pinned.checked.prog.inPlace 3)) = true := by kernel_rfl
theorem q11 : ((Rows.topNeverRow.unfollowed == Tryz.pinned.checked.prog.unfollowed 3)) = true := by kernel_rfl
theorem q12 : ((Rows.topNeverRow.recurses == Tryz.pinned.checked.prog.recurses 3)) = true := by kernel_rfl
theorem q13 : ((Rows.topNeverRow.named == Tryz.pinned.checked.prog.varsNamed 3)) = true := by kernel_rfl
theorem q14 : ((Rows.topNeverRow.maps == (Tryz.f3.params.toList ++ Rows.topNeverSpec.plain.varTypes Tryz.pinned.checked.prog).any (Tryz.pinned.checked.prog.mapsRec ·))) = true := by kernel_rfl
theorem q15 : ((Rows.topNeverRow.ifaces == (Tryz.f3.params.toList ++ Rows.topNeverSpec.plain.varTypes Tryz.pinned.checked.prog).any (Tryz.pinned.checked.prog.ifacesRec ·))) = true := by kernel_rfl
theorem q16 : ((Rows.topNeverRow.mapsOut == Tryz.pinned.checked.prog.mapsAmong Tryz.f3.resultTypes.toList)) = true := by kernel_rfl
theorem q17 : ((Rows.topNeverRow.loops == (Tryz.f3.params.toList ++ Rows.topNeverSpec.plain.varTypes Tryz.pinned.checked.prog).any (Tryz.pinned.checked.prog.loopsFrom ·))) = true := by kernel_rfl
theorem q18 : ((Rows.topNeverRow.wideKeys == (Tryz.f3.params.toList ++ Rows.topNeverSpec.plain.varTypes Tryz.pinned.checked.prog ++ Tryz.f3.resultTypes.toList).any (Tryz.pinned.checked.prog.wideKeysFrom ·))) = true := by kernel_rfl
theorem q19 : (Rows.topNeverSpec.vars.all (Tryz.pinned.checked.prog.varReadable ·)) = true := by kernel_rfl
theorem q20 : (Tryz.f3.resultTypes.all (fun t => Tryz.pinned.checked.prog.readableRec t && decide (t < Tryz.pinned.checked.prog.types.size))) = true := by kernel_rfl
theorem q21 : ((Rows.topNeverRow.ifacesOut == Tryz.f3.resultTypes.toList.any (Tryz.pinned.checked.prog.ifacesRec ·))) = true := by kernel_rfl
theorem q22 : ((Rows.topNeverRow.loopsOut == Tryz.f3.resultTypes.toList.any (Tryz.pinned.checked.prog.loopsFrom ·))) = true := by kernel_rfl
theorem q23 : ((Rows.topNeverRow.plainKeys == Tryz.pinned.checked.prog.plainKeys)) = true := by kernel_rfl
theorem q24 : (Rows.topNeverRow.shortTexts.isNone) = true := by kernel_rfl
theorem q25 : (Tryz.pinned.checked.prog.stopsHeard) = true := by kernel_rfl
theorem q26 : (Tryz.pinned.checked.prog.mayEnter) = true := by kernel_rfl
theorem q27 : ((Rows.topNeverRow.lifted == Tryz.pinned.checked.prog.liftsFinal)) = true := by kernel_rfl
theorem q28 : ((Tryz.pinned.checked.prog.make == some Rows.topNeverRow.make)) = true := by kernel_rfl
theorem q29 : ((Rows.topNeverRow.kinds == (if Rows.topNeverRow.domain.isEmpty then [] else Tryz.f3.params.toList.map fun t => match Tryz.pinned.checked.prog.underlying t with | some (.int k) => some k | _ => none))) = true := by kernel_rfl
theorem q30 : ((Rows.topNeverRow.pinned == Rows.topNeverRow.pinnedBy)) = true := by kernel_rfl
theorem q31 : ((Rows.topNeverRow.veiled == (Tryz.f3.params.toList ++ Rows.topNeverSpec.plain.varTypes Tryz.pinned.checked.prog ++ Tryz.f3.resultTypes.toList).any (Tryz.pinned.checked.prog.veiledRec ·))) = true := by kernel_rfl
theorem q32 : (Rows.topNeverRow.veiledFits Tryz.pinned.checked.prog Tryz.f3.params.toList (Tryz.f3.params.toList ++ Rows.topNeverSpec.plain.varTypes Tryz.pinned.checked.prog ++ Tryz.f3.resultTypes.toList)) = true := by kernel_rfl
theorem and_t {a b : Bool} (h : a = true) (k : b = true) : (a && b) = true := by rw [h, k]; rfl
theorem facts : joinedFacts Tryz.pinned.checked.prog 3 Tryz.f3 Rows.topNeverSpec Rows.topNeverRow = true := and_t (and_t (and_t (and_t (and_t (and_t (and_t (and_t (and_t (and_t (and_t (and_t (and_t (and_t (and_t (and_t (and_t (and_t (and_t (and_t (and_t (and_t (and_t (and_t (and_t (and_t (and_t (and_t (and_t (and_t (and_t q1 q2) q3) q4) q5) q6) q7) q8) q9) q10) q11) q12) q13) q14) q15) q16) q17) q18) q19) q20) q21) q22) q23) q24) q25) q26) q27) q28) q29) q30) q31) q32
theorem funcIs : Tryz.pinned.checked.prog.funcNamed Rows.topNeverRow.func = some 3 := by kernel_rfl
theorem wfText : Rows.topNeverRow.wfByText (OpenSpec.ofChange Rows.topNeverSpec) = true := by kernel_rfl
theorem mainText : Tryz.pinned.checked.prog.mainIs = some (true, "ad9e0eb179ba3f7773ab42ed2a21cfb5e9c5f891f61f948dbb263995f6833716".toList) := by kernel_rfl
theorem looksIs : true = Tryz.pinned.checked.prog.looks [] := by kernel_rfl
theorem standIns : ([22].all fun u => !Tryz.pinned.checked.prog.wantsStandIn u) = true := by kernel_rfl
theorem goesIs : false = Rows.topNeverRow.goesBy Tryz.pinned.checked.prog := by kernel_rfl
end Go.Proofs.YtdpdkpfnfllipaaGreatDoor.topNever
