/-
  THE CLOSED FACTS of the row of ReplicaNobody, each by itself.
-/
import Derived.Test.YtckcgijepiejlaaGreatRows
import Derived.JoinedOf
namespace Go.Proofs.YtckcgijepiejlaaGreat.replicaNobody
open Go
set_option linter.unusedVariables false
noncomputable abbrev factP : Program := Tryz.prog
abbrev factF : FuncId := 4
noncomputable abbrev factFn : Func := Tryz.f4
abbrev factS : ChangeSpec := Rows.replicaNobodySpec
abbrev factC : OpenClaim := Rows.replicaNobodyRow
theorem fact0 : (factC.wf (OpenSpec.ofChange factS)) = true := by kernel_rfl
theorem fact1 : (laidOutB factP) = true := by kernel_rfl
theorem fact2 : (mapsRowed factP) = true := by kernel_rfl
theorem fact3 : (factFn.params.all (factP.readableRec ·)) = true := by kernel_rfl
theorem fact4 : (namedTie factP factC.named factS.vars) = true := by kernel_rfl
theorem fact5 : ((factC.stops == [])) = true := by kernel_rfl
theorem fact6 : ((factP.stops == [])) = true := by kernel_rfl
theorem fact7 : ((factC.knobs == [])) = true := by kernel_rfl
theorem fact8 : ((factP.stopKnobs == [])) = true := by kernel_rfl
theorem fact13 : ((factC.maps == (factFn.params.toList ++ factS.plain.varTypes factP).any (factP.mapsRec ·))) = true := by kernel_rfl
theorem fact14 : ((factC.ifaces == (factFn.params.toList ++ factS.plain.varTypes factP).any (factP.ifacesRec ·))) = true := by kernel_rfl
theorem fact15 : ((factC.mapsOut == factP.mapsAmong factFn.resultTypes.toList)) = true := by kernel_rfl
theorem fact16 : ((factC.loops == (factFn.params.toList ++ factS.plain.varTypes factP).any (factP.loopsFrom ·))) = true := by kernel_rfl
theorem fact17 : ((factC.wideKeys == (factFn.params.toList ++ factS.plain.varTypes factP ++ factFn.resultTypes.toList).any (factP.wideKeysFrom ·))) = true := by kernel_rfl
theorem fact18 : (factS.vars.all (factP.varReadable ·)) = true := by kernel_rfl
theorem fact19 : (factFn.resultTypes.all (fun t => factP.readableRec t && decide (t < factP.types.size))) = true := by kernel_rfl
theorem fact20 : ((factC.ifacesOut == factFn.resultTypes.toList.any (factP.ifacesRec ·))) = true := by kernel_rfl
theorem fact21 : ((factC.loopsOut == factFn.resultTypes.toList.any (factP.loopsFrom ·))) = true := by kernel_rfl
theorem fact22 : ((factC.plainKeys == factP.plainKeys)) = true := by kernel_rfl
theorem fact23 : (factC.shortTexts.isNone) = true := by kernel_rfl
theorem fact24 : (factP.stopsHeard) = true := by kernel_rfl
theorem fact25 : (factP.mayEnter) = true := by kernel_rfl
theorem fact26 : ((factC.lifted == factP.liftsFinal)) = true := by kernel_rfl
theorem fact27 : ((factP.make == some factC.make)) = true := by kernel_rfl
theorem fact28 : ((factC.kinds == (if factC.domain.isEmpty then [] else factFn.params.toList.map fun t => match factP.underlying t with | some (.int k) => some k | _ => none))) = true := by kernel_rfl
theorem fact29 : ((factC.pinned == factC.pinnedBy)) = true := by kernel_rfl
theorem fact30 : ((factC.veiled == (factFn.params.toList ++ factS.plain.varTypes factP ++ factFn.resultTypes.toList).any (factP.veiledRec ·))) = true := by kernel_rfl
theorem fact31 : (factC.veiledFits factP factFn.params.toList (factFn.params.toList ++ factS.plain.varTypes factP ++ factFn.resultTypes.toList)) = true := by kernel_rfl
theorem named : Tryz.prog.funcNamed Rows.replicaNobodyRow.func = some 4 := by kernel_rfl
end Go.Proofs.YtckcgijepiejlaaGreat.replicaNobody
