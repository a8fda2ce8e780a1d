/- The closed facts of a row, each alone. -/
import Derived.Test.YtenlpijbhhfahaaGreatDoorRows
import Derived.JoinedCond
import Derived.KernelRfl
namespace Go.Proofs.YtenlpijbhhfahaaGreatDoor
open Go
set_option maxRecDepth 100000
theorem words_and {a b : Bool} (h : a = true) (h' : b = true) : (a && b) = true := by rw [h, h']; rfl
theorem words_k1 : (Rows.consoleWordsRow.wf (OpenSpec.ofChange (OpenSpec.ofChange Rows.consoleWordsSpec).bare)) = true := by kernel_rfl
theorem words_k2 : (laidOutB Tryz.pinned.checked.prog) = true := by kernel_rfl
theorem words_k3 : (mapsRowed Tryz.pinned.checked.prog) = true := by kernel_rfl
theorem words_k4 : (Tryz.f3.params.all (Tryz.pinned.checked.prog.readableRec ·)) = true := by kernel_rfl
theorem words_k5 : (namedTie Tryz.pinned.checked.prog Rows.consoleWordsRow.named (OpenSpec.ofChange Rows.consoleWordsSpec).bare.vars) = true := by kernel_rfl
theorem words_k6 : ((Rows.consoleWordsRow.stops == [])) = true := by kernel_rfl
theorem words_k7 : ((Tryz.pinned.checked.prog.stops == [])) = true := by kernel_rfl
theorem words_k8 : ((Rows.consoleWordsRow.knobs == [])) = true := by kernel_rfl
theorem words_k9 : ((Tryz.pinned.checked.prog.stopKnobs == [])) = true := by kernel_rfl
theorem words_k10 : ((Rows.consoleWordsRow.inPlace == Tryz.pinned.checked.prog.inPlace 3)) = true := by kernel_rfl
theorem words_k11 : ((Rows.consoleWordsRow.unfollowed == Tryz.pinned.checked.prog.unfollowed 3)) = true := by kernel_rfl
theorem words_k12 : ((Rows.consoleWordsRow.recurses == Tryz.pinned.checked.prog.recurses 3)) = true := by kernel_rfl
theorem words_k13 : ((Rows.consoleWordsRow.named == Tryz.pinned.checked.prog.varsNamed 3)) = true := by kernel_rfl
theorem words_k14 : ((Rows.consoleWordsRow.maps == (Tryz.f3.params.toList ++ (OpenSpec.ofChange Rows.consoleWordsSpec).bare.plain.varTypes Tryz.pinned.checked.prog).any (Tryz.pinned.checked.prog.mapsRec ·))) = true := by kernel_rfl
theorem words_k15 : ((Rows.consoleWordsRow.ifaces == (Tryz.f3.params.toList ++ (OpenSpec.ofChange Rows.consoleWordsSpec).bare.plain.varTypes Tryz.pinned.checked.prog).any (Tryz.pinned.checked.prog.ifacesRec ·))) = true := by kernel_rfl
theorem words_k16 : ((Rows.consoleWordsRow.mapsOut == Tryz.pinned.checked.prog.mapsAmong Tryz.f3.resultTypes.toList)) = true := by kernel_rfl
theorem words_k17 : ((Rows.consoleWordsRow.loops == (Tryz.f3.params.toList ++ (OpenSpec.ofChange Rows.consoleWordsSpec).bare.plain.varTypes Tryz.pinned.checked.prog).any (Tryz.pinned.checked.prog.loopsFrom ·))) = true := by kernel_rfl
theorem words_k18 : ((Rows.consoleWordsRow.wideKeys == (Tryz.f3.params.toList ++ (OpenSpec.ofChange Rows.consoleWordsSpec).bare.plain.varTypes Tryz.pinned.checked.prog ++ Tryz.f3.resultTypes.toList).any (Tryz.pinned.checked.prog.wideKeysFrom ·))) = true := by kernel_rfl
theorem words_k19 : ((OpenSpec.ofChange Rows.consoleWordsSpec).bare.vars.all (Tryz.pinned.checked.prog.varReadable ·)) = true := by kernel_rfl
theorem words_k20 : (Tryz.f3.resultTypes.all (fun t => Tryz.pinned.checked.prog.readableRec t && decide (t < Tryz.pinned.checked.prog.types.size))) = true := by kernel_rfl
theorem words_k21 : ((Rows.consoleWordsRow.ifacesOut == Tryz.f3.resultTypes.toList.any (Tryz.pinned.checked.prog.ifacesRec ·))) = true := by kernel_rfl
theorem words_k22 : ((Rows.consoleWordsRow.loopsOut == Tryz.f3.resultTypes.toList.any (Tryz.pinned.checked.prog.loopsFrom ·))) = true := by kernel_rfl
theorem words_k23 : ((Rows.consoleWordsRow.plainKeys == Tryz.pinned.checked.prog.plainKeys)) = true := by kernel_rfl
theorem words_k24 : (Rows.consoleWordsRow.shortTexts.isNone) = true := by kernel_rfl
theorem words_k25 : (Tryz.pinned.checked.prog.stopsHeard) = true := by kernel_rfl
theorem words_k26 : (Tryz.pinned.checked.prog.mayEnter) = true := by kernel_rfl
theorem words_k27 : ((Rows.consoleWordsRow.lifted == Tryz.pinned.checked.prog.liftsFinal)) = true := by kernel_rfl
theorem words_k28 : ((Tryz.pinned.checked.prog.make == some Rows.consoleWordsRow.make)) = true := by kernel_rfl
theorem words_k29 : ((Rows.consoleWordsRow.kinds == (if Rows.consoleWordsRow.domain.isEmpty then [] else Tryz.f3.params.toList.map fun t => match Tryz.pinned.checked.prog.underlying t with | some (.int k) => some k | _ => none))) = true := by kernel_rfl
theorem words_k30 : ((Rows.consoleWordsRow.pinned == Rows.consoleWordsRow.pinnedBy)) = true := by kernel_rfl
theorem words_k31 : ((Rows.consoleWordsRow.veiled == (Tryz.f3.params.toList ++ (OpenSpec.ofChange Rows.consoleWordsSpec).bare.plain.varTypes Tryz.pinned.checked.prog ++ Tryz.f3.resultTypes.toList).any (Tryz.pinned.checked.prog.veiledRec ·))) = true := by kernel_rfl
theorem words_k32 : (Rows.consoleWordsRow.veiledFits Tryz.pinned.checked.prog Tryz.f3.params.toList (Tryz.f3.params.toList ++ (OpenSpec.ofChange Rows.consoleWordsSpec).bare.plain.varTypes Tryz.pinned.checked.prog ++ Tryz.f3.resultTypes.toList)) = true := by kernel_rfl
theorem words_closed : joinedFacts Tryz.pinned.checked.prog 3 Tryz.f3 (OpenSpec.ofChange Rows.consoleWordsSpec).bare Rows.consoleWordsRow = true := words_and (words_and (words_and (words_and (words_and (words_and (words_and (words_and (words_and (words_and (words_and (words_and (words_and (words_and (words_and (words_and (words_and (words_and (words_and (words_and (words_and (words_and (words_and (words_and (words_and (words_and (words_and (words_and (words_and (words_and (words_and (words_k1) words_k2) words_k3) words_k4) words_k5) words_k6) words_k7) words_k8) words_k9) words_k10) words_k11) words_k12) words_k13) words_k14) words_k15) words_k16) words_k17) words_k18) words_k19) words_k20) words_k21) words_k22) words_k23) words_k24) words_k25) words_k26) words_k27) words_k28) words_k29) words_k30) words_k31) words_k32
end Go.Proofs.YtenlpijbhhfahaaGreatDoor
