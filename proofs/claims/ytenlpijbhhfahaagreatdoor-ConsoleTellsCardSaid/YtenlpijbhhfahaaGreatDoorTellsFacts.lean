/- The closed facts of a row, each alone. -/
import Derived.Test.YtenlpijbhhfahaaGreatDoorRows
import Derived.JoinedCond
import Derived.KernelRfl
namespace Go.Proofs.YtenlpijbhhfahaaGreatDoor
open Go
set_option maxRecDepth 100000
theorem tells_and {a b : Bool} (h : a = true) (h' : b = true) : (a && b) = true := by rw [h, h']; rfl
theorem tells_k1 : (Rows.consoleTellsRow.wf (OpenSpec.ofChange (OpenSpec.ofChange Rows.consoleTellsSpec).bare)) = true := by kernel_rfl
theorem tells_k2 : (laidOutB Tryz.pinned.checked.prog) = true := by kernel_rfl
theorem tells_k3 : (mapsRowed Tryz.pinned.checked.prog) = true := by kernel_rfl
theorem tells_k4 : (Tryz.f4.params.all (Tryz.pinned.checked.prog.readableRec ·)) = true := by kernel_rfl
theorem tells_k5 : (namedTie Tryz.pinned.checked.prog Rows.consoleTellsRow.named (OpenSpec.ofChange Rows.consoleTellsSpec).bare.vars) = true := by kernel_rfl
theorem tells_k6 : ((Rows.consoleTellsRow.stops == [])) = true := by kernel_rfl
theorem tells_k7 : ((Tryz.pinned.checked.prog.stops == [])) = true := by kernel_rfl
theorem tells_k8 : ((Rows.consoleTellsRow.knobs == [])) = true := by kernel_rfl
theorem tells_k9 : ((Tryz.pinned.checked.prog.stopKnobs == [])) = true := by kernel_rfl
theorem tells_k10 : ((Rows.consoleTellsRow.inPlace == Tryz.pinned.checked.prog.inPlace 4)) = true := by kernel_rfl
theorem tells_k11 : ((Rows.consoleTellsRow.unfollowed == Tryz.pinned.checked.prog.unfollowed 4)) = true := by kernel_rfl
theorem tells_k12 : ((Rows.consoleTellsRow.recurses == Tryz.pinned.checked.prog.recurses 4)) = true := by kernel_rfl
theorem tells_k13 : ((Rows.consoleTellsRow.named == Tryz.pinned.checked.prog.varsNamed 4)) = true := by kernel_rfl
theorem tells_k14 : ((Rows.consoleTellsRow.maps == (Tryz.f4.params.toList ++ (OpenSpec.ofChange Rows.consoleTellsSpec).bare.plain.varTypes Tryz.pinned.checked.prog).any (Tryz.pinned.checked.prog.mapsRec ·))) = true := by kernel_rfl
theorem tells_k15 : ((Rows.consoleTellsRow.ifaces == (Tryz.f4.params.toList ++ (OpenSpec.ofChange Rows.consoleTellsSpec).bare.plain.varTypes Tryz.pinned.checked.prog).any (Tryz.pinned.checked.prog.ifacesRec ·))) = true := by kernel_rfl
theorem tells_k16 : ((Rows.consoleTellsRow.mapsOut == Tryz.pinned.checked.prog.mapsAmong Tryz.f4.resultTypes.toList)) = true := by kernel_rfl
theorem tells_k17 : ((Rows.consoleTellsRow.loops == (Tryz.f4.params.toList ++ (OpenSpec.ofChange Rows.consoleTellsSpec).bare.plain.varTypes Tryz.pinned.checked.prog).any (Tryz.pinned.checked.prog.loopsFrom ·))) = true := by kernel_rfl
theorem tells_k18 : ((Rows.consoleTellsRow.wideKeys == (Tryz.f4.params.toList ++ (OpenSpec.ofChange Rows.consoleTellsSpec).bare.plain.varTypes Tryz.pinned.checked.prog ++ Tryz.f4.resultTypes.toList).any (Tryz.pinned.checked.prog.wideKeysFrom ·))) = true := by kernel_rfl
theorem tells_k19 : ((OpenSpec.ofChange Rows.consoleTellsSpec).bare.vars.all (Tryz.pinned.checked.prog.varReadable ·)) = true := by kernel_rfl
theorem tells_k20 : (Tryz.f4.resultTypes.all (fun t => Tryz.pinned.checked.prog.readableRec t && decide (t < Tryz.pinned.checked.prog.types.size))) = true := by kernel_rfl
theorem tells_k21 : ((Rows.consoleTellsRow.ifacesOut == Tryz.f4.resultTypes.toList.any (Tryz.pinned.checked.prog.ifacesRec ·))) = true := by kernel_rfl
theorem tells_k22 : ((Rows.consoleTellsRow.loopsOut == Tryz.f4.resultTypes.toList.any (Tryz.pinned.checked.prog.loopsFrom ·))) = true := by kernel_rfl
theorem tells_k23 : ((Rows.consoleTellsRow.plainKeys == Tryz.pinned.checked.prog.plainKeys)) = true := by kernel_rfl
theorem tells_k24 : (Rows.consoleTellsRow.shortTexts.isNone) = true := by kernel_rfl
theorem tells_k25 : (Tryz.pinned.checked.prog.stopsHeard) = true := by kernel_rfl
theorem tells_k26 : (Tryz.pinned.checked.prog.mayEnter) = true := by kernel_rfl
theorem tells_k27 : ((Rows.consoleTellsRow.lifted == Tryz.pinned.checked.prog.liftsFinal)) = true := by kernel_rfl
theorem tells_k28 : ((Tryz.pinned.checked.prog.make == some Rows.consoleTellsRow.make)) = true := by kernel_rfl
theorem tells_k29 : ((Rows.consoleTellsRow.kinds == (if Rows.consoleTellsRow.domain.isEmpty then [] else Tryz.f4.params.toList.map fun t => match Tryz.pinned.checked.prog.underlying t with | some (.int k) => some k | _ => none))) = true := by kernel_rfl
theorem tells_k30 : ((Rows.consoleTellsRow.pinned == Rows.consoleTellsRow.pinnedBy)) = true := by kernel_rfl
theorem tells_k31 : ((Rows.consoleTellsRow.veiled == (Tryz.f4.params.toList ++ (OpenSpec.ofChange Rows.consoleTellsSpec).bare.plain.varTypes Tryz.pinned.checked.prog ++ Tryz.f4.resultTypes.toList).any (Tryz.pinned.checked.prog.veiledRec ·))) = true := by kernel_rfl
theorem tells_k32 : (Rows.consoleTellsRow.veiledFits Tryz.pinned.checked.prog Tryz.f4.params.toList (Tryz.f4.params.toList ++ (OpenSpec.ofChange Rows.consoleTellsSpec).bare.plain.varTypes Tryz.pinned.checked.prog ++ Tryz.f4.resultTypes.toList)) = true := by kernel_rfl
theorem tells_closed : joinedFacts Tryz.pinned.checked.prog 4 Tryz.f4 (OpenSpec.ofChange Rows.consoleTellsSpec).bare Rows.consoleTellsRow = true := tells_and (tells_and (tells_and (tells_and (tells_and (tells_and (tells_and (tells_and (tells_and (tells_and (tells_and (tells_and (tells_and (tells_and (tells_and (tells_and (tells_and (tells_and (tells_and (tells_and (tells_and (tells_and (tells_and (tells_and (tells_and (tells_and (tells_and (tells_and (tells_and (tells_and (tells_and (tells_k1) tells_k2) tells_k3) tells_k4) tells_k5) tells_k6) tells_k7) tells_k8) tells_k9) tells_k10) tells_k11) tells_k12) tells_k13) tells_k14) tells_k15) tells_k16) tells_k17) tells_k18) tells_k19) tells_k20) tells_k21) tells_k22) tells_k23) tells_k24) tells_k25) tells_k26) tells_k27) tells_k28) tells_k29) tells_k30) tells_k31) tells_k32
end Go.Proofs.YtenlpijbhhfahaaGreatDoor
