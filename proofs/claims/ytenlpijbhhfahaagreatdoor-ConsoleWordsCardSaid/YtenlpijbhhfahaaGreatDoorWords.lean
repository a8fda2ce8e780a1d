/- ConsoleWords: of any line the law's function returns true, and the line reads as it did. Conditions: the listed variables start as the program's text lays them. -/
import Derived.Test.YtenlpijbhhfahaaGreatDoorWordsRow
import Derived.Test.YtenlpijbhhfahaaGreatDoorWordsFacts
import Derived.Test.YtenlpijbhhfahaaGreatDoorWordsGoes
set_option linter.all false
namespace Go.Proofs.YtenlpijbhhfahaaGreatDoor
open Go Go.ChangeShapes Go.WideShapes Go.ChangeAt Go.RowKit

set_option maxRecDepth 100000
theorem words_laid (os : Os) : laidMet Tryz.prog Rows.consoleWordsRow.laid ((worldLaid os).forCall (fun _ _ => 0) ⟨#[], #[(.string ⟨#[]⟩)], []⟩).memory :=
  laidMet_of_run' 8 (by kernel_rfl) (by kernel_rfl)

theorem words_reads (os : Os) {H : Type} (enc : TypeId × Value → H) : ∃ places, DataW.whole enc Tryz.prog ((worldLaid os).forCall (fun _ _ => 0) ⟨#[], #[(.string ⟨#[]⟩)], []⟩).memory Tryz.f3.params.toList Rows.consoleWordsSpec.vars false #[(.string ⟨#[]⟩)].toList 8 = some ([.lit (.string [])], [], places) :=
  ⟨[], by kernel_rfl⟩

theorem words_lifted (os : Os) (started : os.Started) (H : Type) (enc : TypeId × Value → H) (F : Stop.Interp) :
    ReturnsInHanded {} Tryz.checked os 3 .any ((OpenSpec.ofChange Rows.consoleWordsSpec).preRow enc Tryz.prog Tryz.f3 Rows.consoleWordsRow.domain false Rows.consoleWordsRow.laid) (((OpenSpec.ofChange Rows.consoleWordsSpec).at F).post enc Tryz.prog Tryz.f3 false true false false) := by
  obtain ⟨places, hx⟩ := words_reads os enc
  refine returnsInHanded_of_row (C := Tryz.checked) (s := OpenSpec.ofChange Rows.consoleWordsSpec) ownNone started (by kernel_rfl) Tryz.func3
    (witness_row_at (enc := enc) (C := Tryz.checked) false (worldLaid os) #[(.string ⟨#[]⟩)] rfl (by kernel_rfl) (by kernel_rfl) (by kernel_rfl)
      (OpenSpec.preRow_of_cond 8 hx (by kernel_rfl) (fun k hk => by cases hk) (by kernel_rfl) (words_laid os))) ?_
  intro W base args ds gs before hval hW _ _ hz _ hsh _
  exact words_contract H enc W base args ds gs before hval hW hsh

theorem words_said : Rows.ConsoleWordsSaid :=
  OpenClaim.holds_of_cond 3 Tryz.f3 rfl rfl rfl rfl rfl rfl rfl ⟨rfl, rfl, rfl, rfl, rfl⟩ rfl rfl rfl rfl rfl (by kernel_rfl) Tryz.func3 words_closed
    (of_decide_eq_true (by kernel_rfl)) (by unfold Func.isWrapper; first | (rw [if_pos (by decide +kernel)]; kernel_rfl) | (rw [if_neg (by decide +kernel)]; exact ⟨rfl, rfl⟩))
    (fun os started H enc _ F => by rw [OpenClaim.pre_eq_preRow]; exact words_lifted os started H enc F)

theorem words_plain (f : FuncId) (fn : Func) (hf : Tryz.pinned.checked.prog.funcNamed "pomace/pomacelaw20.ConsoleWords" = some f) (hfn : Tryz.pinned.checked.prog.funcs[f]? = some fn) :
    true = Tryz.pinned.checked.prog.looks [] ∧ ∀ (j : Nat) t, fn.params[j]? = some t → Tryz.pinned.checked.prog.wantsStandIn t = false := by
  obtain rfl : f = 3 := Option.some.inj ((show Tryz.prog.funcNamed "pomace/pomacelaw20.ConsoleWords" = some 3 by kernel_rfl).symm.trans hf) |>.symm
  obtain rfl : fn = Tryz.f3 := (Option.some.inj (Tryz.func3.symm.trans hfn)).symm
  refine ⟨by kernel_rfl, fun j t ht => ?_⟩
  rw [Tryz.params3] at ht
  obtain rfl : t = 9 := by simpa using Array.mem_of_getElem? ht
  exact (show Tryz.prog.wantsStandIn 9 = false by kernel_rfl)

/-- THE CARD. -/
theorem words_card : Rows.ConsoleWordsCardSaid :=
  Claim7.holds_tied_plain_at .later [] _ _ _ _ words_said (fun _ h => by cases h) (by kernel_rfl) (fun _ h => by cases h) consoleWords_row_tie rfl ⟨rfl, rfl⟩ (by kernel_rfl) rfl words_plain words_goes

end Go.Proofs.YtenlpijbhhfahaaGreatDoor
