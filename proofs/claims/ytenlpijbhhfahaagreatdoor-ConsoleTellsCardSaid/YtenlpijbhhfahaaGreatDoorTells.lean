/- ConsoleTells: of any problem the law's function returns true, and the problem reads as it did. Conditions: the listed variables start as the program's text lays them. -/
import Derived.Test.YtenlpijbhhfahaaGreatDoorTellsRow
import Derived.Test.YtenlpijbhhfahaaGreatDoorTellsFacts
import Derived.Test.YtenlpijbhhfahaaGreatDoorTellsGoes
set_option linter.all false
namespace Go.Proofs.YtenlpijbhhfahaaGreatDoor
open Go Go.ChangeShapes Go.WideShapes Go.ChangeAt Go.RowKit

-- a world for the witness

noncomputable def litCells : Nat → DataW Unit → List Value
  | 0, _ => []
  | n + 1, d =>
    match d with
    | .lit (.int k z) => [.int k z]
    | .agg ds => ds.flatMap (litCells n)
    | _ => []

noncomputable def lay (cs : List Value) (o : Obj) : Obj :=
  match o with
  | .cells _ t frozen => .cells ⟨cs⟩ t frozen
  | o => o

noncomputable def laidWorld (os : Os) : World :=
  { World.holding Tryz.prog os ⟨#[], #[], []⟩ with heap := (((World.holding Tryz.prog os ⟨#[], #[], []⟩).heap.modify 1 (lay (litCells 3 Rows.laid_unicode_utf8_first))).modify 2 (lay (litCells 3 Rows.laid_unicode_utf8_acceptRanges))) }

def zeroPrb : Value := .agg ⟨[.int .i64 0, .string ⟨#[]⟩, .string ⟨#[]⟩, .string ⟨#[]⟩, .int .i64 0, .int .i64 0, .int .i64 0, .string ⟨#[]⟩]⟩

set_option maxRecDepth 100000
theorem tells_laid (os : Os) : laidMet Tryz.prog Rows.consoleTellsRow.laid ((laidWorld os).forCall (fun _ _ => 0) ⟨#[], #[zeroPrb], []⟩).memory :=
  laidMet_of_run' 8 (by kernel_rfl) (by kernel_rfl)

theorem tells_reads (os : Os) {H : Type} (enc : TypeId × Value → H) : ∃ places, DataW.whole enc Tryz.prog ((laidWorld os).forCall (fun _ _ => 0) ⟨#[], #[zeroPrb], []⟩).memory Tryz.f4.params.toList Rows.consoleTellsSpec.vars false #[zeroPrb].toList 8 = some ([.agg [.lit (.int .i64 0), .agg [.lit (.string []), .lit (.string []), .lit (.string [])], .agg [.lit (.int .i64 0), .lit (.int .i64 0), .lit (.int .i64 0)], .lit (.string [])]], [], places) :=
  ⟨[], by kernel_rfl⟩

theorem tells_lifted (os : Os) (started : os.Started) (H : Type) (enc : TypeId × Value → H) (F : Stop.Interp) :
    ReturnsInHanded {} Tryz.checked os 4 .any ((OpenSpec.ofChange Rows.consoleTellsSpec).preRow enc Tryz.prog Tryz.f4 Rows.consoleTellsRow.domain false Rows.consoleTellsRow.laid) (((OpenSpec.ofChange Rows.consoleTellsSpec).at F).post enc Tryz.prog Tryz.f4 false true false false) := by
  obtain ⟨places, hx⟩ := tells_reads os enc
  refine returnsInHanded_of_row (C := Tryz.checked) (s := OpenSpec.ofChange Rows.consoleTellsSpec) own started (by kernel_rfl) Tryz.func4
    (witness_row_at (enc := enc) (C := Tryz.checked) false (laidWorld os) #[zeroPrb] rfl (by kernel_rfl) (by kernel_rfl) (by kernel_rfl)
      (OpenSpec.preRow_of_cond 8 hx (by kernel_rfl) (fun k hk => by cases hk) (by kernel_rfl) (tells_laid os))) ?_
  intro W base args ds gs before hval hW _ _ hz _ hsh _
  exact tells_contract H enc W base args ds gs before hval hW hz hsh

theorem tells_said : Rows.ConsoleTellsSaid :=
  OpenClaim.holds_of_cond 4 Tryz.f4 rfl rfl rfl rfl rfl rfl rfl ⟨rfl, rfl, rfl, rfl, rfl⟩ rfl rfl rfl rfl rfl (by kernel_rfl) Tryz.func4 tells_closed
    (of_decide_eq_true (by kernel_rfl)) (by unfold Func.isWrapper; first | (rw [if_pos (by decide +kernel)]; kernel_rfl) | (rw [if_neg (by decide +kernel)]; exact ⟨rfl, rfl⟩))
    (fun os started H enc _ F => by rw [OpenClaim.pre_eq_preRow]; exact tells_lifted os started H enc F)

theorem plain (f : FuncId) (fn : Func) (hf : Tryz.pinned.checked.prog.funcNamed "pomace/pomacelaw20.ConsoleTells" = some f) (hfn : Tryz.pinned.checked.prog.funcs[f]? = some fn) :
    true = Tryz.pinned.checked.prog.looks [] ∧ ∀ (j : Nat) t, fn.params[j]? = some t → Tryz.pinned.checked.prog.wantsStandIn t = false := by
  obtain rfl : f = 4 := Option.some.inj ((show Tryz.prog.funcNamed "pomace/pomacelaw20.ConsoleTells" = some 4 by kernel_rfl).symm.trans hf) |>.symm
  obtain rfl : fn = Tryz.f4 := (Option.some.inj (Tryz.func4.symm.trans hfn)).symm
  refine ⟨by kernel_rfl, fun j t ht => ?_⟩
  rw [Tryz.params4] at ht
  obtain rfl : t = 35 := by simpa using Array.mem_of_getElem? ht
  exact (show Tryz.prog.wantsStandIn 35 = false by kernel_rfl)

/-- THE CARD. -/
theorem tells_card : Rows.ConsoleTellsCardSaid :=
  Claim7.holds_tied_plain_at .later [] _ _ _ _ tells_said (fun _ h => by cases h) (by kernel_rfl) (fun _ h => by cases h) consoleTells_row_tie rfl ⟨rfl, rfl⟩ (by kernel_rfl) rfl plain tells_goes

end Go.Proofs.YtenlpijbhhfahaaGreatDoor
