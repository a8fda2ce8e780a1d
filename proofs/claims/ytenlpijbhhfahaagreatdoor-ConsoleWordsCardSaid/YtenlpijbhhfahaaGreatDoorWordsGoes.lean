/- The card's last closed fact: no function of the program starts a goroutine. -/
import Derived.Test.YtenlpijbhhfahaaGreatDoorCards
import Derived.KernelRfl
namespace Go.Proofs.YtenlpijbhhfahaaGreatDoor
open Go

theorem words_goesBy {P : Program} {c : OpenClaim} (h : (P.funcs.toList.any Func.goes) = false) (hs : c.start = .entering) : c.goesBy P = false := by
  have h1 : ∀ g : FuncId, ((P.funcs[g]?).any Func.goes) = false := fun g => by
    cases hg : P.funcs[g]? with
    | none => rfl
    | some fn =>
      have hm : fn ∈ P.funcs.toList := by
        rw [← Array.getElem?_toList] at hg
        exact List.mem_of_getElem? hg
      have := List.any_eq_false.1 h fn hm
      simpa using this
  have h2 : ∀ f : FuncId, P.goes f = false := fun f => by
    unfold Program.goes
    have e1 : ((P.closure f).any fun g => (P.funcs[g]?).any Func.goes) = false := by
      rw [List.any_eq_false]
      intro g _
      rw [h1 g]
      simp
    have e2 : P.funcs.any Func.goes = false := by rw [← Array.any_toList]; exact h
    rw [e1, e2]
    simp
  have e3 : ∀ o : Option FuncId, (o.any P.goes) = false := fun o => by
    cases o with
    | none => rfl
    | some f => exact h2 f
  unfold OpenClaim.goesBy Program.goesAt Program.goesFrom
  rw [e3, hs]
  rfl

set_option maxRecDepth 100000
theorem words_none : (Tryz.pinned.checked.prog.funcs.toList.any Func.goes) = false := by kernel_rfl
theorem words_goes : false = Rows.consoleWordsRow.goesBy Tryz.pinned.checked.prog := (words_goesBy words_none rfl).symm
end Go.Proofs.YtenlpijbhhfahaaGreatDoor
