/- A call of lives returns true and leaves alone what was there: by the evaluator, in the kernel. -/
import Derived.Test.YtenlpijbhhfahaaGreatDoorBase
set_option linter.all false
namespace Go.Proofs.YtenlpijbhhfahaaGreatDoor
open Go Go.Sim Go.RowKit

noncomputable def isTrue (r : Option (AV × AH)) : Bool :=
  Option.rec (motive := fun _ => Bool) false (fun r => Prod.rec (motive := fun _ => Bool) (fun v _ => isB true v) r) r

noncomputable def livesRun : Option (AV × AH) := runCallF Tryz.prog ⟨extF, noOra⟩ idxK 1000000 11 [] ⟨.nil, 0⟩

set_option maxRecDepth 100000
set_option maxHeartbeats 4000000
theorem lives_true : isTrue livesRun = true := by kernel_rfl

theorem isTrue_some {r : Option (AV × AH)} (h : isTrue r = true) : ∃ h', r = some (.bool true, h') := by
  cases r with
  | none => simp [isTrue] at h
  | some r =>
    obtain ⟨v, h'⟩ := r
    have e : isB true v = true := h
    rw [isB_eq] at e
    cases v with
    | bool b =>
      cases b with
      | true => exact ⟨h', rfl⟩
      | false => simp at e
    | _ => simp at e

theorem lives_ok (w : World) {m : Int} (hm : w.cell? ⟨0, 0, none⟩ = some (.int .i64 m)) : Calls Tryz.prog 11 #[] w fun e w' => e = .returned (.bool true) ∧ Below w.heap.size w w' := by
  letI := noSig
  obtain ⟨h', e⟩ := isTrue_some lives_true
  have hB : 0 < w.heap.size := by
    rcases Nat.eq_zero_or_pos w.heap.size with h | h
    · unfold World.cell? at hm
      rw [Array.getElem?_eq_none (by omega)] at hm
      simp at hm
    · exact h
  have := runCallF_ok (extOk noOra_ok) follows (idxK_ok (w₀ := w) (B := w.heap.size) hB hm) 1000000
  obtain ⟨_, hc⟩ := this (fun _ => none) ⟨.nil, 0⟩ w 11 [] [] (.bool true) h' (rel_empty w) (conL_nil _) e
  refine hc.mono fun e w' ⟨ρ', x, he, ha, hx⟩ => ?_
  rw [con_bool hx] at he
  exact ⟨he, adv_below (fun id => T.get_nil id) ha⟩

end Go.Proofs.YtenlpijbhhfahaaGreatDoor
