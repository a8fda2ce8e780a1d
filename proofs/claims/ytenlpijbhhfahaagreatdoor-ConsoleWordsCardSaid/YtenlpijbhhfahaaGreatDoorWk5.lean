/- Is of class 1: a blank: by the evaluator, each of the 256 bytes. -/
import Derived.Test.YtenlpijbhhfahaaGreatDoorBase
import Derived.Test.YtenlpijbhhfahaaGreatDoorLives
import Derived.Test.YtenlpijbhhfahaaGreatDoorWk4
set_option linter.all false
namespace Go.Proofs.YtenlpijbhhfahaaGreatDoor
open Go Go.Sim Go.RowKit

noncomputable def isRun (c : Nat) : Option (AV × AH) := runCallF Tryz.prog ⟨extF, noOra⟩ (fun _ _ _ => none) 1000 20 [.int .u8 (.ofNat c), .int .i64 (.ofNat 1)] ⟨.nil, 0⟩

noncomputable def saysB (b : Bool) (r : Option (AV × AH)) : Bool :=
  Option.rec (motive := fun _ => Bool) false (fun r => Prod.rec (motive := fun _ => Bool) (fun v _ => isB b v) r) r

noncomputable def allB (f : Nat → Bool) : Nat → Bool := Nat.rec true (fun c ih => Bool.rec false ih (f c))

theorem allB_at {f : Nat → Bool} {n : Nat} (hn : allB f n = true) (c : Nat) (h : c < n) : f c = true := by
  induction n with
  | zero => omega
  | succ n ih =>
    have e : allB f (n + 1) = Bool.rec false (allB f n) (f n) := rfl
    rw [e] at hn
    generalize hb : f n = b at hn
    cases b with
    | false => simp at hn
    | true =>
      rcases Nat.lt_or_ge c n with h1 | h1
      · exact ih hn h1
      · have : c = n := by omega
        subst this
        exact hb

set_option maxRecDepth 100000 in
theorem is_all : allB (fun c => saysB (blkI (.ofNat c)) (isRun c)) 256 = true := by kernel_rfl

theorem saysB_some {b : Bool} {r : Option (AV × AH)} (h : saysB b r = true) : ∃ h', r = some (.bool b, h') := by
  cases r with
  | none => simp [saysB] at h
  | some r =>
    obtain ⟨v, h'⟩ := r
    have e : isB b v = true := h
    rw [isB_eq] at e
    cases v with
    | bool b' => exact ⟨h', by simp_all⟩
    | _ => simp at e

theorem none_ok [Sig] {w₀ : World} {B : Nat} : CallOk Tryz.prog w₀ B (fun _ _ _ => none) := by
  intro ρ h w f args args' v h' hr hargs hcall
  simp at hcall

theorem is_any (c : UInt8) (w : World) : Calls Tryz.prog 20 #[.int .u8 (c.toNat : Int), .int .i64 1] w fun e w' => e = .returned (.bool (blk c)) ∧ Below w.heap.size w w' := by
  letI := noSig
  obtain ⟨h', e⟩ := saysB_some (allB_at is_all c.toNat c.toNat_lt)
  have := runCallF_ok (extOk noOra_ok) follows (none_ok (w₀ := w) (B := w.heap.size)) 1000
  obtain ⟨_, hc⟩ := this (fun _ => none) ⟨.nil, 0⟩ w 20 _ [.int .u8 (c.toNat : Int), .int .i64 1] (.bool (blkI (.ofNat c.toNat))) h' (rel_empty w) (by simp only [conL, con]; rfl) e
  refine hc.mono fun e w' ⟨ρ', x, he, ha, hx⟩ => ?_
  rw [con_bool hx] at he
  exact ⟨he, adv_below (fun id => T.get_nil id) ha⟩
end Go.Proofs.YtenlpijbhhfahaaGreatDoor
