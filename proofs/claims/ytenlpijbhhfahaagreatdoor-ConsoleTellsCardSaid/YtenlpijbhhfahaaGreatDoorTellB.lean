/- A problem that is told: the law's function returns true of any problem. -/
import Derived.Test.YtenlpijbhhfahaaGreatDoorTellA
import Derived.Test.YtenlpijbhhfahaaGreatDoorLives
set_option linter.all false
namespace Go.Proofs.YtenlpijbhhfahaaGreatDoor
open Go Go.Sim Go.RowKit

noncomputable def S (i : Nat) : AV := .opq (2 * (1 + 1024 * (256 + i)) + 1)

noncomputable def tellNum (x : AV) : Option AV :=
  (iname x).bind fun j =>
    match j with
    | 0 => some (S 4) | 2 => some (S 5) | 3 => some (S 6)
    | _ => none

noncomputable def joinK (h : AH) (args : List AV) : Option (AV × AH) :=
  match args with
  | [.sl id off len cap, .str n c] => grd (Nat.beq n 1 && Nat.beq c 32 && Nat.ble len cap) ((h.row id).bind fun r => (readRow r off len).bind fun l => (joinAV (1, 32) l).bind fun v => some (v, h))
  | _ => none

noncomputable def tKnown (b : Bool) (f : FuncId) (args : List AV) (h : AH) : Option (AV × AH) :=
  match Nat.beq f 11 with
  | true => match args with
    | [] => some (.bool true, h)
    | _ => none
  | false => grd b (match Nat.beq f 46 with
    | true => joinK h args
    | false => grd (Nat.beq f 25 || Nat.beq f 27) (match args with
      | [x] => (tellNum x).bind fun v => some (v, h)
      | _ => none))

noncomputable def prbAV : AV := .agg [.opq 0, S 0, S 1, S 2, .opq 2, .opq 4, .opq 6, S 3]

noncomputable def tellRun (b : Bool) (t : Asks) : Option (AV × AH) := runCallF Tryz.prog ⟨extF, tOra t⟩ (tKnown b) 100000 4 [prbAV] ⟨.nil, 0⟩

noncomputable def both (f : Bool → Bool) : Bool := Bool.rec (motive := fun _ => Bool) false (f true) (f false)

theorem both_at {f : Bool → Bool} (h : both f = true) (b : Bool) : f b = true := by
  have e : both f = Bool.rec (motive := fun _ => Bool) false (f true) (f false) := rfl
  rw [e] at h
  cases hf : f false with
  | false => rw [hf] at h; simp at h
  | true =>
    rw [hf] at h
    cases b with
    | false => exact hf
    | true => exact h

set_option maxRecDepth 100000
set_option maxHeartbeats 4000000
theorem out0 (c1 c2 c3 c4 z0 zg za zv zo zl zc zw : Bool) : isTrue (tellRun false ⟨true, c1, c2, c3, c4, z0, zg, za, zv, zo, zl, zc, zw⟩) = true := by kernel_rfl
theorem out1 (c2 c3 c4 z0 zg za zv zo zl zc zw : Bool) : isTrue (tellRun false ⟨false, true, c2, c3, c4, z0, zg, za, zv, zo, zl, zc, zw⟩) = true := by kernel_rfl
theorem out2 (c3 c4 z0 zg za zv zo zl zc zw : Bool) : isTrue (tellRun false ⟨false, false, true, c3, c4, z0, zg, za, zv, zo, zl, zc, zw⟩) = true := by kernel_rfl
theorem out3 (c4 z0 zg za zv zo zl zc zw : Bool) : isTrue (tellRun false ⟨false, false, false, true, c4, z0, zg, za, zv, zo, zl, zc, zw⟩) = true := by kernel_rfl
theorem out4 (z0 zg za zv zo zl zc zw : Bool) : isTrue (tellRun false ⟨false, false, false, false, true, z0, zg, za, zv, zo, zl, zc, zw⟩) = true := by kernel_rfl

noncomputable def inner (zo zl zc zw : Bool) : Bool :=
  both fun z0 => both fun zg => both fun za => both fun zv => isTrue (tellRun true ⟨false, false, false, false, false, z0, zg, za, zv, zo, zl, zc, zw⟩)

theorem in_a : (both fun zc => both fun zw => inner false false zc zw) = true := by kernel_rfl
theorem in_b : (both fun zc => both fun zw => inner false true zc zw) = true := by kernel_rfl
theorem in_c : (both fun zc => both fun zw => inner true false zc zw) = true := by kernel_rfl
theorem in_d : (both fun zc => both fun zw => inner true true zc zw) = true := by kernel_rfl
end Go.Proofs.YtenlpijbhhfahaaGreatDoor
