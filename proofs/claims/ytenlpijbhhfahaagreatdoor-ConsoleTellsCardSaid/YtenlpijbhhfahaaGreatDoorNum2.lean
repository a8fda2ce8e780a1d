/- A number from 0 on, told: both functions tell the same, of at most 19 bytes, and leave alone what was there. -/
import Derived.Test.YtenlpijbhhfahaaGreatDoorNum
set_option linter.all false
namespace Go.Proofs.YtenlpijbhhfahaaGreatDoor
open Go Go.Sim Go.RowKit

/-- The name of d digits. -/
noncomputable def nm (d : Nat) : Nat × Nat := Nat.rec (motive := fun _ => Nat × Nat) (0, 0) (fun i p => catName (1, Nat.add 256 i) p) d

noncomputable def resIs (u : Option AV) (r : Option (AV × AH)) : Bool :=
  match u, r with
  | some u, some r => beqAV 3 r.1 u
  | _, _ => false

noncomputable def noKnown : CallF := fun _ _ _ => none

theorem noKnown_ok [Sig] (w₀ : World) (B : Nat) : CallOk Tryz.prog w₀ B noKnown := fun ρ h w f args args' v h' _ _ hc => by simp [noKnown] at hc

noncomputable def numRun (f d : Nat) : Option (AV × AH) := runCallF Tryz.prog ⟨extF, dOra d⟩ noKnown 100000 f [.opq 800] ⟨.nil, 0⟩

noncomputable def numAll (f : Nat) (k : Nat) : Bool := Nat.rec (motive := fun _ => Bool) true (fun i b => Bool.rec (motive := fun _ => Bool) false b (resIs (mkName (nm (Nat.succ i))) (numRun f (Nat.succ i)))) k

set_option maxRecDepth 100000
set_option maxHeartbeats 4000000
theorem num_all : numAll 25 19 = true := by kernel_rfl
theorem number_all : numAll 27 19 = true := by kernel_rfl

theorem numAll_at {f : Nat} : ∀ {k d : Nat}, numAll f k = true → 1 ≤ d → d ≤ k → ∃ u h', mkName (nm d) = some u ∧ numRun f d = some (u, h')
  | 0, d, h, h1, h2 => by omega
  | k + 1, d, h, h1, h2 => by
    have e : numAll f (k + 1) = Bool.rec (motive := fun _ => Bool) false (numAll f k) (resIs (mkName (nm (k + 1))) (numRun f (k + 1))) := rfl
    rw [e] at h
    cases hr : resIs (mkName (nm (k + 1))) (numRun f (k + 1)) with
    | false => rw [hr] at h; simp at h
    | true =>
      rw [hr] at h
      by_cases hd : d = k + 1
      · subst hd
        unfold resIs at hr
        split at hr
        · rename_i u r hu hr'
          obtain ⟨v, h'⟩ := r
          letI := noSig
          have := beqAV_eq 3 v u hr
          subst this
          exact ⟨v, h', hu, hr'⟩
        · simp at hr
      · exact numAll_at h h1 (by omega)

theorem digits_of : ∀ (k n : Nat), n < 10 ^ (k + 1) → ∃ d, 1 ≤ d ∧ d ≤ k + 1 ∧ n < 10 ^ d ∧ (d = 1 ∨ 10 ^ (d - 1) ≤ n)
  | 0, n, h => ⟨1, by omega, by omega, h, .inl rfl⟩
  | k + 1, n, h => by
    by_cases hk : n < 10 ^ (k + 1)
    · obtain ⟨d, h1, h2, h3, h4⟩ := digits_of k n hk
      exact ⟨d, h1, by omega, h3, h4⟩
    · exact ⟨k + 2, by omega, by omega, h, .inr (by rw [show k + 2 - 1 = k + 1 from by omega]; omega)⟩

theorem num_call {f n d : Nat} (hn : n < 9223372036854775808) (hd : n < 10 ^ d) (hl : d = 1 ∨ 10 ^ (d - 1) ≤ n) (h1 : 1 ≤ d) (h2 : d ≤ 19) (ha : numAll f 19 = true) (w : World) :
    Calls Tryz.prog f #[.int .i64 (Int.ofNat n)] w fun e w' => e = .returned (.string ⟨⟨nameVal (dsv n) (nm d)⟩⟩) ∧ Below w.heap.size w w' := by
  letI := mkSig (dsv n) (div n)
  obtain ⟨u, h', hu, e⟩ := numAll_at ha h1 h2
  have := runCallF_ok (extOk (dOra_ok hn hd hl h1 h2)) follows (noKnown_ok w w.heap.size) 100000
  have hv : atom (.opq 800) = some (.int .i64 (Int.ofNat n)) := by
    have := opq_even (sv := dsv n) (iv := div n) (div4 (n := n) (j := 400) (by omega) (by omega))
    simpa using this
  have hargs : conL (fun _ => none) [.opq 800] = some [.int .i64 (Int.ofNat n)] := conL_one (atom_some _ hv)
  obtain ⟨_, hc⟩ := this (fun _ => none) ⟨.nil, 0⟩ w f [.opq 800] _ u h' (rel_empty w) hargs e
  refine hc.mono fun e w' ⟨ρ', x, he, ha, hx⟩ => ?_
  have hx' := atom_con (mkName_ok (sv := dsv n) (iv := div n) hu).1 hx
  rw [hx'] at he
  exact ⟨he, adv_below (fun id => T.get_nil id) ha⟩

/-- BOTH TELL THE SAME. -/
theorem numbers (n : Nat) (hn : n < 9223372036854775808) : ∃ s : List UInt8, s.length ≤ 19 ∧ (∀ w, Calls Tryz.prog 25 #[.int .i64 (Int.ofNat n)] w fun e w' => e = .returned (.string ⟨⟨s⟩⟩) ∧ Below w.heap.size w w') ∧
    ∀ w, Calls Tryz.prog 27 #[.int .i64 (Int.ofNat n)] w fun e w' => e = .returned (.string ⟨⟨s⟩⟩) ∧ Below w.heap.size w w' := by
  obtain ⟨d, h1, h2, h3, h4⟩ := digits_of 18 n (Nat.lt_of_lt_of_le hn (by decide))
  refine ⟨nameVal (dsv n) (nm d), ?_, num_call hn h3 h4 h1 h2 num_all, num_call hn h3 h4 h1 h2 number_all⟩
  have := nameVal_len (sv := dsv n) (M := 1) (Nat.le_refl _) (fun i => by simp [dsv]) (nm d)
  have hl : ∀ k, (nm k).1 = k := fun k => by
    induction k with
    | zero => rfl
    | succ k ih =>
      have e : (nm (k + 1)).1 = 1 + (nm k).1 := rfl
      rw [e, ih]; omega
  rw [hl] at this
  omega

end Go.Proofs.YtenlpijbhhfahaaGreatDoor
