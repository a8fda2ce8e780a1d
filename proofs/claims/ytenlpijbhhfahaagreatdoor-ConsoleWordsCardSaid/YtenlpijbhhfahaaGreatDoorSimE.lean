/- The evaluator's soundness, third part: numbers, strings, slices. -/
import Derived.Test.YtenlpijbhhfahaaGreatDoorSimD
set_option linter.all false
set_option maxHeartbeats 2000000
namespace Go.Sim
variable [Sig]

variable {P : Program}

theorem nbd (a b : Nat) : Nat.beq a b = decide (a = b) := by
  rw [Bool.eq_iff_iff, nbeq, decide_eq_true_eq]

-- numbers and strings

theorem ofPure_ok {s : Sem Value} {v : AV} (ρ : Env) (h : ofPure s = some v) : ∃ x, con ρ v = some x ∧ ∀ w, s.run P w = .ok x w := by
  unfold ofPure at h
  split at h <;> simp only [Option.some.injEq, reduceCtorEq] at h
  · subst h; exact ⟨_, by simp [con], fun w => rfl⟩
  · subst h; exact ⟨_, by simp [con], fun w => rfl⟩

/-- strCmp is 0 just where the first is less by the bytes, 2 where the second is. -/
theorem strCmp_ok : ∀ (n c m d : Nat), (Nat.beq (strCmp n c m d) 0 = Op.bytesLess (bytesN n c) (bytesN m d)) ∧ (Nat.beq (strCmp n c m d) 1 = (bytesN n c == bytesN m d)) ∧ strCmp n c m d ≤ 2
  | 0, c, 0, d => by simp [strCmp, bytesN, Op.bytesLess, nbd]
  | 0, c, m + 1, d => by simp [strCmp, bytesN, Op.bytesLess, nbd]
  | n + 1, c, 0, d => by simp [strCmp, bytesN, Op.bytesLess, nbd]
  | n + 1, c, m + 1, d => by
    have ih := strCmp_ok n (c / 256) m (d / 256)
    have hc : c % 256 < 256 := Nat.mod_lt _ (by omega)
    have hd : d % 256 < 256 := Nat.mod_lt _ (by omega)
    by_cases e : c % 256 = d % 256
    · simp only [strCmp, bytesN, Op.bytesLess, e, nbeq.2 rfl]
      simp [ih.1, ih.2.1, ih.2.2]
    · simp only [strCmp, nbeq_f.2 e, bytesN, Op.bytesLess]
      have ne : UInt8.ofNat (c % 256) ≠ UInt8.ofNat (d % 256) := by
        intro h
        have := congrArg UInt8.toNat h
        simp only [UInt8.toNat_ofNat'] at this
        omega
      by_cases l : c % 256 < d % 256
      · rw [nblt.2 l]
        have : UInt8.ofNat (c % 256) < UInt8.ofNat (d % 256) := by
          rw [UInt8.lt_iff_toNat_lt]; simp only [UInt8.toNat_ofNat']; omega
        simp [this, beq_eq_false_iff_ne.2 ne, nbd]
      · rw [nblt_f.2 (by omega)]
        have : ¬ UInt8.ofNat (c % 256) < UInt8.ofNat (d % 256) := by
          rw [UInt8.lt_iff_toNat_lt]; simp only [UInt8.toNat_ofNat']; omega
        simp [this, beq_eq_false_iff_ne.2 ne, nbd]

theorem strCat_ok (ρ : Env) (a b l d : Nat) : con ρ (strCat a b l d) = some (.string (bytesOf a b ++ bytesOf l d)) := by
  unfold strCat lowBytes
  simp only [con, Option.some.injEq, Value.string.injEq]
  rw [pow8, Nat.shiftLeft_eq, pow8]
  unfold bytesOf
  rw [← bytesN_append]
  rfl
theorem con_b (ρ : Env) (b : Bool) : con ρ (.bool b) = some (.bool b) := by simp only [con]
theorem con_i (ρ : Env) (k : IntKind) (n : Int) : con ρ (.int k n) = some (.int k n) := by simp only [con]
theorem con_s (ρ : Env) (n c : Nat) : con ρ (.str n c) = some (.string (bytesOf n c)) := by simp only [con]

theorem con_shape {ρ : Env} {x : AV} {x' : Value} (h : con ρ x = some x') : (x' = .nilIface → x = .nili) ∧ (∀ cs, x' = .agg cs → ∃ l, x = .agg l) := by
  cases x with
  | opq i =>
    simp only [con, Option.map_eq_some_iff] at h
    obtain ⟨a, _, rfl⟩ := h
    cases a <;> exact ⟨fun e => by simp [Atom.val] at e, fun cs e => by simp [Atom.val] at e⟩
  | sl id off len c => obtain ⟨l, _, rfl⟩ := con_sl h; exact ⟨nofun, nofun⟩
  | slo id off len c => obtain ⟨l, _, _, rfl⟩ := con_slo h; exact ⟨nofun, nofun⟩
  | sle id off n sz => obtain ⟨l, _, _, rfl⟩ := con_sle h; exact ⟨nofun, nofun⟩
  | fn f a c => obtain ⟨_, _, _, _, rfl⟩ := con_fn h; exact ⟨nofun, nofun⟩
  | ptr id off => obtain ⟨_, _, rfl⟩ := con_ptr h; exact ⟨nofun, nofun⟩
  | map id => obtain ⟨_, _, rfl⟩ := con_map h; exact ⟨nofun, nofun⟩
  | ifc t v => obtain ⟨_, _, rfl⟩ := con_ifc h; exact ⟨nofun, nofun⟩
  | agg cs => obtain ⟨_, rfl, _⟩ := conL_agg h; exact ⟨nofun, fun _ _ => ⟨cs, rfl⟩⟩
  | tup vs =>
    simp only [con, bnd, undQ_eq, infoQ_eq, funcQ_eq, Option.some.injEq] at h
    obtain ⟨_, _, rfl⟩ := h
    exact ⟨nofun, nofun⟩
  | nili => exact ⟨fun _ => rfl, fun _ e => by simp only [con, Option.some.injEq] at h; subst h; cases e⟩
  | _ =>
    simp only [con, Option.some.injEq] at h
    subst h
    exact ⟨nofun, nofun⟩

theorem guard_ok {ρ : Env} {op : BinOp} {t : TypeId} {xo yo : Operand} {x y : AV} {x' y' : Value} (hp : plainEq P (isConstOp xo || isConstOp yo) t x y = true)
    (hx : con ρ x = some x') (hy : con ρ y = some y') (w : World) : (eqGuard op t xo yo x' y').run P w = .ok () w := by
  have sx := con_shape hx
  have sy := con_shape hy
  by_cases h1 : x' = .nilIface ∧ y' = .nilIface
  · obtain ⟨rfl, rfl⟩ := h1
    rw [sx.1 rfl, sy.1 rfl] at hp
    simp only [plainEq] at hp
    cases xo <;> cases yo <;> first
      | (simp [isConstOp] at hp; done)
      | (cases op <;> simp [eqGuard])
  · by_cases h2 : (∃ a, x' = .agg a) ∧ ∃ b, y' = .agg b
    · obtain ⟨⟨a, rfl⟩, b, rfl⟩ := h2
      obtain ⟨l, rfl⟩ := sx.2 a rfl
      obtain ⟨m, rfl⟩ := sy.2 b rfl
      simp only [plainEq, Bool.not_eq_true'] at hp
      exact run_eqGuard_agg w op t xo yo a b hp
    · unfold eqGuard
      cases op <;> simp <;> first | done | (split <;> first | (exact absurd ⟨rfl, rfl⟩ h1) | (exact absurd ⟨⟨_, rfl⟩, _, rfl⟩ h2) | simp)

theorem binOp_eql_ok {ρ : Env} {t : TypeId} {x y : AV} {x' y' : Value} {b : Bool} (h : eqT P 20 t x y = some b) (hx : con ρ x = some x') (hy : con ρ y = some y')
    (hn : ∀ k a k' a', ¬ (x = .int k a ∧ y = .int k' a')) (hs : ∀ a b c d, ¬ (x = .str a b ∧ y = .str c d)) (w : World) :
    (binOp .eql t x' y').run P w = .ok (.bool b) w ∧ (binOp .neq t x' y').run P w = .ok (.bool (!b)) w := by
  have he := eqT_ok 20 10000 t x y b x' y' (by omega) h hx hy w
  have hq : (Op.equal t x' y').run P w = .ok b w := he
  simp only [eqT, bnd, undQ_eq, infoQ_eq, funcQ_eq] at h
  obtain ⟨u, hu, h⟩ := h
  split at h
  case h_2 => exact absurd ⟨rfl, rfl⟩ (hn _ _ _ _)
  case h_3 => exact absurd ⟨rfl, rfl⟩ (hs _ _ _ _)
  case h_1 => rw [con_bool hx, con_bool hy] at hq ⊢; simp only [binOp, Sem.run_bind, hq, Result.andThen_ok, Sem.run_pure, and_self]
  case h_7 =>
    obtain ⟨l, hl, rfl⟩ := con_ptr hx
    obtain ⟨l', hl', rfl⟩ := con_ptr hy
    simp only [binOp, Sem.run_bind, hq, Result.andThen_ok, Sem.run_pure, and_self]
  case h_22 =>
    obtain ⟨xs, rfl, hxs⟩ := conL_agg hx
    obtain ⟨ys, rfl, hys⟩ := conL_agg hy
    simp only [binOp, Sem.run_bind, hq, Result.andThen_ok, Sem.run_pure, and_self]
  case h_4 => simp only [con, Option.some.injEq] at hx; subst hx; simp only [con, Option.some.injEq] at hy; subst hy; simp only [binOp, Sem.run_bind, hq, Result.andThen_ok, Sem.run_pure, and_self]
  case h_5 => simp only [con, Option.some.injEq] at hx; subst hx; obtain ⟨l, hl, rfl⟩ := con_ptr hy; simp only [binOp, Sem.run_bind, hq, Result.andThen_ok, Sem.run_pure, and_self]
  case h_6 => obtain ⟨l, hl, rfl⟩ := con_ptr hx; simp only [con, Option.some.injEq] at hy; subst hy; simp only [binOp, Sem.run_bind, hq, Result.andThen_ok, Sem.run_pure, and_self]
  case h_8 => simp only [con, Option.some.injEq] at hx; subst hx; simp only [con, Option.some.injEq] at hy; subst hy; simp only [binOp, Sem.run_bind, hq, Result.andThen_ok, Sem.run_pure, and_self]
  case h_9 => simp only [con, Option.some.injEq] at hx; subst hx; obtain ⟨l, hl, rfl⟩ := con_ifc hy; simp only [binOp, Sem.run_bind, hq, Result.andThen_ok, Sem.run_pure, and_self]
  case h_10 => obtain ⟨l, hl, rfl⟩ := con_ifc hx; simp only [con, Option.some.injEq] at hy; subst hy; simp only [binOp, Sem.run_bind, hq, Result.andThen_ok, Sem.run_pure, and_self]
  case h_11 => simp only [con, Option.some.injEq] at hx; subst hx; simp only [con, Option.some.injEq] at hy; subst hy; simp only [binOp, Sem.run_bind, hq, Result.andThen_ok, Sem.run_pure, and_self]
  case h_12 => simp only [con, Option.some.injEq] at hx; subst hx; obtain ⟨l, hl, rfl⟩ := con_sl hy; simp only [binOp, Sem.run_bind, hq, Result.andThen_ok, Sem.run_pure, and_self]
  case h_13 => obtain ⟨l, hl, rfl⟩ := con_sl hx; simp only [con, Option.some.injEq] at hy; subst hy; simp only [binOp, Sem.run_bind, hq, Result.andThen_ok, Sem.run_pure, and_self]
  case h_14 => simp only [con, Option.some.injEq] at hx; subst hx; obtain ⟨l, hl, _, rfl⟩ := con_slo hy; simp only [binOp, Sem.run_bind, hq, Result.andThen_ok, Sem.run_pure, and_self]
  case h_15 => obtain ⟨l, hl, _, rfl⟩ := con_slo hx; simp only [con, Option.some.injEq] at hy; subst hy; simp only [binOp, Sem.run_bind, hq, Result.andThen_ok, Sem.run_pure, and_self]
  case h_16 => simp only [con, Option.some.injEq] at hx; subst hx; simp only [con, Option.some.injEq] at hy; subst hy; simp only [binOp, Sem.run_bind, hq, Result.andThen_ok, Sem.run_pure, and_self]
  case h_17 => simp only [con, Option.some.injEq] at hx; subst hx; obtain ⟨l, hl, rfl⟩ := con_map hy; simp only [binOp, Sem.run_bind, hq, Result.andThen_ok, Sem.run_pure, and_self]
  case h_18 => obtain ⟨l, hl, rfl⟩ := con_map hx; simp only [con, Option.some.injEq] at hy; subst hy; simp only [binOp, Sem.run_bind, hq, Result.andThen_ok, Sem.run_pure, and_self]
  case h_19 => simp only [con, Option.some.injEq] at hx; subst hx; simp only [con, Option.some.injEq] at hy; subst hy; simp only [binOp, Sem.run_bind, hq, Result.andThen_ok, Sem.run_pure, and_self]
  case h_20 => simp only [con, Option.some.injEq] at hx; subst hx; obtain ⟨l, c, hl, hc, rfl⟩ := con_fn hy; simp only [binOp, Sem.run_bind, hq, Result.andThen_ok, Sem.run_pure, and_self]
  case h_21 => obtain ⟨l, c, hl, hc, rfl⟩ := con_fn hx; simp only [con, Option.some.injEq] at hy; subst hy; simp only [binOp, Sem.run_bind, hq, Result.andThen_ok, Sem.run_pure, and_self]
  case h_23 => simp at h

theorem strCmp_cases (a b l d : Nat) : strCmp a b l d = 0 ∧ Op.bytesLess (bytesN a b) (bytesN l d) = true ∧ (bytesN a b == bytesN l d) = false ∨
    strCmp a b l d = 1 ∧ Op.bytesLess (bytesN a b) (bytesN l d) = false ∧ (bytesN a b == bytesN l d) = true ∨
    strCmp a b l d = 2 ∧ Op.bytesLess (bytesN a b) (bytesN l d) = false ∧ (bytesN a b == bytesN l d) = false := by
  obtain ⟨h0, h1, h2⟩ := strCmp_ok a b l d
  generalize strCmp a b l d = n at *
  rw [← h0, ← h1]
  rcases n with _ | _ | _ | n
  · left; simp [nbd]
  · right; left; simp [nbd]
  · right; right; simp [nbd]
  · omega

theorem bin_ok {ρ : Env} {op : BinOp} {t : TypeId} {xo yo : Operand} {x y : AV} {x' y' : Value} {v : AV} (h : binAV P op t (isConstOp xo || isConstOp yo) x y = some v)
    (hx : con ρ x = some x') (hy : con ρ y = some y') :
    ∃ z, con ρ v = some z ∧ ∀ w, (do eqGuard op t xo yo x' y'; binOp op t x' y').run P w = .ok z w := by
  unfold binAV at h
  split at h
  · rename_i k a k' a'
    rw [con_int hx, con_int hy]
    obtain ⟨z, hz, hr⟩ := ofPure_ok ρ h
    refine ⟨z, hz, fun w => ?_⟩
    rw [Sem.run_bind, guard_ok (ρ := ρ) (x := .int k a) (y := .int k' a') rfl (by simp [con]) (by simp [con])]
    exact hr w
  · rename_i a b l d
    rw [con_str hx, con_str hy]
    have hg : ∀ w, (eqGuard op t xo yo (.string (bytesOf a b)) (.string (bytesOf l d))).run P w = .ok () w :=
      guard_ok (ρ := ρ) (x := .str a b) (y := .str l d) rfl (by simp [con]) (by simp [con])
    have hsc := strCmp_cases a b l d
    split at h
    case h_1 =>
      simp only [grd_some, nble, Option.some.injEq] at h
      obtain ⟨hle, rfl⟩ := h
      refine ⟨_, strCat_ok ρ a b l d, fun w => ?_⟩
      have : ¬ (((bytesOf a b).size + (bytesOf l d).size : Nat) : Int) > IntKind.i64.max := by
        rw [bytesOf_size, bytesOf_size]
        have : IntKind.i64.max = 9223372036854775807 := by decide
        rw [this]
        have : (2 : Nat) ^ 62 = 4611686018427387904 := by decide
        omega
      rw [Sem.run_bind, hg]
      simp only [binOp, Op.stringOp, if_neg this, Result.andThen_ok, Sem.run_pure]
    case h_8 => simp at h
    all_goals
      simp only [Option.some.injEq] at h
      subst h
      refine ⟨_, con_b ρ _, fun w => ?_⟩
      rw [Sem.run_bind, hg]
      simp only [binOp, Op.stringOp, Result.andThen_ok, Sem.run_pure, strEq_beq]
      try
        try rw [← strEq_beq]
        simp only [bytesOf_toList]
        rcases hsc with ⟨e, h1, h2⟩ | ⟨e, h1, h2⟩ | ⟨e, h1, h2⟩ <;> simp [e, h1, h2, nbd]
  · rename_i hn hs
    have e : ∀ b, eqT P 20 t x y = some b → ∀ w, (binOp .eql t x' y').run P w = .ok (.bool b) w ∧ (binOp .neq t x' y').run P w = .ok (.bool (!b)) w :=
      fun b hb w => binOp_eql_ok hb hx hy (fun k a k' a' hh => hn _ _ _ _ hh.1 hh.2) (fun a b c d hh => hs _ _ _ _ hh.1 hh.2) w
    split at h
    · simp only [grd_some, bnd, undQ_eq, infoQ_eq, funcQ_eq, Option.some.injEq] at h
      obtain ⟨hp, b, hb, rfl⟩ := h
      refine ⟨_, con_b ρ _, fun w => ?_⟩
      rw [Sem.run_bind, guard_ok hp hx hy]
      exact (e b hb w).1
    · simp only [grd_some, bnd, undQ_eq, infoQ_eq, funcQ_eq, Option.some.injEq] at h
      obtain ⟨hp, b, hb, rfl⟩ := h
      refine ⟨_, con_b ρ _, fun w => ?_⟩
      rw [Sem.run_bind, guard_ok hp hx hy]
      exact (e b hb w).2
    · simp at h

theorem un_ok {ρ : Env} {op : UnOp} {x : AV} {x' : Value} {v : AV} (h : unAV op x = some v) (hx : con ρ x = some x') :
    ∃ z, con ρ v = some z ∧ ∀ w, (Op.unary op x').run P w = .ok z w := by
  unfold unAV at h
  split at h
  · simp only [Option.some.injEq] at h; subst h; rw [con_bool hx]; exact ⟨_, con_b ρ _, fun w => by simp [Op.unary]⟩
  · simp only [Option.some.injEq] at h; subst h; rw [con_int hx]; exact ⟨_, con_i ρ _ _, fun w => by simp [Op.unary, Op.intArith]⟩
  · simp at h

end Go.Sim
