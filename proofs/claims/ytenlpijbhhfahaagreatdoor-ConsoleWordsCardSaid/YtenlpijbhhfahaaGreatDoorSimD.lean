/- The evaluator's soundness, second part: operations that look at no memory. -/
import Derived.Test.YtenlpijbhhfahaaGreatDoorSimC
import Derived.Laws.Entries
import Derived.Laws.StructEq
import Derived.Laws.Externs
import Derived.Laws.LoneSync
set_option linter.all false
set_option maxHeartbeats 2000000
namespace Go.Sim
variable [Sig]

variable {P : Program}

theorem run_typeInfo' {t : TypeId} {i : TypeInfo} (h : P.info? t = some i) (w : World) : (typeInfo t).run P w = .ok i w := by
  simp [typeInfo, h]

theorem sizeT_info {t : TypeId} {n : Nat} (h : sizeT P t = some n) : ∃ i, P.info? t = some i ∧ i.size = n := by
  simpa [sizeT, bnd, undQ_eq, infoQ_eq, funcQ_eq] using h

theorem run_sizeOf' {t : TypeId} {n : Nat} (h : sizeT P t = some n) (w : World) : (sizeOf t).run P w = .ok n w := by
  obtain ⟨i, hi, rfl⟩ := sizeT_info h
  simp [sizeOf, run_typeInfo' hi]

theorem run_isAgg' {t : TypeId} {d : TypeDesc} (h : P.underlying t = some d) (w : World) : (isAgg t).run P w = .ok (isAggD d) w := by
  simp only [isAgg, Sem.run_bind, run_underlying h, Result.andThen_ok]
  cases d <;> rfl

theorem run_zeroValue' {t : TypeId} {z : AV} (h : zeroAV P t = some z) (ρ : Env) : ∃ v, con ρ z = some v ∧ ∀ w, (zeroValue t).run P w = .ok v w := by
  simp only [zeroAV, bnd, undQ_eq, infoQ_eq, funcQ_eq] at h
  obtain ⟨i, hi, v, hv, h⟩ := h
  exact ⟨v, ofVal_con h, fun w => by simp [zeroValue, run_typeInfo' hi, hv]⟩

theorem conL_agg {ρ : Env} {cs : List AV} {x : Value} (h : con ρ (.agg cs) = some x) : ∃ xs, x = .agg ⟨xs⟩ ∧ conL ρ cs = some xs := by
  simp only [con, bnd, undQ_eq, infoQ_eq, funcQ_eq, Option.some.injEq] at h
  obtain ⟨xs, h1, h2⟩ := h
  exact ⟨xs, h2.symm, h1⟩

theorem con_agg {ρ : Env} {cs : List AV} {xs : List Value} (h : conL ρ cs = some xs) : con ρ (.agg cs) = some (.agg ⟨xs⟩) := by
  simp only [con, bnd, undQ_eq, infoQ_eq, funcQ_eq]; exact ⟨xs, h, rfl⟩

theorem part_ok {ρ : Env} {t : TypeId} {cs : List AV} {xs : List Value} {off : Nat} {v : AV} (h : partL P t cs off = some v) (hc : conL ρ cs = some xs) :
    ∃ x, con ρ v = some x ∧ ∀ w, (part t ⟨xs⟩ off).run P w = .ok x w := by
  simp only [partL, bnd, undQ_eq, infoQ_eq, funcQ_eq] at h
  obtain ⟨d, hd, h⟩ := h
  cases ha : isAggD d with
  | true =>
    simp only [ha, bnd, undQ_eq, infoQ_eq, funcQ_eq, Option.some.injEq] at h
    obtain ⟨n, hn, rfl⟩ := h
    refine ⟨.agg ⟨(xs.drop off).take n⟩, con_agg (conL_take n (conL_drop off hc)), fun w => ?_⟩
    simp only [part, Sem.run_bind, run_isAgg' hd, ha, Result.andThen_ok, if_true, run_sizeOf' hn, Sem.run_pure]
    simp only [List.extract_toArray, List.extract_eq_take_drop]
    rw [show off + n - off = n from by omega]
  | false =>
    simp only [ha] at h
    obtain ⟨x, hx, hx'⟩ := conL_get hc h
    refine ⟨x, hx, fun w => ?_⟩
    simp only [part, Sem.run_bind, run_isAgg' hd, ha, Result.andThen_ok, Bool.false_eq_true, if_false, List.getElem?_toArray, hx', Sem.run_pure]

-- sameness

theorem fieldsOf_eq {t : TypeId} {fs : Array Field} (h : P.underlying t = some (.struct fs)) : P.fieldsOf t = fs := by
  simp [Program.fieldsOf, h]

theorem eqFields_ok {ρ : Env} {eq : TypeId → AV → AV → Option Bool} {D : Nat}
    (heq : ∀ t x y b x' y', eq t x y = some b → con ρ x = some x' → con ρ y = some y' → ∀ w, (Op.equalIn D t x' y').run P w = .ok b w)
    {xs ys : List AV} {xs' ys' : List Value} (hx : conL ρ xs = some xs') (hy : conL ρ ys = some ys') :
    ∀ (fs : List Field) (b : Bool), eqFields P eq fs xs ys = some b → ∀ w, (Op.eqFields D ⟨xs'⟩ ⟨ys'⟩ fs).run P w = .ok b w
  | [], b, h, w => by simp [eqFields] at h; subst h; simp [Op.eqFields]
  | f :: fs, b, h, w => by
    unfold eqFields at h
    by_cases hf : f.name = "_"
    · simp only [hf, decide_true] at h
      have ih := eqFields_ok heq hx hy fs b h w
      simpa [Op.eqFields, hf] using ih
    · simp only [hf, decide_false, bnd, undQ_eq, infoQ_eq, funcQ_eq] at h
      obtain ⟨a, ha, c, hc, r, hr, h⟩ := h
      obtain ⟨a', ha', ra⟩ := part_ok ha hx
      obtain ⟨c', hc', rc⟩ := part_ok hc hy
      have he := heq _ _ _ _ _ _ hr ha' hc'
      cases r with
      | false =>
        simp only [Option.some.injEq] at h
        subst h
        simp [Op.eqFields, hf, ra, rc, he]
      | true =>
        have ih := eqFields_ok heq hx hy fs b h w
        simpa [Op.eqFields, hf, ra, rc, he] using ih

theorem con_ptr {ρ : Env} {id off : Nat} {x : Value} (h : con ρ (.ptr id off) = some x) : ∃ l, ρ id = some l ∧ x = .pointer (some ⟨l.blk, off, none⟩) := by
  simp only [con, bnd, undQ_eq, infoQ_eq, funcQ_eq, Option.some.injEq] at h
  obtain ⟨l, h1, h2⟩ := h
  exact ⟨l, h1, h2.symm⟩

theorem con_map {ρ : Env} {id : Nat} {x : Value} (h : con ρ (.map id) = some x) : ∃ l, ρ id = some l ∧ x = .map (some l.blk) := by
  simp only [con, bnd, undQ_eq, infoQ_eq, funcQ_eq, Option.some.injEq] at h
  obtain ⟨l, h1, h2⟩ := h
  exact ⟨l, h1, h2.symm⟩

theorem con_sl {ρ : Env} {id off len c : Nat} {x : Value} (h : con ρ (.sl id off len c) = some x) : ∃ l, ρ id = some l ∧ x = .slice (some ⟨l.blk, off, none⟩) len c := by
  simp only [con, bnd, undQ_eq, infoQ_eq, funcQ_eq, Option.some.injEq] at h
  obtain ⟨l, h1, h2⟩ := h
  exact ⟨l, h1, h2.symm⟩

theorem con_slo {ρ : Env} {id off len sz : Nat} {x : Value} (h : con ρ (.slo id off len sz) = some x) :
    ∃ l, ρ id = some l ∧ len ≤ (l.ce - off) / sz ∧ x = .slice (some ⟨l.blk, off, none⟩) len ((l.ce - off) / sz) := by
  simp only [con, bnd, undQ_eq, infoQ_eq, funcQ_eq] at h
  obtain ⟨l, h1, h2⟩ := h
  unfold openSlice at h2
  split at h2
  · rename_i hle
    simp only [Option.some.injEq] at h2
    exact ⟨l, h1, hle, h2.symm⟩
  · simp at h2

theorem con_sle {ρ : Env} {id off n sz : Nat} {x : Value} (h : con ρ (.sle id off n sz) = some x) :
    ∃ l, ρ id = some l ∧ n ≤ (l.ce - off) / sz ∧ x = .slice (some ⟨l.blk, if (l.ce - off) / sz = n then off else off + n * sz, none⟩) 0 ((l.ce - off) / sz - n) := by
  simp only [con, bnd, undQ_eq, infoQ_eq, funcQ_eq] at h
  obtain ⟨l, h1, h2⟩ := h
  unfold endSlice at h2
  split at h2
  · rename_i hle
    simp only [Option.some.injEq] at h2
    exact ⟨l, h1, hle, h2.symm⟩
  · simp at h2

/-- A slice that isn't nil. -/
theorem asSl_ok {ρ : Env} {v : AV} {id off len : Nat} {x : Value} (h : asSl v = some (id, off, len)) (hv : con ρ v = some x) :
    ∃ l cap, ρ id = some l ∧ x = .slice (some ⟨l.blk, off, none⟩) len cap := by
  unfold asSl at h
  split at h
  · simp only [Option.some.injEq, Prod.mk.injEq] at h
    obtain ⟨rfl, rfl, rfl⟩ := h
    obtain ⟨l, hl, rfl⟩ := con_sl hv
    exact ⟨l, _, hl, rfl⟩
  · simp only [Option.some.injEq, Prod.mk.injEq] at h
    obtain ⟨rfl, rfl, rfl⟩ := h
    obtain ⟨l, hl, _, rfl⟩ := con_slo hv
    exact ⟨l, _, hl, rfl⟩
  · simp at h

theorem con_fn {ρ : Env} {f : FuncId} {a c : List AV} {x : Value} (h : con ρ (.fn f a c) = some x) : ∃ a' c', conL ρ a = some a' ∧ conL ρ c = some c' ∧ x = .func (.func f) ⟨a'⟩ ⟨c'⟩ := by
  simp only [con, bnd, undQ_eq, infoQ_eq, funcQ_eq, Option.some.injEq] at h
  obtain ⟨a', h1, c', h2, h3⟩ := h
  exact ⟨a', c', h1, h2, h3.symm⟩

theorem con_ifc {ρ : Env} {t : TypeId} {v : AV} {x : Value} (h : con ρ (.ifc t v) = some x) : ∃ y, con ρ v = some y ∧ x = .iface t y := by
  simp only [con, bnd, undQ_eq, infoQ_eq, funcQ_eq, Option.some.injEq] at h
  obtain ⟨y, h1, h2⟩ := h
  exact ⟨y, h1, h2.symm⟩

theorem con_str {ρ : Env} {n c : Nat} {x : Value} (h : con ρ (.str n c) = some x) : x = .string (bytesOf n c) := by
  simpa [con, eq_comm] using h

theorem con_int {ρ : Env} {k : IntKind} {n : Int} {x : Value} (h : con ρ (.int k n) = some x) : x = .int k n := by
  simpa [con, eq_comm] using h

theorem con_bool {ρ : Env} {b : Bool} {x : Value} (h : con ρ (.bool b) = some x) : x = .bool b := by
  simpa [con, eq_comm] using h

theorem strEq_beq (n c m d : Nat) : ((bytesOf n c).toList == (bytesOf m d).toList) = strEq n c m d := by
  rw [bytesOf_toList, bytesOf_toList, Bool.eq_iff_iff, beq_iff_eq, strEq_iff]
  unfold bytesOf
  constructor
  · intro h; rw [h]
  · intro h
    injection h with h
    injection h

theorem run_sameAddr_here (b o q : Nat) (w : World) : (sameAddr ⟨b, o, none⟩ ⟨b, q, none⟩).run P w = .ok (Nat.beq o q) w := by
  have : (({ block := b, off := o, spot := none } : Addr) == { block := b, off := q, spot := none }) = Nat.beq o q := by
    rw [Bool.eq_iff_iff, beq_iff_eq, nbeq]
    constructor
    · intro h; injection h
    · intro h; subst h; rfl
  simp [sameAddr, this]

theorem eqT_ok {ρ : Env} : ∀ (d D : Nat) (t : TypeId) (x y : AV) (b : Bool) (x' y' : Value), d ≤ D → eqT P d t x y = some b → con ρ x = some x' → con ρ y = some y' →
    ∀ w, (Op.equalIn D t x' y').run P w = .ok b w
  | 0, D, t, x, y, b, x', y', _, h, _, _, w => by simp [eqT] at h
  | d + 1, D, t, x, y, b, x', y', hD, h, hx, hy, w => by
    obtain ⟨D, rfl⟩ : ∃ m, D = m + 1 := ⟨D - 1, by omega⟩
    simp only [eqT, bnd, undQ_eq, infoQ_eq, funcQ_eq] at h
    obtain ⟨u, hu, h⟩ := h
    split at h
    case h_1 => rw [con_bool hx, con_bool hy]; simp only [Option.some.injEq] at h; subst h; simp [Op.equalIn, run_underlying hu]
    case h_2 =>
      rw [con_int hx, con_int hy]
      simp only [grd_some, decide_eq_true_eq, Option.some.injEq] at h
      obtain ⟨rfl, rfl⟩ := h
      simp [Op.equalIn, run_underlying hu]
    case h_3 =>
      rw [con_str hx, con_str hy]
      simp only [Option.some.injEq] at h
      subst h
      rw [run_equalIn_string w D t _ _ hu, strEq_beq]
    case h_7 =>
      obtain ⟨l, hl, rfl⟩ := con_ptr hx
      obtain ⟨l', hl', rfl⟩ := con_ptr hy
      simp only [bnd, undQ_eq, infoQ_eq, funcQ_eq, grd_some, Bool.and_eq_true, nblt, nbeq, Option.some.injEq] at h
      obtain ⟨n, hn, ⟨h0, rfl⟩, rfl⟩ := h
      rw [hl] at hl'
      simp only [Option.some.injEq] at hl'
      subst hl'
      have : n ≠ 0 := by omega
      simp only [Op.equalIn, Sem.run_bind, run_underlying hu, Result.andThen_ok, run_sizeOf' hn, this, ne_eq, not_false_eq_true, if_true, run_sameAddr_here]
    case h_22 =>
      obtain ⟨xs, rfl, hxs⟩ := conL_agg hx
      obtain ⟨ys, rfl, hys⟩ := conL_agg hy
      simp only [grd_some, Bool.not_eq_true'] at h
      obtain ⟨hp, h⟩ := h
      rename_i fs _ _ _ _ _
      rw [run_equalIn_struct w D t ⟨xs⟩ ⟨ys⟩ (by rw [fieldsOf_eq hu]; exact hu) hp, fieldsOf_eq hu]
      exact eqFields_ok (fun t x y b x' y' h1 h2 h3 w => eqT_ok d D t x y b x' y' (by omega) h1 h2 h3 w) hxs hys _ b h w
    case h_4 => simp only [Option.some.injEq] at h; subst h; simp only [con, Option.some.injEq] at hx; subst hx; simp only [con, Option.some.injEq] at hy; subst hy; simp [Op.equalIn, run_underlying hu]
    case h_5 => simp only [Option.some.injEq] at h; subst h; simp only [con, Option.some.injEq] at hx; subst hx; obtain ⟨l, hl, rfl⟩ := con_ptr hy; simp [Op.equalIn, run_underlying hu]
    case h_6 => simp only [Option.some.injEq] at h; subst h; obtain ⟨l, hl, rfl⟩ := con_ptr hx; simp only [con, Option.some.injEq] at hy; subst hy; simp [Op.equalIn, run_underlying hu]
    case h_8 => simp only [Option.some.injEq] at h; subst h; simp only [con, Option.some.injEq] at hx; subst hx; simp only [con, Option.some.injEq] at hy; subst hy; simp [Op.equalIn, run_underlying hu]
    case h_9 => simp only [Option.some.injEq] at h; subst h; simp only [con, Option.some.injEq] at hx; subst hx; obtain ⟨l, hl, rfl⟩ := con_ifc hy; simp [Op.equalIn, run_underlying hu]
    case h_10 => simp only [Option.some.injEq] at h; subst h; obtain ⟨l, hl, rfl⟩ := con_ifc hx; simp only [con, Option.some.injEq] at hy; subst hy; simp [Op.equalIn, run_underlying hu]
    case h_11 => simp only [Option.some.injEq] at h; subst h; simp only [con, Option.some.injEq] at hx; subst hx; simp only [con, Option.some.injEq] at hy; subst hy; simp [Op.equalIn, run_underlying hu]
    case h_12 => simp only [Option.some.injEq] at h; subst h; simp only [con, Option.some.injEq] at hx; subst hx; obtain ⟨l, hl, rfl⟩ := con_sl hy; simp [Op.equalIn, run_underlying hu]
    case h_13 => simp only [Option.some.injEq] at h; subst h; obtain ⟨l, hl, rfl⟩ := con_sl hx; simp only [con, Option.some.injEq] at hy; subst hy; simp [Op.equalIn, run_underlying hu]
    case h_14 => simp only [Option.some.injEq] at h; subst h; simp only [con, Option.some.injEq] at hx; subst hx; obtain ⟨l, hl, _, rfl⟩ := con_slo hy; simp [Op.equalIn, run_underlying hu]
    case h_15 => simp only [Option.some.injEq] at h; subst h; obtain ⟨l, hl, _, rfl⟩ := con_slo hx; simp only [con, Option.some.injEq] at hy; subst hy; simp [Op.equalIn, run_underlying hu]
    case h_16 => simp only [Option.some.injEq] at h; subst h; simp only [con, Option.some.injEq] at hx; subst hx; simp only [con, Option.some.injEq] at hy; subst hy; simp [Op.equalIn, run_underlying hu]
    case h_17 => simp only [Option.some.injEq] at h; subst h; simp only [con, Option.some.injEq] at hx; subst hx; obtain ⟨l, hl, rfl⟩ := con_map hy; simp [Op.equalIn, run_underlying hu]
    case h_18 => simp only [Option.some.injEq] at h; subst h; obtain ⟨l, hl, rfl⟩ := con_map hx; simp only [con, Option.some.injEq] at hy; subst hy; simp [Op.equalIn, run_underlying hu]
    case h_19 => simp only [Option.some.injEq] at h; subst h; simp only [con, Option.some.injEq] at hx; subst hx; simp only [con, Option.some.injEq] at hy; subst hy; simp [Op.equalIn, run_underlying hu]
    case h_20 => simp only [Option.some.injEq] at h; subst h; simp only [con, Option.some.injEq] at hx; subst hx; obtain ⟨l, c, hl, hc, rfl⟩ := con_fn hy; simp [Op.equalIn, run_underlying hu]
    case h_21 => simp only [Option.some.injEq] at h; subst h; obtain ⟨l, c, hl, hc, rfl⟩ := con_fn hx; simp only [con, Option.some.injEq] at hy; subst hy; simp [Op.equalIn, run_underlying hu]
    case h_23 => simp at h
end Go.Sim
