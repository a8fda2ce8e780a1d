/- The evaluator, its soundness, fourth part: aggregates, slices, operations that look at no memory. -/
import Derived.Test.YtenlpijbhhfahaaGreatDoorSimE
import Derived.Lib.Bytealg
set_option linter.all false
set_option maxHeartbeats 2000000
namespace Go.Sim
variable [Sig]
variable {P : Program}

-- aggregates

theorem fold_overlay (off : Nat) : ∀ (xs : List Value) (k : Nat) (cs : Array Value), off + k + xs.length ≤ cs.size →
    (xs.zipIdx k).foldl (fun (cs : Array Value) (p : Value × Nat) => cs.setIfInBounds (off + p.2) p.1) cs = ⟨cs.toList.take (off + k) ++ xs ++ cs.toList.drop (off + k + xs.length)⟩
  | [], k, cs, h => by simp
  | x :: xs, k, cs, h => by
    simp only [List.length_cons] at h
    simp only [List.zipIdx_cons, List.foldl_cons]
    rw [fold_overlay off xs (k + 1) _ (by simp; omega)]
    congr 1
    simp only [Array.toList_setIfInBounds, List.length_cons]
    have hlt : off + k < cs.toList.length := by simp; omega
    rw [List.take_set, List.drop_set, if_pos (by omega)]
    rw [show off + (k + 1) = off + k + 1 from by omega, show off + k + 1 + xs.length = off + k + (xs.length + 1) from by omega]
    rw [List.take_succ_eq_append_getElem hlt, List.set_append_right _ _ (by simp; omega)]
    simp only [List.length_take, show off + k - min (off + k) cs.toList.length = 0 from by omega, List.set_cons_zero, List.append_assoc, List.cons_append, List.nil_append]

theorem overlay_ok {ρ : Env} {cs xs : List AV} {cs' xs' : List Value} (off : Nat) (hc : conL ρ cs = some cs') (hx : conL ρ xs = some xs') :
    conL ρ (overlay cs off xs) = some (cs'.take off ++ xs' ++ cs'.drop (off + xs'.length)) := by
  unfold overlay
  rw [← conL_len hx]
  exact conL_append (conL_append (conL_take off hc) hx) (conL_drop _ hc)

theorem fill_ok {ρ : Env} {place place' : Nat → Option (Nat × Nat)} (hp : ∀ i p, place i = some p → place' i = some p) :
    ∀ {parts : List (Nat × AV)} {parts' : List (Nat × Value)} {cells out : List AV} {cells' : List Value}, fillL place cells parts = some out → conL ρ cells = some cells' → conP ρ parts parts' →
      ∃ out', conL ρ out = some out' ∧ Instr.fill place' ⟨cells'⟩ parts' = some ⟨out'⟩
  | [], parts', cells, out, cells', h, hc, hq => by
    have : parts' = [] := by simpa using hq.1
    subst this
    simp only [fillL, Option.some.injEq] at h
    subst h
    exact ⟨cells', hc, by simp [Instr.fill]⟩
  | (i, v) :: rest, parts', cells, out, cells', h, hc, hq => by
    obtain ⟨hq1, hq2⟩ := hq
    cases parts' with
    | nil => simp at hq1
    | cons p rest' =>
      obtain ⟨j, x⟩ := p
      simp only [List.map_cons, List.cons.injEq] at hq1
      obtain ⟨rfl, hq1⟩ := hq1
      obtain ⟨y, hy, ys, hys, he⟩ := conL_cons.1 hq2
      simp only [List.map_cons, List.cons.injEq] at he
      obtain ⟨rfl, rfl⟩ := he
      simp only [fillL, bnd, undQ_eq, infoQ_eq, funcQ_eq, grd_some, Bool.and_eq_true, nbeq, nble] at h
      obtain ⟨⟨off, size⟩, hpl, ⟨hsz, hle⟩, h⟩ := h
      have hcl := con_cells hy
      have hl1 := conL_len hcl
      have hl2 := conL_len hc
      simp only [Array.length_toList] at hl1
      obtain ⟨out', ho, hf⟩ := fill_ok hp h (overlay_ok off hc hcl) ⟨hq1, hys⟩
      refine ⟨out', ho, ?_⟩
      simp only at hsz hle
      simp only [Instr.fill, hp _ _ hpl]
      have hcond : ¬ ((decide (y.cells.size ≠ size) || decide (off + y.cells.size > ({ toList := cells' } : Array Value).size)) = true) := by
        simp; omega
      rw [if_neg hcond]
      have := fold_overlay off y.cells.toList 0 ⟨cells'⟩ (by simp; omega)
      rw [← Array.foldl_toList, Array.toList_zipIdx, this]
      simpa using hf

theorem run_places : ∀ (fs : List Field), allSized P fs = true → ∀ w, (fs.mapM (m := Sem) fun f => do pure (f.offset, ← sizeOf f.type)).run P w = .ok (fs.map fun f => (f.offset, (sizeT P f.type).getD 0)) w
  | [], _, w => by simp
  | f :: fs, h, w => by
    simp only [allSized, Bool.and_eq_true, Option.isSome_iff_exists] at h
    obtain ⟨⟨n, hn⟩, h⟩ := h
    have ih := run_places fs h w
    simp only [List.mapM_cons, Sem.run_bind, run_sizeOf' hn, Result.andThen_ok, Sem.run_pure, ih, List.map_cons, hn, Option.getD_some]

theorem build_ok {ρ : Env} {t : TypeId} {parts : List (Nat × AV)} {parts' : List (Nat × Value)} {v : AV} (h : buildAV P t parts = some v) (hp : conP ρ parts parts') :
    ∃ x, con ρ v = some x ∧ ∀ w, (Instr.build t ⟨parts'⟩).run P w = .ok x w := by
  simp only [buildAV, bnd, undQ_eq, infoQ_eq, funcQ_eq, grd_some, Option.some.injEq] at h
  obtain ⟨d, hd, fs, hfs, z, hz, hs, cs, hcs, rfl⟩ := h
  simp only [zeroL, bnd, undQ_eq, infoQ_eq, funcQ_eq, Option.some.injEq] at hz
  obtain ⟨z0, hz0, rfl⟩ := hz
  obtain ⟨zv, hzv, hrun⟩ := run_zeroValue' hz0 ρ
  have hd' : d = .struct ⟨fs⟩ := by
    unfold asStruct at hfs
    split at hfs
    · simp only [Option.some.injEq] at hfs; subst hfs; rfl
    · simp at hfs
  subst hd'
  have hpl : ∀ i p, structPlace P fs i = some p → (⟨fs.map fun f => (f.offset, (sizeT P f.type).getD 0)⟩ : Array (Nat × Nat))[i]? = some p := by
    intro i p hi
    simp only [structPlace, bnd, undQ_eq, infoQ_eq, funcQ_eq, Option.some.injEq] at hi
    obtain ⟨f, hf, n, hn, rfl⟩ := hi
    simp [hf, hn]
  obtain ⟨out', ho, hf⟩ := fill_ok hpl hcs (con_cells hzv) hp
  refine ⟨_, con_agg ho, fun w => ?_⟩
  simp only [Instr.build, Sem.run_bind, hrun, Result.andThen_ok, run_underlying hd, List.mapM_toArray, Sem.run_map, run_places fs hs]
  have hf' : Instr.fill (fun x => (⟨fs.map fun f => (f.offset, (sizeT P f.type).getD 0)⟩ : Array (Nat × Nat))[x]?) zv.cells parts' = some ⟨out'⟩ := hf
  have hfun : (fun (x : Nat) => (⟨fs.map fun f => (f.offset, (sizeT P f.type).getD 0)⟩ : Array (Nat × Nat))[x]?) = fun (x : Nat) => Option.map (fun (f : Field) => (f.offset, (sizeT P f.type).getD 0)) fs[x]? := by
    funext x; simp
  rw [hfun] at hf'
  simp [hf']

/-- The zero cells of a number of elements. -/
def zerosV (z : List Value) : Nat → List Value
  | 0 => []
  | n + 1 => z ++ zerosV z n

theorem conL_zeros {ρ : Env} {z : List AV} {zs : List Value} (h : conL ρ z = some zs) : ∀ n, conL ρ (zerosN z n) = some (zerosV zs n)
  | 0 => by simp [zerosN, zerosV, conL]
  | n + 1 => conL_append h (conL_zeros h n)

theorem zerosV_len (zs : List Value) : ∀ n, (zerosV zs n).length = n * zs.length
  | 0 => by simp [zerosV]
  | n + 1 => by simp [zerosV, zerosV_len zs n, Nat.succ_mul, Nat.add_comm]

theorem zerosV_get (zs : List Value) : ∀ n i, i < n * zs.length → (zerosV zs n)[i]? = some (zs[i % zs.length]!)
  | 0, i, h => by omega
  | n + 1, i, h => by
    have h0 : 0 < zs.length := by
      rcases Nat.eq_zero_or_pos zs.length with e | e
      · rw [e] at h; omega
      · exact e
    simp only [zerosV]
    by_cases hi : i < zs.length
    · rw [List.getElem?_append_left hi, Nat.mod_eq_of_lt hi]
      simp [hi]
    · rw [List.getElem?_append_right (by omega), zerosV_get zs n _ (by rw [Nat.succ_mul] at h; omega), Nat.mod_eq_sub_mod (by omega : i ≥ zs.length)]

theorem zeros_eq (zs : List Value) (n : Nat) : (Array.range (n * zs.length)).map (fun i => (⟨zs⟩ : Array Value)[i % (⟨zs⟩ : Array Value).size]!) = ⟨zerosV zs n⟩ := by
  apply Array.ext'
  simp only [Array.toList_map, Array.toList_range]
  apply List.ext_getElem?
  intro i
  by_cases hi : i < n * zs.length
  · rw [zerosV_get zs n i hi]
    simp [hi]
  · rw [List.getElem?_eq_none (by simpa using hi), List.getElem?_eq_none (by rw [zerosV_len]; omega)]

-- places

theorem fieldOff_ok {s : TypeId} {i k : Nat} (h : fieldOff P s i = some k) (b off : Nat) (w : World) :
    (Instr.fieldAt s (.pointer (some ⟨b, off, none⟩)) i).run P w = .ok (.pointer (some ⟨b, off + k, none⟩)) w := by
  simp only [fieldOff, bnd, undQ_eq, infoQ_eq, funcQ_eq, grd_some, nblt, Option.some.injEq] at h
  obtain ⟨d, hd, fs, hfs, f, hf, n, hn, h0, rfl⟩ := h
  have hd' : d = .struct ⟨fs⟩ := by
    unfold asStruct at hfs
    split at hfs
    · simp only [Option.some.injEq] at hfs; subst hfs; rfl
    · simp at hfs
  subst hd'
  have : n ≠ 0 := by omega
  simp only [Instr.fieldAt, Sem.run_bind, run_underlying hd, Result.andThen_ok, List.getElem?_toArray, hf, Instr.sureAddr, Sem.run_pure, fieldPlace, run_sizeOf' hn, this, if_false, Addr.add]
  by_cases e : f.offset = 0 <;> simp [e]

theorem add_plain (b off n : Nat) : ({ block := b, off := off, spot := none } : Addr).add n = ⟨b, off + n, none⟩ := by
  unfold Addr.add
  by_cases e : n = 0 <;> simp [e]

theorem asNat_ok {ρ : Env} {v : AV} {n : Nat} {x : Value} (h : asNat v = some n) (hv : con ρ v = some x) : ∃ k, x = .int k (n : Int) := by
  unfold asNat at h
  split at h
  · rename_i k m
    unfold natOf at h
    split at h
    · simp only [Option.some.injEq] at h
      subst h
      exact ⟨k, con_int hv⟩
    · simp at h
  · simp at h

theorem indexAddr_ok {ρ : Env} {t : TypeId} {x ix v : AV} {x' ix' : Value} (h : indexAddrAV P t x ix = some v) (hx : con ρ x = some x') (hi : con ρ ix = some ix') :
    ∃ z, con ρ v = some z ∧ ∀ w, (Instr.indexAt t x' ix').run P w = .ok z w := by
  simp only [indexAddrAV, bnd, undQ_eq, infoQ_eq, funcQ_eq] at h
  obtain ⟨i, hi', d, hd, h⟩ := h
  obtain ⟨k, rfl⟩ := asNat_ok hi' hi
  split at h
  · simp only [bnd, undQ_eq, infoQ_eq, funcQ_eq, grd_some, nblt, Option.some.injEq] at h
    obtain ⟨n, hn, hlt, rfl⟩ := h
    obtain ⟨l, hl, rfl⟩ := con_sl hx
    refine ⟨.pointer (some ⟨l.blk, _, none⟩), by simp only [con, bnd, undQ_eq, infoQ_eq, funcQ_eq]; exact ⟨l, hl, rfl⟩, fun w => ?_⟩
    have hc : (0 : Int) ≤ (i : Int) ∧ (i : Int) < (_ : Nat) := ⟨by omega, Int.ofNat_lt.2 hlt⟩
    simp only [Instr.indexAt, asIntOf, Sem.run_bind, Sem.run_pure, Result.andThen_ok, run_underlying hd, hc, and_self, if_true, run_sizeOf' hn, Int.toNat_natCast, add_plain]
  · simp only [bnd, undQ_eq, infoQ_eq, funcQ_eq, grd_some, nblt, Option.some.injEq] at h
    obtain ⟨n, hn, hlt, rfl⟩ := h
    obtain ⟨l, hl, _, rfl⟩ := con_slo hx
    refine ⟨.pointer (some ⟨l.blk, _, none⟩), by simp only [con, bnd, undQ_eq, infoQ_eq, funcQ_eq]; exact ⟨l, hl, rfl⟩, fun w => ?_⟩
    have hc : (0 : Int) ≤ (i : Int) ∧ (i : Int) < (_ : Nat) := ⟨by omega, Int.ofNat_lt.2 hlt⟩
    simp only [Instr.indexAt, asIntOf, Sem.run_bind, Sem.run_pure, Result.andThen_ok, run_underlying hd, hc, and_self, if_true, run_sizeOf' hn, Int.toNat_natCast, add_plain]
  · simp only [bnd, undQ_eq, infoQ_eq, funcQ_eq, grd_some, nblt, Option.some.injEq] at h
    obtain ⟨n, hn, hlt, rfl⟩ := h
    obtain ⟨l, hl, rfl⟩ := con_ptr hx
    refine ⟨.pointer (some ⟨l.blk, _, none⟩), by simp only [con, bnd, undQ_eq, infoQ_eq, funcQ_eq]; exact ⟨l, hl, rfl⟩, fun w => ?_⟩
    have hc : (0 : Int) ≤ (i : Int) ∧ (i : Int) < (_ : Nat) := ⟨by omega, Int.ofNat_lt.2 hlt⟩
    simp only [Instr.indexAt, asIntOf, Sem.run_bind, Sem.run_pure, Result.andThen_ok, run_underlying hd, Instr.sureAddr, hc, and_self, if_true, run_sizeOf' hn, Int.toNat_natCast, add_plain]
  · simp at h

theorem byteAt_lt (c i : Nat) : byteAt c i < 256 := Nat.mod_lt _ (by omega)

theorem bytesOf_get (n c i : Nat) (h : i < n) : (bytesOf n c)[i]? = some (UInt8.ofNat (byteAt c i)) := by
  have hs : i < (bytesOf n c).size := by rw [bytesOf_size]; exact h
  rw [ByteArray.getElem?_lt' _ _ hs]
  have := bytesN_get n c i h
  have e : (bytesOf n c)[i] = (bytesN n c)[i]'(by rw [bytesN_len]; exact h) := rfl
  rw [e, ← List.getElem?_eq_getElem, this]

theorem index_ok {ρ : Env} {t : TypeId} {x ix v : AV} {x' ix' : Value} (h : indexAV P t x ix = some v) (hx : con ρ x = some x') (hi : con ρ ix = some ix') :
    ∃ z, con ρ v = some z ∧ ∀ w, (Instr.index t x' ix').run P w = .ok z w := by
  simp only [indexAV, bnd, undQ_eq, infoQ_eq, funcQ_eq] at h
  obtain ⟨i, hi', d, hd, h⟩ := h
  obtain ⟨k, rfl⟩ := asNat_ok hi' hi
  split at h
  · simp only [grd_some, nblt, Option.some.injEq] at h
    obtain ⟨hlt, rfl⟩ := h
    rw [con_str hx]
    refine ⟨_, con_i ρ _ _, fun w => ?_⟩
    have h0 : (0 : Int) ≤ (i : Int) := by omega
    have hb := byteAt_lt
    simp only [Instr.index, asIntOf, Sem.run_bind, Sem.run_pure, Result.andThen_ok, run_underlying hd, h0, if_true, Int.toNat_natCast, bytesOf_get _ _ _ hlt, UInt8.toNat_ofNat']
    rw [Nat.mod_eq_of_lt (hb _ _)]
  · simp only [bnd, undQ_eq, infoQ_eq, funcQ_eq, grd_some, nblt] at h
    obtain ⟨n, hn, hlt, h⟩ := h
    obtain ⟨xs, rfl, hxs⟩ := conL_agg hx
    obtain ⟨z, hz, hr⟩ := part_ok h hxs
    refine ⟨z, hz, fun w => ?_⟩
    have hc : (0 : Int) ≤ (i : Int) ∧ (i : Int) < (_ : Nat) := ⟨by omega, Int.ofNat_lt.2 hlt⟩
    simp only [Instr.index, asIntOf, Sem.run_bind, Sem.run_pure, Result.andThen_ok, run_underlying hd, hc, and_self, if_true, run_sizeOf' hn, Int.toNat_natCast, hr]
  · simp at h

theorem bound_ok {ρ : Env} {x : Option AV} {x' : Option Value} {dflt y n : Nat} (h : boundAV x dflt y = some n) (hx : ∀ v, x = some v → ∃ v', x' = some v' ∧ con ρ v = some v') (hn : x = none → x' = none) :
    (x = none ∧ x' = none ∧ n = dflt) ∨ ∃ v, x.isSome = true ∧ x' = some v ∧ n ≤ y ∧ ∀ z code w, y ≤ z → (Instr.sliceBound v z code).run P w = .ok n w := by
  unfold boundAV at h
  split at h
  · simp only [Option.some.injEq] at h; exact .inl ⟨rfl, hn rfl, h.symm⟩
  · rename_i v
    simp only [bnd, undQ_eq, infoQ_eq, funcQ_eq, grd_some, nble, Option.some.injEq] at h
    obtain ⟨i, hi, hle, rfl⟩ := h
    obtain ⟨v', rfl, hv⟩ := hx v rfl
    obtain ⟨k, rfl⟩ := asNat_ok hi hv
    refine .inr ⟨_, rfl, rfl, hle, fun z code w hz => ?_⟩
    have hc : (0 : Int) ≤ (i : Int) ∧ (i : Int) ≤ (z : Int) := ⟨by omega, by omega⟩
    simp only [Instr.sliceBound, asIntOf, Sem.run_bind, Sem.run_pure, Result.andThen_ok, hc, and_self, if_true, Int.toNat_natCast]

/-- The value of an operand that may be there. -/
def ConO (ρ : Env) (x : Option AV) (x' : Option Value) : Prop := (∀ v, x = some v → ∃ v', x' = some v' ∧ con ρ v = some v') ∧ (x = none → x' = none)

theorem evOpt_ok {ρ : Env} {tm : TM} {a : Act} {l : List Operand} {x : Option Operand} {v : Option AV} (h : EvOk ρ tm a l) (hx : ∀ o, x = some o → o ∈ l) (hv : evOpt tm x = some v) : ConO ρ v (x.map a.eval) := by
  unfold evOpt at hv
  split at hv
  · simp only [Option.some.injEq] at hv; subst hv; exact ⟨by simp, by simp⟩
  · simp only [bnd, undQ_eq, infoQ_eq, funcQ_eq, Option.some.injEq] at hv
    obtain ⟨u, hu, rfl⟩ := hv
    refine ⟨fun v hv => ?_, by simp⟩
    simp only [Option.some.injEq] at hv
    subst hv
    exact ⟨_, rfl, ev_ok h (hx _ rfl) hu⟩

/-- The bounds of a slice expression: the machine's are those that were reckoned. m ≤ cap: the capacity may be greater than what the bounds were held against. -/
theorem bounds_ok {ρ : Env} {lo hi mx : Option AV} {lo' hi' mx' : Option Value} {len cap cap' m h l : Nat} (b : Bool)
    (hlo : ConO ρ lo lo') (hhi : ConO ρ hi hi') (hmx : ConO ρ mx mx') (hm : boundAV mx cap cap = some m) (hh : boundAV hi len m = some h) (hl : boundAV lo 0 h = some l)
    (hboth : (mx.isNone || hi.isSome) = true) (hcap : cap ≤ cap') (hn : mx = none → cap = cap') :
    ∀ w, (Instr.sliceBounds b len cap' lo' hi' mx').run P w = .ok (l, h, m) w := by
  intro w
  have bm := bound_ok (P := P) hm hmx.1 hmx.2
  have bh := bound_ok (P := P) hh hhi.1 hhi.2
  have bl := bound_ok (P := P) hl hlo.1 hlo.2
  rcases bm with ⟨hm1, rfl, rfl⟩ | ⟨vm, hm1, rfl, hm2, hm3⟩ <;> rcases bh with ⟨hh1, rfl, rfl⟩ | ⟨vh, hh1, rfl, hh2, hh3⟩ <;> rcases bl with ⟨hl1, rfl, rfl⟩ | ⟨vl, hl1, rfl, hl2, hl3⟩
  all_goals first
    | (simp [hh1] at hboth; simp [hboth] at hm1; done)
    | (have hc := hn hm1; subst hc; simp only [Instr.sliceBounds, Sem.run_bind, Sem.run_pure, Result.andThen_ok, hh3 _ _ _ (Nat.le_refl _), hl3 _ _ _ (Nat.le_refl _)]; done)
    | (have hc := hn hm1; subst hc; simp only [Instr.sliceBounds, Sem.run_bind, Sem.run_pure, Result.andThen_ok, hl3 _ _ _ (Nat.le_refl _)]; done)
    | (have hc := hn hm1; subst hc; simp only [Instr.sliceBounds, Sem.run_bind, Sem.run_pure, Result.andThen_ok, hh3 _ _ _ (Nat.le_refl _)]; done)
    | (have hc := hn hm1; subst hc; simp only [Instr.sliceBounds, Sem.run_bind, Sem.run_pure, Result.andThen_ok]; done)
    | (simp only [Instr.sliceBounds, Sem.run_bind, Sem.run_pure, Result.andThen_ok, hm3 _ _ _ hcap, hh3 _ _ _ (Nat.le_refl _), hl3 _ _ _ (Nat.le_refl _)]; done)
    | (simp only [Instr.sliceBounds, Sem.run_bind, Sem.run_pure, Result.andThen_ok, hm3 _ _ _ hcap, hh3 _ _ _ (Nat.le_refl _)]; done)

/-- Without a third bound, the second one held against less than the capacity. -/
theorem bounds_open {ρ : Env} {lo hi : Option AV} {lo' hi' : Option Value} {len y cap' h l : Nat} (b : Bool)
    (hlo : ConO ρ lo lo') (hhi : ConO ρ hi hi') (hh : boundAV hi len y = some h) (hl : boundAV lo 0 h = some l) (hcap : y ≤ cap') :
    ∀ w, (Instr.sliceBounds b len cap' lo' hi' none).run P w = .ok (l, h, cap') w := by
  intro w
  have bh := bound_ok (P := P) hh hhi.1 hhi.2
  have bl := bound_ok (P := P) hl hlo.1 hlo.2
  rcases bh with ⟨hh1, rfl, rfl⟩ | ⟨vh, hh1, rfl, hh2, hh3⟩ <;> rcases bl with ⟨hl1, rfl, rfl⟩ | ⟨vl, hl1, rfl, hl2, hl3⟩
  · simp only [Instr.sliceBounds, Sem.run_bind, Sem.run_pure, Result.andThen_ok]
  · simp only [Instr.sliceBounds, Sem.run_bind, Sem.run_pure, Result.andThen_ok, hl3 _ _ _ (Nat.le_refl _)]
  · simp only [Instr.sliceBounds, Sem.run_bind, Sem.run_pure, Result.andThen_ok, hh3 _ _ _ hcap]
  · simp only [Instr.sliceBounds, Sem.run_bind, Sem.run_pure, Result.andThen_ok, hh3 _ _ _ hcap, hl3 _ _ _ (Nat.le_refl _)]

theorem boundAV_le {x : Option AV} {d y n : Nat} (h : boundAV x d y = some n) (hd : d ≤ y) : n ≤ y := by
  unfold boundAV at h
  split at h
  · simp only [Option.some.injEq] at h; omega
  · simp only [bnd, undQ_eq, infoQ_eq, funcQ_eq, grd_some, nble, Option.some.injEq] at h
    obtain ⟨i, _, hle, rfl⟩ := h
    exact hle

theorem extract_bytes (n c l h : Nat) (hl : l ≤ h) (hh : h ≤ n) : (bytesOf n c).extract l h = bytesOf (h - l) (c >>> (8 * l)) := by
  apply ByteArray.ext
  rw [ByteArray.data_extract]
  unfold bytesOf
  apply Array.ext'
  simp only [List.extract_toArray, List.extract_eq_take_drop, bytesN_drop, bytesN_take]
  rw [Nat.shiftRight_eq_div_pow, pow8, show min (h - l) (n - l) = h - l from by omega]

theorem open_shift (ce off sz l : Nat) : (ce - (off + l * sz)) / sz = (ce - off) / sz - l := by
  rw [show ce - (off + l * sz) = ce - off - sz * l from by rw [Nat.mul_comm]; omega, Nat.sub_mul_div]

theorem slice_ok {ρ : Env} {t : TypeId} {x v : AV} {x' : Value} {lo hi mx : Option AV} {lo' hi' mx' : Option Value} (h : sliceAV P t x lo hi mx = some v) (hx : con ρ x = some x')
    (hlo : ConO ρ lo lo') (hhi : ConO ρ hi hi') (hmx : ConO ρ mx mx') :
    ∃ z, con ρ v = some z ∧ ∀ w, (Instr.sliceAt t x' lo' hi' mx').run P w = .ok z w := by
  simp only [sliceAV, bnd, undQ_eq, infoQ_eq, funcQ_eq] at h
  obtain ⟨d, hd, h⟩ := h
  split at h
  · -- a string
    rename_i n c
    simp only [grd_some, bnd, undQ_eq, infoQ_eq, funcQ_eq, Option.some.injEq] at h
    obtain ⟨hm, hh, hh', l, hl, rfl⟩ := h
    rw [con_str hx]
    have hmn : mx = none := by simpa using hm
    subst hmn
    have hm0 := hmx.2 rfl
    subst hm0
    have h1 := boundAV_le hh' (Nat.le_refl _)
    have h2 := boundAV_le hl (Nat.zero_le _)
    refine ⟨_, con_s ρ _ _, fun w => ?_⟩
    have hb := bounds_open (P := P) false hlo hhi hh' hl (Nat.le_refl n) w
    simp only [Instr.sliceAt, Instr.slice, Sem.run_bind, run_underlying hd, Result.andThen_ok, Option.isSome_none, Bool.false_eq_true, if_false, bytesOf_size, hb, Sem.run_pure, extract_bytes n c l hh h2 h1]
  · -- nil
    simp only [bnd, undQ_eq, infoQ_eq, funcQ_eq, grd_some, Option.some.injEq] at h
    obtain ⟨n, hn, m, hm, hh, hh', l, hl, hboth, rfl⟩ := h
    simp only [con, Option.some.injEq] at hx
    subst hx
    have h0 := boundAV_le hm (Nat.le_refl _)
    have h1 := boundAV_le hh' (Nat.le_refl _)
    have h2 := boundAV_le hl (Nat.zero_le _)
    have : m = 0 := by omega
    subst this
    have : hh = 0 := by omega
    subst this
    have : l = 0 := by omega
    subst this
    refine ⟨.slice none 0 0, by simp only [con], fun w => ?_⟩
    have hb := bounds_ok (P := P) true hlo hhi hmx hm hh' hl hboth (Nat.le_refl _) (fun _ => rfl) w
    simp only [Instr.sliceAt, Instr.slice, Sem.run_bind, run_underlying hd, Result.andThen_ok, hb, run_sizeOf' hn, Sem.run_pure]
    simp
  · -- of known capacity
    rename_i e id off len cap
    simp only [bnd, undQ_eq, infoQ_eq, funcQ_eq, grd_some, Option.some.injEq] at h
    obtain ⟨m, hm, hh, hh', l, hl, n, hn, hboth, rfl⟩ := h
    obtain ⟨lc, hlc, rfl⟩ := con_sl hx
    refine ⟨.slice (some ⟨lc.blk, match Nat.beq m l with | true => off | false => off + l * n, none⟩) (hh - l) (m - l), by simp only [con, bnd, undQ_eq, infoQ_eq, funcQ_eq]; exact ⟨lc, hlc, rfl⟩, fun w => ?_⟩
    have hb := bounds_ok (P := P) true hlo hhi hmx hm hh' hl hboth (Nat.le_refl _) (fun _ => rfl) w
    simp only [Instr.sliceAt, Instr.slice, Sem.run_bind, run_underlying hd, Result.andThen_ok, hb, run_sizeOf' hn, Sem.run_pure]
    by_cases e : m = l
    · simp [e]
    · simp [e, nbeq_f.2 e, add_plain]
  · -- of open capacity
    rename_i e id off len sz
    simp only [bnd, undQ_eq, infoQ_eq, funcQ_eq, grd_some, Bool.and_eq_true, nbeq, nblt] at h
    obtain ⟨n, hn, ⟨rfl, h0⟩, h⟩ := h
    obtain ⟨lc, hlc, hle, rfl⟩ := con_slo hx
    split at h
    · rename_i mv
      simp only [bnd, undQ_eq, infoQ_eq, funcQ_eq, grd_some, Option.some.injEq] at h
      obtain ⟨m, hm, hh, hh', l, hl, hboth, rfl⟩ := h
      refine ⟨.slice (some ⟨lc.blk, match Nat.beq m l with | true => off | false => off + l * n, none⟩) (hh - l) (m - l), by simp only [con, bnd, undQ_eq, infoQ_eq, funcQ_eq]; exact ⟨lc, hlc, rfl⟩, fun w => ?_⟩
      have hm' : boundAV (some mv) len len = some m := hm
      have hb := bounds_ok (P := P) true hlo hhi hmx hm' hh' hl (by simp [hboth]) hle (fun h => by simp at h) w
      simp only [Instr.sliceAt, Instr.slice, Sem.run_bind, run_underlying hd, Result.andThen_ok, hb, run_sizeOf' hn, Sem.run_pure]
      by_cases e : m = l
      · simp [e]
      · simp [e, nbeq_f.2 e, add_plain]
    · simp only [bnd, undQ_eq, infoQ_eq, funcQ_eq] at h
      obtain ⟨hh, hh', l, hl, h⟩ := h
      have hm0 := hmx.2 rfl
      subst hm0
      have h1 := boundAV_le hh' (Nat.le_refl _)
      have h2 := boundAV_le hl (Nat.zero_le _)
      have hb := bounds_open (P := P) true hlo hhi hh' hl hle
      split at h
      · rename_i hlt
        simp only [Option.some.injEq] at h
        subst h
        simp only [Bool.or_eq_true, nblt, nbeq] at hlt
        refine ⟨.slice (some ⟨lc.blk, off + l * n, none⟩) (hh - l) ((lc.ce - off) / n - l), ?_, fun w => ?_⟩
        · simp only [con, bnd, undQ_eq, infoQ_eq, funcQ_eq]
          refine ⟨lc, hlc, ?_⟩
          unfold openSlice
          rw [open_shift, if_pos (by omega)]
        · simp only [Instr.sliceAt, Instr.slice, Sem.run_bind, run_underlying hd, Result.andThen_ok, hb, run_sizeOf' hn, Sem.run_pure]
          by_cases e : (lc.ce - off) / n = l
          · have : l = 0 := by omega
            subst this
            simp [e]
          · simp [e, add_plain]
      · rename_i hlt
        simp only [Option.some.injEq] at h
        subst h
        simp only [Bool.or_eq_false_iff, nblt_f, nbeq_f] at hlt
        have : hh = l := by omega
        subst this
        refine ⟨.slice (some ⟨lc.blk, if (lc.ce - off) / n = hh then off else off + hh * n, none⟩) 0 ((lc.ce - off) / n - hh), ?_, fun w => ?_⟩
        · simp only [con, bnd, undQ_eq, infoQ_eq, funcQ_eq]
          refine ⟨lc, hlc, ?_⟩
          unfold endSlice
          rw [if_pos (by omega)]
        · simp only [Instr.sliceAt, Instr.slice, Sem.run_bind, run_underlying hd, Result.andThen_ok, hb, run_sizeOf' hn, Sem.run_pure, Nat.sub_self]
          by_cases e : (lc.ce - off) / n = hh
          · simp [e]
          · simp [e, add_plain]
  · -- an array's address
    rename_i n e id off
    simp only [bnd, undQ_eq, infoQ_eq, funcQ_eq, grd_some, Option.some.injEq] at h
    obtain ⟨m, hm, hh, hh', l, hl, k, hk, hboth, rfl⟩ := h
    obtain ⟨lc, hlc, rfl⟩ := con_ptr hx
    refine ⟨.slice (some ⟨lc.blk, match Nat.beq m l with | true => off | false => off + l * k, none⟩) (hh - l) (m - l), by simp only [con, bnd, undQ_eq, infoQ_eq, funcQ_eq]; exact ⟨lc, hlc, rfl⟩, fun w => ?_⟩
    have hb := bounds_ok (P := P) false hlo hhi hmx hm hh' hl hboth (Nat.le_refl _) (fun _ => rfl) w
    simp only [Instr.sliceAt, Sem.run_bind, run_underlying hd, Result.andThen_ok, Instr.sureAddr, Sem.run_pure, hb, run_sizeOf' hk]
    by_cases e : m = l
    · simp [e]
    · simp [e, nbeq_f.2 e, add_plain]
  · simp at h

-- conversions, lengths

theorem conv_ok {ρ : Env} {s d : TypeId} {x v : AV} {x' : Value} (h : convAV P s d x = some v) (hx : con ρ x = some x') :
    ∃ z, con ρ v = some z ∧ ∀ w, (convert s d x').run P w = .ok z w := by
  simp only [convAV, bnd, undQ_eq, infoQ_eq, funcQ_eq] at h
  obtain ⟨a, ha, b, hb, h⟩ := h
  split at h
  · simp only [Option.some.injEq] at h
    subst h
    rw [con_int hx]
    refine ⟨_, con_i ρ _ _, fun w => ?_⟩
    simp only [convert, Sem.run_bind, run_underlying ha, run_underlying hb, Result.andThen_ok, Conv.intToInt, Sem.run_pure]
  · simp only [Option.some.injEq] at h
    subst h
    rw [con_str hx]
    refine ⟨_, con_s ρ _ _, fun w => ?_⟩
    simp only [convert, Sem.run_bind, run_underlying ha, run_underlying hb, Result.andThen_ok, Sem.run_pure]
  · simp at h

theorem len_ok {ρ : Env} {t : TypeId} {ts : List TypeId} {ty : TypeId} {x v : AV} {x' : Value} (h : lenAV P t x = some v) (hx : con ρ x = some x') :
    ∃ z, con ρ v = some z ∧ ∀ w, (Builtin.len_ ⟨t :: ts⟩ ty #[x']).run P w = .ok z w := by
  simp only [lenAV, bnd, undQ_eq, infoQ_eq, funcQ_eq] at h
  obtain ⟨d, hd, h⟩ := h
  split at h
  case h_8 => simp at h
  all_goals
    simp only [Option.some.injEq] at h
    subst h
  · rw [con_str hx]; exact ⟨_, con_i ρ _ _, fun w => by simp [Builtin.len_, run_underlying hd, bytesOf_size, goInt]⟩
  · simp only [con, Option.some.injEq] at hx; subst hx; exact ⟨_, con_i ρ _ _, fun w => by simp [Builtin.len_, run_underlying hd, goInt]⟩
  · obtain ⟨l, _, rfl⟩ := con_sl hx; exact ⟨_, con_i ρ _ _, fun w => by simp [Builtin.len_, run_underlying hd, goInt]⟩
  · obtain ⟨l, _, _, rfl⟩ := con_slo hx; exact ⟨_, con_i ρ _ _, fun w => by simp [Builtin.len_, run_underlying hd, goInt]⟩
  · obtain ⟨l, _, _, rfl⟩ := con_sle hx; exact ⟨_, con_i ρ _ _, fun w => by simp [Builtin.len_, run_underlying hd, goInt]⟩
  · simp only [con, Option.some.injEq] at hx; subst hx; exact ⟨_, con_i ρ _ _, fun w => by simp [Builtin.len_, run_underlying hd, goInt]⟩
  · exact ⟨_, con_i ρ _ _, fun w => by simp [Builtin.len_, run_underlying hd, goInt]⟩

theorem cap_ok {ρ : Env} {t : TypeId} {ts : List TypeId} {ty : TypeId} {x v : AV} {x' : Value} (h : capAV P t x = some v) (hx : con ρ x = some x') :
    ∃ z, con ρ v = some z ∧ ∀ w, (Builtin.cap_ ⟨t :: ts⟩ ty #[x']).run P w = .ok z w := by
  simp only [capAV, bnd, undQ_eq, infoQ_eq, funcQ_eq] at h
  obtain ⟨d, hd, h⟩ := h
  split at h
  · simp only [Option.some.injEq] at h; subst h
    simp only [con, Option.some.injEq] at hx; subst hx; exact ⟨_, con_i ρ _ _, fun w => by simp [Builtin.cap_, run_underlying hd, goInt]⟩
  · simp only [Option.some.injEq] at h; subst h
    obtain ⟨l, _, rfl⟩ := con_sl hx; exact ⟨_, con_i ρ _ _, fun w => by simp [Builtin.cap_, run_underlying hd, goInt]⟩
  · simp at h

theorem max_ok {ρ : Env} {x y v : AV} {x' y' : Value} (h : maxAV x y = some v) (hx : con ρ x = some x') (hy : con ρ y = some y') (ts : Array TypeId) (ty : TypeId) :
    ∃ z, con ρ v = some z ∧ ∀ w, (Builtin.max_ ts ty #[x', y']).run P w = .ok z w := by
  unfold maxAV at h
  split at h
  · simp only [Option.some.injEq] at h; subst h
    rw [con_int hx, con_int hy]
    exact ⟨_, con_i ρ _ _, fun w => by simp [Builtin.max_, Builtin.max2]⟩
  · simp at h

theorem min_ok {ρ : Env} {x y v : AV} {x' y' : Value} (h : minAV x y = some v) (hx : con ρ x = some x') (hy : con ρ y = some y') (ts : Array TypeId) (ty : TypeId) :
    ∃ z, con ρ v = some z ∧ ∀ w, (Builtin.min_ ts ty #[x', y']).run P w = .ok z w := by
  unfold minAV at h
  split at h
  · simp only [Option.some.injEq] at h; subst h
    rw [con_int hx, con_int hy]
    exact ⟨_, con_i ρ _ _, fun w => by simp [Builtin.min_, Builtin.min2]⟩
  · simp at h

theorem run_sliceData_none (ts : Array TypeId) (ty : TypeId) (n c : Nat) (w : World) : (Builtin.unsafeSliceData_ ts ty #[.slice none n c]).run P w = .ok (.pointer none) w := rfl

theorem run_sliceData_some (ts : Array TypeId) (ty : TypeId) (a : Addr) (n c : Nat) (hc : c ≠ 0) (w : World) : (Builtin.unsafeSliceData_ ts ty #[.slice (some a) n c]).run P w = .ok (.pointer (some a)) w := by
  show Sem.run P (if c ≠ 0 then pure (Value.pointer (some a)) else _) w = _
  rw [if_pos hc]
  rfl

theorem sliceData_ok {ρ : Env} {x v : AV} {x' : Value} (h : sliceData x = some v) (hx : con ρ x = some x') (ts : Array TypeId) (ty : TypeId) :
    ∃ z, con ρ v = some z ∧ ∀ w, (Builtin.unsafeSliceData_ ts ty #[x']).run P w = .ok z w := by
  unfold sliceData at h
  split at h
  · simp only [Option.some.injEq] at h; subst h
    simp only [con, Option.some.injEq] at hx; subst hx
    exact ⟨.pointer none, by simp only [con], fun w => run_sliceData_none ts ty _ _ w⟩
  · simp only [Option.some.injEq] at h; subst h
    obtain ⟨l, hl, rfl⟩ := con_sl hx
    exact ⟨.pointer (some ⟨l.blk, _, none⟩), by simp only [con, bnd, undQ_eq, infoQ_eq, funcQ_eq]; exact ⟨l, hl, rfl⟩, fun w => run_sliceData_some ts ty _ _ _ (by omega) w⟩
  · simp only [Option.some.injEq] at h; subst h
    obtain ⟨l, hl, hle, rfl⟩ := con_slo hx
    exact ⟨.pointer (some ⟨l.blk, _, none⟩), by simp only [con, bnd, undQ_eq, infoQ_eq, funcQ_eq]; exact ⟨l, hl, rfl⟩, fun w => run_sliceData_some ts ty _ _ _ (Nat.ne_of_gt (Nat.lt_of_lt_of_le (Nat.succ_pos _) hle)) w⟩
  · simp at h

-- functions without a body

/-- Of what the machine's own function does. -/
def Ext.does (e : Ext) (fn : Func) (f : Array Value → Sem Value) : Prop :=
  match e with
  | .same => f = Extern.AbiNoEscape.same
  | .mark0 => ∃ m, f = fun _ => do mark m; pure Extern.Race.none_
  | .mark1 => ∃ m, f = Extern.Race.marked m
  | .cmp => f = Extern.BytealgCompare.compare
  | .find => f = Extern.BytealgIndexByte.indexByte
  | .count => f = Extern.BytealgCount.count
  | .noZero => f = Extern.BytealgMakeNoZero.makeNoZero fn.params fn.resultTypes
  | .load32 => f = Extern.Atomic.loadT (.int .u32)
  | .store32 => f = Extern.Atomic.storeT
  | .cas32 => f = Extern.Atomic.casT (.int .i32)
  | .add32 => f = Extern.Atomic.update (Op.intArith .add) .i32 true
  | .add64 => f = Extern.Atomic.update (Op.intArith .add) .i64 true

/-- What a value is that is a number, a text or a bool. -/
def atom : AV → Option Atom
  | .int k n => some (.int k n)
  | .str n c => some (.str (bytesOf n c))
  | .bool b => some (.bool b)
  | .opq i => Sig.val i
  | _ => none

theorem atom_con {ρ : Env} {v : AV} {X : Atom} {x : Value} (h : atom v = some X) (hv : con ρ v = some x) : x = X.val := by
  cases v with
  | int k n => simp only [atom, Option.some.injEq] at h; subst h; exact con_int hv
  | str n c => simp only [atom, Option.some.injEq] at h; subst h; exact con_str hv
  | bool b => simp only [atom, Option.some.injEq] at h; subst h; exact con_bool hv
  | opq i =>
    simp only [atom] at h
    simp only [con, h, Option.map_some, Option.some.injEq] at hv
    exact hv.symm
  | _ => simp [atom] at h

theorem atom_some {v : AV} {X : Atom} (ρ : Env) (h : atom v = some X) : con ρ v = some X.val := by
  cases v with
  | int k n => simp only [atom, Option.some.injEq] at h; subst h; exact con_i ρ _ _
  | str n c => simp only [atom, Option.some.injEq] at h; subst h; exact con_s ρ _ _
  | bool b => simp only [atom, Option.some.injEq] at h; subst h; exact con_b ρ _
  | opq i => simp only [atom] at h; simp only [con, h, Option.map_some]
  | _ => simp [atom] at h

/-- What an operator gives. -/
def Atom.bin (op : BinOp) (x y z : Atom) : Prop :=
  match x, y with
  | .int k a, .int k' b => k = k' ∧ ∀ (P : Program) (t : TypeId) (w : World), (binOp op t (.int k a) (.int k' b)).run P w = .ok z.val w
  | .str a, .str b => ∀ (P : Program) (t : TypeId) (w : World), (binOp op t (.string a) (.string b)).run P w = .ok z.val w
  | _, _ => False

/-- What is told is true. -/
structure OraOk (o : Ora) : Prop where
  bin : ∀ op x y v, o.bin op x y = some v → ∃ X Y Z, atom x = some X ∧ atom y = some Y ∧ atom v = some Z ∧ X.bin op Y Z
  conv : ∀ k x v, o.conv k x = some v → ∃ j n, atom x = some (.int j n) ∧ atom v = some (.int k (k.wrap n))
  len : ∀ x v, o.len x = some v → ∃ s, atom x = some (.str s) ∧ atom v = some (.int .i64 s.size)
  bytes : ∀ l v, o.bytes l = some v → ∃ ns : List UInt8, l.map atom = ns.map (fun b => some (Atom.int .u8 b.toNat)) ∧ atom v = some (.str ⟨⟨ns⟩⟩)
  isInt : ∀ x, o.isInt x = true → ∃ k n, atom x = some (.int k n)
  isStr : ∀ x, o.isStr x = true → ∃ s, atom x = some (.str s)

/-- The functions without a body are what they are said to be; all others have one. -/
structure ExtOk (P : Program) (ext : Exts) : Prop where
  noBody : ∀ f e, ext f = some e → ∃ fn d, P.funcs[f]? = some fn ∧ (fn.name == "runtime.NumGoroutine") = false ∧ fn.body.isNone = true ∧ Extern.findNext fn = none ∧ Extern.find fn = some d ∧ e.does fn d
  body : ∀ (f : FuncId) (fn : Func), P.funcs[f]? = some fn → fn.body.isSome = true → (fn.name == "runtime.NumGoroutine") = false
  ora : OraOk ext.ora

theorem run_ext {ext : Exts} (hx : ExtOk P ext) {f : FuncId} {e : Ext} (he : ext f = some e) :
    ∃ fn d, P.funcs[f]? = some fn ∧ e.does fn d ∧ ∀ args w, (callFunc f args).run P w = ((d args).run P w).andThen fun v w' => .ok (.value v) w' := by
  obtain ⟨fn, d, h1, h2, h3, h4, h5, h6⟩ := hx.noBody f e he
  exact ⟨fn, d, h1, h6, fun args w => run_callFunc_extern h1 h2 h3 h4 h5 args w⟩

theorem conL_nilI {ρ : Env} {l : List Value} (h : conL ρ [] = some l) : l = [] := by simpa [conL, eq_comm] using h

theorem conL1 {ρ : Env} {x : AV} {l : List Value} (h : conL ρ [x] = some l) : ∃ x', con ρ x = some x' ∧ l = [x'] := by
  obtain ⟨x', h1, ys, h2, rfl⟩ := conL_cons.1 h
  rw [conL_nilI h2]
  exact ⟨x', h1, rfl⟩

theorem conL2 {ρ : Env} {x y : AV} {l : List Value} (h : conL ρ [x, y] = some l) : ∃ x' y', con ρ x = some x' ∧ con ρ y = some y' ∧ l = [x', y'] := by
  obtain ⟨x', h1, ys, h2, rfl⟩ := conL_cons.1 h
  obtain ⟨y', h3, rfl⟩ := conL1 h2
  exact ⟨x', y', h1, h3, rfl⟩

theorem conL3 {ρ : Env} {x y z : AV} {l : List Value} (h : conL ρ [x, y, z] = some l) : ∃ x' y' z', con ρ x = some x' ∧ con ρ y = some y' ∧ con ρ z = some z' ∧ l = [x', y', z'] := by
  obtain ⟨x', h1, ys, h2, rfl⟩ := conL_cons.1 h
  obtain ⟨y', z', h3, h4, rfl⟩ := conL2 h2
  exact ⟨x', y', z', h1, h3, h4, rfl⟩

theorem bytesOf_get! (n c i : Nat) (h : i < n) : (bytesOf n c)[i]! = UInt8.ofNat (byteAt c i) := by
  have hs : i < (bytesOf n c).size := by rw [bytesOf_size]; exact h
  have := bytesOf_get n c i h
  rw [ByteArray.getElem?_lt' _ _ hs] at this
  rw [getElem!_pos (bytesOf n c) i hs]
  simpa using this

theorem byteAt_zero (c : Nat) : byteAt c 0 = c % 256 := by simp [byteAt]

theorem byteAt_succ (c i : Nat) : byteAt c (i + 1) = byteAt (c / 256) i := by
  unfold byteAt
  rw [Nat.shiftRight_eq_div_pow, Nat.shiftRight_eq_div_pow, pow8, pow8, Nat.div_div_eq_div_mul, show 256 * 256 ^ i = 256 ^ (i + 1) from by rw [Nat.pow_succ, Nat.mul_comm]]

theorem ofNat_eq {a b : Nat} (ha : a < 256) (hb : b < 256) : (UInt8.ofNat a = UInt8.ofNat b) ↔ a = b := by
  constructor
  · intro h
    have := congrArg UInt8.toNat h
    simp only [UInt8.toNat_ofNat'] at this
    omega
  · intro h; rw [h]

theorem find?_range_succ (p : Nat → Bool) (n : Nat) : (List.range (n + 1)).find? p = if p 0 then some 0 else ((List.range n).find? fun i => p (i + 1)).map (· + 1) := by
  rw [List.range_succ_eq_map, List.find?_cons]
  by_cases h : p 0 = true
  · simp [h]
  · simp only [h, Bool.not_eq_true] at *
    rw [List.find?_map]
    simp [Function.comp_def]

theorem cmp_aux : ∀ (n c m d : Nat), (match (List.range (min n m)).find? (fun i => byteAt c i != byteAt d i) with
    | some i => if byteAt c i < byteAt d i then 0 else 2
    | none => if n < m then 0 else if n > m then 2 else 1) = strCmp n c m d
  | 0, c, 0, d => by simp [strCmp]
  | 0, c, m + 1, d => by simp [strCmp]
  | n + 1, c, 0, d => by simp [strCmp]
  | n + 1, c, m + 1, d => by
    have ih := cmp_aux n (c / 256) m (d / 256)
    rw [show min (n + 1) (m + 1) = min n m + 1 from by omega, find?_range_succ]
    simp only [byteAt_zero, byteAt_succ]
    by_cases e : c % 256 = d % 256
    · simp only [strCmp, nbeq.2 e]
      rw [← ih]
      simp only [e, bne_self_eq_false, Bool.false_eq_true, if_false]
      generalize (List.range (min n m)).find? (fun i => byteAt (c / 256) i != byteAt (d / 256) i) = o
      cases o with
      | none => simp only [Option.map_none]; by_cases h1 : n < m <;> by_cases h2 : n > m <;> simp [h1, h2]
      | some i => simp only [Option.map_some, byteAt_succ]
    · simp only [strCmp, nbeq_f.2 e]
      simp only [bne_iff_ne, ne_eq, e, not_false_eq_true, if_true, byteAt_zero]
      by_cases l : c % 256 < d % 256
      · simp [l, nblt.2 l]
      · simp [l, nblt_f.2 (Nat.le_of_not_lt l)]

theorem find?_congr' {p q : Nat → Bool} : ∀ (l : List Nat), (∀ i, i ∈ l → p i = q i) → l.find? p = l.find? q
  | [], _ => rfl
  | x :: xs, h => by
    rw [List.find?_cons, List.find?_cons, h x (by simp), find?_congr' xs (fun i hi => h i (by simp [hi]))]

theorem bne_bytes (a b : Nat) (ha : a < 256) (hb : b < 256) : (UInt8.ofNat a != UInt8.ofNat b) = (a != b) := by
  rw [Bool.eq_iff_iff, bne_iff_ne, bne_iff_ne, ne_eq, ne_eq, ofNat_eq ha hb]

theorem beq_bytes (a b : Nat) (ha : a < 256) (hb : b < 256) : (UInt8.ofNat a == UInt8.ofNat b) = Nat.beq a b := by
  rw [Bool.eq_iff_iff, beq_iff_eq, nbeq, ofNat_eq ha hb]

theorem cmp_bytes (n c m d : Nat) : Extern.BytealgCompare.cmp (bytesOf n c) (bytesOf m d) = ((strCmp n c m d : Nat) : Int) - 1 := by
  rw [← cmp_aux]
  unfold Extern.BytealgCompare.cmp
  rw [bytesOf_size, bytesOf_size]
  rw [find?_congr' (q := fun i => byteAt c i != byteAt d i) (List.range (min n m)) (by
    intro i hi
    simp only [List.mem_range] at hi
    rw [bytesOf_get! _ _ _ (by omega), bytesOf_get! _ _ _ (by omega), bne_bytes _ _ (byteAt_lt _ _) (byteAt_lt _ _)])]
  cases ho : (List.range (min n m)).find? (fun i => byteAt c i != byteAt d i) with
  | none =>
    simp only
    by_cases h1 : n < m
    · simp [h1]
    · by_cases h2 : n > m
      · simp [h1, h2]
      · simp [h1, h2]
  | some i =>
    simp only
    have hi := List.mem_of_find?_eq_some ho
    simp only [List.mem_range] at hi
    rw [bytesOf_get! _ _ _ (by omega), bytesOf_get! _ _ _ (by omega)]
    have h1 := byteAt_lt c i
    have h2 := byteAt_lt d i
    by_cases l : byteAt c i < byteAt d i
    · have : UInt8.ofNat (byteAt c i) < UInt8.ofNat (byteAt d i) := by
        rw [UInt8.lt_iff_toNat_lt]; simp only [UInt8.toNat_ofNat']; omega
      simp [l, this]
    · have : ¬ UInt8.ofNat (byteAt c i) < UInt8.ofNat (byteAt d i) := by
        rw [UInt8.lt_iff_toNat_lt]; simp only [UInt8.toNat_ofNat']; omega
      simp [l, this]

theorem find_aux : ∀ (n c b k : Nat), (match (List.range n).find? (fun i => Nat.beq (byteAt c i) b) with
    | some i => ((k + i : Nat) : Int)
    | none => -1) = findByte n c b k
  | 0, c, b, k => by simp [findByte]
  | n + 1, c, b, k => by
    have ih := find_aux n (c / 256) b (k + 1)
    rw [find?_range_succ]
    simp only [byteAt_zero, byteAt_succ]
    by_cases e : c % 256 = b
    · simp [findByte, nbeq.2 e]
    · simp only [findByte, nbeq_f.2 e]
      rw [← ih]
      generalize (List.range n).find? (fun i => Nat.beq (byteAt (c / 256) i) b) = o
      cases o with
      | none => simp
      | some i => simp only [Option.map_some, Bool.false_eq_true, if_false]; rw [show k + 1 + i = k + (i + 1) from by omega]

theorem find_bytes (n c b : Nat) (hb : b < 256) : ((match (List.range (bytesOf n c).size).find? fun i => (bytesOf n c)[i]! == UInt8.ofNat b with
    | some i => (i : Int)
    | none => -1)) = findByte n c b 0 := by
  rw [← find_aux, bytesOf_size]
  rw [find?_congr' (q := fun i => Nat.beq (byteAt c i) b) (List.range n) (by
    intro i hi
    simp only [List.mem_range] at hi
    rw [bytesOf_get! _ _ _ hi, beq_bytes _ _ (byteAt_lt _ _) hb])]
  cases (List.range n).find? (fun i => Nat.beq (byteAt c i) b) <;> simp

theorem count_aux (b : Nat) (hb : b < 256) : ∀ (n c acc : Nat), (bytesN n c).count (UInt8.ofNat b) + acc = countByte n c b acc
  | 0, c, acc => by simp [bytesN, countByte]
  | n + 1, c, acc => by
    simp only [bytesN, countByte, List.count_cons]
    rw [beq_bytes _ _ (Nat.mod_lt _ (by omega)) hb]
    cases Nat.beq (c % 256) b
    · simp only [Bool.false_eq_true, if_false, Nat.add_zero]; exact count_aux b hb n _ _
    · simp only [if_true]; rw [← count_aux b hb n]; omega

theorem extPure_ok {ρ : Env} {e : Ext} {fn : Func} {d : Array Value → Sem Value} {args : List AV} {args' : List Value} {v : AV} (h : extPure e args = some v) (ha : conL ρ args = some args') (hd : e.does fn d) :
    ∃ z, con ρ v = some z ∧ ∀ w, (d ⟨args'⟩).run P w = .ok z w := by
  unfold extPure at h
  split at h
  · simp only [Option.some.injEq] at h; subst h
    obtain ⟨x', hx, rfl⟩ := conL1 ha
    simp only [Ext.does] at hd; subst hd
    exact ⟨x', hx, fun w => rfl⟩
  · simp only [Option.some.injEq] at h; subst h
    simp only [Ext.does] at hd; obtain ⟨m, rfl⟩ := hd
    exact ⟨.tuple #[], by simp only [con], fun w => rfl⟩
  · simp only [Option.some.injEq] at h; subst h
    obtain ⟨x', hx, rfl⟩ := conL1 ha
    obtain ⟨l, hl, rfl⟩ := con_ptr hx
    simp only [Ext.does] at hd; obtain ⟨m, rfl⟩ := hd
    exact ⟨.tuple #[], by simp only [con], fun w => rfl⟩
  · simp only [Option.some.injEq] at h; subst h
    obtain ⟨x', y', hx, hy, rfl⟩ := conL2 ha
    rw [con_str hx, con_str hy]
    simp only [Ext.does] at hd; subst hd
    refine ⟨_, con_i ρ _ _, fun w => ?_⟩
    rw [← cmp_bytes]
    rfl
  · simp only [bnd, undQ_eq, infoQ_eq, funcQ_eq, Option.some.injEq] at h
    obtain ⟨b, hb, rfl⟩ := h
    obtain ⟨x', y', hx, hy, rfl⟩ := conL2 ha
    rw [con_str hx, con_int hy]
    simp only [Ext.does] at hd; subst hd
    refine ⟨_, con_i ρ _ _, fun w => ?_⟩
    rename_i n c bi
    have hbi : bi = (b : Int) := by
      unfold natOf at hb
      split at hb
      · simp only [Option.some.injEq] at hb; subst hb; rfl
      · simp at hb
    subst hbi
    have hb8 : (b : Int).toNat.toUInt8 = UInt8.ofNat (b % 256) := by
      rw [Int.toNat_natCast]
      apply UInt8.toNat_inj.1
      simp
    rw [← find_bytes n c (b % 256) (Nat.mod_lt _ (by omega))]
    have h1 := run_indexByte_string (P := P) (bytesOf n c) (b : Int) w
    rw [hb8] at h1
    rw [show (⟨[.string (bytesOf n c), .int .u8 (b : Int)]⟩ : Array Value) = #[.string (bytesOf n c), .int .u8 (b : Int)] from rfl, h1]
    rfl
  · simp only [bnd, undQ_eq, infoQ_eq, funcQ_eq, Option.some.injEq] at h
    obtain ⟨b, hb, rfl⟩ := h
    obtain ⟨x', y', hx, hy, rfl⟩ := conL2 ha
    rw [con_str hx, con_int hy]
    simp only [Ext.does] at hd; subst hd
    refine ⟨_, con_i ρ _ _, fun w => ?_⟩
    rename_i n c bi
    have hbi : bi = (b : Int) := by
      unfold natOf at hb
      split at hb
      · simp only [Option.some.injEq] at hb; subst hb; rfl
      · simp at hb
    subst hbi
    have hb8 : (b : Int).toNat.toUInt8 = UInt8.ofNat (b % 256) := by
      rw [Int.toNat_natCast]
      apply UInt8.toNat_inj.1
      simp
    have h1 := Lib.run_countString (P := P) (bytesOf n c) (b : Int) w
    rw [hb8] at h1
    have h2 := count_aux (b % 256) (Nat.mod_lt _ (by omega)) n c 0
    rw [Nat.add_zero] at h2
    rw [← h2]
    exact h1
  · simp at h

-- operations

theorem asStruct_ok {d : TypeDesc} {fs : List Field} (h : asStruct d = some fs) : d = .struct ⟨fs⟩ := by
  unfold asStruct at h
  split at h
  · simp only [Option.some.injEq] at h; subst h; rfl
  · simp at h

theorem asPtr_ok {v : AV} {p : Nat × Nat} (h : asPtr v = some p) : v = .ptr p.1 p.2 := by
  unfold asPtr at h
  split at h
  · simp only [Option.some.injEq] at h; subst h; rfl
  · simp at h

theorem asAgg_ok {v : AV} {cs : List AV} (h : asAgg v = some cs) : v = .agg cs := by
  unfold asAgg at h
  split at h
  · simp only [Option.some.injEq] at h; subst h; rfl
  · simp at h

/-- A call of a function by its name: what it resolves to. -/
theorem run_call_func (ρ : Operand → Value) (f : FuncId) (as : List Operand) (ts : Array TypeId) (ty : TypeId) (w : World) :
    (do let d ← resolve ρ ⟨.value (.func f), ⟨as⟩, ts⟩ ty; invoke d.target d.args : Sem Next).run P w =
      (do let d ← Deferred.ofValue (ρ (.func f)) ⟨as.map ρ⟩; invoke d.target d.args : Sem Next).run P w := by
  simp [resolve]

theorem resolve_func {a : Act} (f : FuncId) (as : List Operand) (ts : Array TypeId) (ty : TypeId) (w : World) :
    (do let d ← resolve a.eval ⟨.value (.func f), ⟨as⟩, ts⟩ ty; invoke d.target d.args : Sem Next).run P w = (callFunc f ⟨as.map a.eval⟩).run P w := by
  simp [resolve, Act.eval, Deferred.ofValue, invoke]

variable {ext : Exts}

theorem pure0_ok (hx : ExtOk P ext) {ρ : Env} {tm : TM} {a : Act} {o : Oper} {v : AV} (he : EvOk ρ tm a o.op.operands.toList) (h : pureOp0 P ext tm o.op = some v) :
    ∃ z, con ρ v = some z ∧ ∀ w, (execOp a.eval o).run P w = .ok (.value z) w := by
  obtain ⟨dst, op, type, pos, after, guard⟩ := o
  simp only at he h
  unfold pureOp0 at h
  split at h
  case h_1 x =>
    exact ⟨_, ev_ok he (by simp [Op.operands]) h, fun w => by simp [execOp]⟩
  case h_2 x =>
    exact ⟨_, ev_ok he (by simp [Op.operands]) h, fun w => by simp [execOp]⟩
  case h_3 c x y =>
    simp only [bnd, undQ_eq, infoQ_eq, funcQ_eq] at h
    obtain ⟨cv, hc, xv, hxv, yv, hyv, h⟩ := h
    have h1 := ev_ok he (by simp [Op.operands]) hc
    have h2 := ev_ok he (by simp [Op.operands]) hxv
    have h3 := ev_ok he (by simp [Op.operands]) hyv
    split at h
    · simp only [Option.some.injEq] at h; subst h
      refine ⟨_, h2, fun w => ?_⟩
      have := con_bool h1
      simp [execOp, asBool, this]
    · simp only [Option.some.injEq] at h; subst h
      refine ⟨_, h3, fun w => ?_⟩
      have := con_bool h1
      simp [execOp, asBool, this]
    · simp at h
  case h_4 t ps =>
    simp only [bnd, undQ_eq, infoQ_eq, funcQ_eq] at h
    obtain ⟨l, hl, h⟩ := h
    have hp := evParts_ok he (fun x hx => by simp [Op.operands]; exact ⟨x.1, by simpa using hx⟩) hl
    obtain ⟨z, hz, hr⟩ := build_ok h hp
    refine ⟨z, hz, fun w => ?_⟩
    have := hr w
    simp [execOp, this]
  case h_5 x =>
    simp only [bnd, undQ_eq, infoQ_eq, funcQ_eq] at h
    obtain ⟨u, hu, h⟩ := h
    have h1 := ev_ok he (by simp [Op.operands]) hu
    split at h
    · simp only [Option.some.injEq] at h; subst h
      refine ⟨_, h1, fun w => ?_⟩
      obtain ⟨l, hl, e⟩ := con_ptr h1
      simp [execOp, e]
    · simp only [Option.some.injEq] at h; subst h
      refine ⟨_, h1, fun w => ?_⟩
      obtain ⟨a', c', _, _, e⟩ := con_fn h1
      simp [execOp, e]
    · simp at h
  case h_6 op t x y yt =>
    simp only [bnd, undQ_eq, infoQ_eq, funcQ_eq] at h
    obtain ⟨xv, hxv, yv, hyv, h⟩ := h
    have h1 := ev_ok he (by simp [Op.operands]) hxv
    have h2 := ev_ok he (by simp [Op.operands]) hyv
    obtain ⟨z, hz, hr⟩ := bin_ok h h1 h2
    refine ⟨z, hz, fun w => ?_⟩
    have := hr w
    simp only [execOp, Sem.run_bind] at this ⊢
    rw [this]
    rfl
  case h_7 op t x =>
    simp only [bnd, undQ_eq, infoQ_eq, funcQ_eq] at h
    obtain ⟨xv, hxv, h⟩ := h
    have h1 := ev_ok he (by simp [Op.operands]) hxv
    obtain ⟨z, hz, hr⟩ := un_ok (P := P) h h1
    exact ⟨z, hz, fun w => by simp [execOp, hr]⟩
  case h_8 s d x =>
    simp only [bnd, undQ_eq, infoQ_eq, funcQ_eq] at h
    obtain ⟨xv, hxv, h⟩ := h
    have h1 := ev_ok he (by simp [Op.operands]) hxv
    obtain ⟨z, hz, hr⟩ := conv_ok h h1
    exact ⟨z, hz, fun w => by simp [execOp, hr]⟩
  case h_9 t x =>
    simp only [bnd, undQ_eq, infoQ_eq, funcQ_eq] at h
    obtain ⟨d, hd, h⟩ := h
    split at h
    · simp at h
    · rename_i hni
      simp only [bnd, undQ_eq, infoQ_eq, funcQ_eq, Option.some.injEq] at h
      obtain ⟨u, hu, rfl⟩ := h
      have h1 := ev_ok he (by simp [Op.operands]) hu
      refine ⟨.iface t (a.eval x), by simp only [con, bnd, undQ_eq, infoQ_eq, funcQ_eq]; exact ⟨_, h1, rfl⟩, fun w => ?_⟩
      simp only [execOp, Instr.makeInterface, Sem.run_bind, run_underlying hd, Result.andThen_ok]
      cases d <;> first | (exact absurd rfl (hni _)) | rfl
  case h_10 f as cs =>
    simp only [bnd, undQ_eq, infoQ_eq, funcQ_eq, Option.some.injEq] at h
    obtain ⟨av, hav, cv, hcv, rfl⟩ := h
    have h1 := evL_ok he (fun x hx => by simp [Op.operands, hx]) hav
    have h2 := evL_ok he (fun x hx => by simp [Op.operands, hx]) hcv
    refine ⟨.func (.func f) ⟨as.map a.eval⟩ ⟨cs.map a.eval⟩, by simp only [con, bnd, undQ_eq, infoQ_eq, funcQ_eq]; exact ⟨_, h1, _, h2, rfl⟩, fun w => ?_⟩
    simp [execOp, Instr.makeFunc]
  case h_11 t x lo hi mx =>
    simp only [bnd, undQ_eq, infoQ_eq, funcQ_eq] at h
    obtain ⟨xv, hxv, l, hl, hh, hhi, m, hm, h⟩ := h
    have h1 := ev_ok he (by simp [Op.operands]) hxv
    have c1 := evOpt_ok he (fun o ho => by simp [Op.operands, ho]) hl
    have c2 := evOpt_ok he (fun o ho => by simp [Op.operands, ho]) hhi
    have c3 := evOpt_ok he (fun o ho => by simp [Op.operands, ho]) hm
    obtain ⟨z, hz, hr⟩ := slice_ok h h1 c1 c2 c3
    exact ⟨z, hz, fun w => by simp [execOp, hr]⟩
  case h_12 s x i =>
    simp only [bnd, undQ_eq, infoQ_eq, funcQ_eq, Option.some.injEq] at h
    obtain ⟨xv, hxv, p, hp, k, hk, rfl⟩ := h
    have := asPtr_ok hp
    subst this
    have h1 := ev_ok he (by simp [Op.operands]) hxv
    obtain ⟨l, hl, e⟩ := con_ptr h1
    refine ⟨.pointer (some ⟨l.blk, p.2 + k, none⟩), by simp only [con, bnd, undQ_eq, infoQ_eq, funcQ_eq]; exact ⟨l, hl, rfl⟩, fun w => ?_⟩
    simp [execOp, e, fieldOff_ok hk]
  case h_13 t x i =>
    simp only [bnd, undQ_eq, infoQ_eq, funcQ_eq] at h
    obtain ⟨xv, hxv, cs, hcs, d, hd, fs, hfs, f, hf, h⟩ := h
    have := asAgg_ok hcs
    subst this
    have := asStruct_ok hfs
    subst this
    have h1 := ev_ok he (by simp [Op.operands]) hxv
    obtain ⟨xs, e, hxs⟩ := conL_agg h1
    obtain ⟨z, hz, hr⟩ := part_ok h hxs
    refine ⟨z, hz, fun w => ?_⟩
    simp [execOp, Instr.field, run_underlying hd, hf, e, hr, Go.asAgg]
  case h_14 t x ix =>
    simp only [bnd, undQ_eq, infoQ_eq, funcQ_eq] at h
    obtain ⟨xv, hxv, iv, hiv, h⟩ := h
    have h1 := ev_ok he (by simp [Op.operands]) hxv
    have h2 := ev_ok he (by simp [Op.operands]) hiv
    obtain ⟨z, hz, hr⟩ := indexAddr_ok h h1 h2
    exact ⟨z, hz, fun w => by simp [execOp, hr]⟩
  case h_15 t x ix =>
    simp only [bnd, undQ_eq, infoQ_eq, funcQ_eq] at h
    obtain ⟨xv, hxv, iv, hiv, h⟩ := h
    have h1 := ev_ok he (by simp [Op.operands]) hxv
    have h2 := ev_ok he (by simp [Op.operands]) hiv
    obtain ⟨z, hz, hr⟩ := index_ok h h1 h2
    exact ⟨z, hz, fun w => by simp [execOp, hr]⟩
  case h_16 x i =>
    simp only [bnd, undQ_eq, infoQ_eq, funcQ_eq] at h
    obtain ⟨xv, hxv, h⟩ := h
    have h1 := ev_ok he (by simp [Op.operands]) hxv
    split at h
    · simp only [con, bnd, undQ_eq, infoQ_eq, funcQ_eq, Option.some.injEq] at h1
      obtain ⟨vs, hvs, e⟩ := h1
      obtain ⟨z, hz, hz'⟩ := conL_get hvs h
      refine ⟨z, hz, fun w => ?_⟩
      simp [execOp, ← e, Instr.extract, hz']
    · simp at h
  case h_17 b as ts =>
    split at h
    · simp only [bnd, undQ_eq, infoQ_eq, funcQ_eq] at h
      obtain ⟨xv, hxv, h⟩ := h
      have h1 := ev_ok he (by simp [Op.operands, Call.operands]) hxv
      rename_i x t tl
      obtain ⟨z, hz, hr⟩ := len_ok (ts := tl) (ty := type) h h1
      refine ⟨z, hz, fun w => ?_⟩
      simp [execOp, resolve, invoke, builtin, hr]
    · simp only [bnd, undQ_eq, infoQ_eq, funcQ_eq] at h
      obtain ⟨xv, hxv, h⟩ := h
      have h1 := ev_ok he (by simp [Op.operands, Call.operands]) hxv
      rename_i x t tl
      obtain ⟨z, hz, hr⟩ := cap_ok (ts := tl) (ty := type) h h1
      refine ⟨z, hz, fun w => ?_⟩
      simp [execOp, resolve, invoke, builtin, hr]
    · simp only [bnd, undQ_eq, infoQ_eq, funcQ_eq] at h
      obtain ⟨xv, hxv, yv, hyv, h⟩ := h
      have h1 := ev_ok he (by simp [Op.operands, Call.operands]) hxv
      have h2 := ev_ok he (by simp [Op.operands, Call.operands]) hyv
      obtain ⟨z, hz, hr⟩ := max_ok (P := P) h h1 h2 ⟨ts⟩ type
      refine ⟨z, hz, fun w => ?_⟩
      simp [execOp, resolve, invoke, builtin, hr]
    · simp only [bnd, undQ_eq, infoQ_eq, funcQ_eq] at h
      obtain ⟨xv, hxv, yv, hyv, h⟩ := h
      have h1 := ev_ok he (by simp [Op.operands, Call.operands]) hxv
      have h2 := ev_ok he (by simp [Op.operands, Call.operands]) hyv
      obtain ⟨z, hz, hr⟩ := min_ok (P := P) h h1 h2 ⟨ts⟩ type
      refine ⟨z, hz, fun w => ?_⟩
      simp [execOp, resolve, invoke, builtin, hr]
    · simp only [bnd, undQ_eq, infoQ_eq, funcQ_eq] at h
      obtain ⟨xv, hxv, h⟩ := h
      have h1 := ev_ok he (by simp [Op.operands, Call.operands]) hxv
      obtain ⟨z, hz, hr⟩ := sliceData_ok (P := P) h h1 ⟨ts⟩ type
      refine ⟨z, hz, fun w => ?_⟩
      simp [execOp, resolve, invoke, builtin, hr]
    · simp at h
  case h_18 f as ts =>
    simp only [bnd, undQ_eq, infoQ_eq, funcQ_eq] at h
    obtain ⟨e, hee, l, hl, h⟩ := h
    have h1 := evL_ok he (fun x hx => by simp [Op.operands, Call.operands, hx]) hl
    obtain ⟨fn, d, hf, hd, hr⟩ := run_ext hx hee
    obtain ⟨z, hz, hz'⟩ := extPure_ok (P := P) h h1 hd
    refine ⟨z, hz, fun w => ?_⟩
    simp only [execOp]
    rw [resolve_func, hr, hz']
    rfl
  case h_19 => simp at h

theorem bin_eql {X Y Z : Atom} (h : X.bin .eql Y Z) : ∃ b, Z = .bool b ∧ ((∃ k m n, X = .int k m ∧ Y = .int k n ∧ b = (m == n)) ∨ ∃ s t, X = .str s ∧ Y = .str t ∧ b = (s.toList == t.toList)) := by
  cases X with
  | int k m =>
    cases Y with
    | int k' n =>
      obtain ⟨rfl, h⟩ := h
      have := h default 0 default
      simp only [binOp, ne_eq, not_true_eq_false, if_false, Op.intCmp, Sem.run_pure, Result.ok.injEq, and_true] at this
      cases Z with
      | bool b => simp only [Atom.val, Value.bool.injEq] at this; exact ⟨b, rfl, .inl ⟨k, m, n, rfl, rfl, this.symm⟩⟩
      | int _ _ => simp [Atom.val] at this
      | str _ => simp [Atom.val] at this
    | _ => exact h.elim
  | str s =>
    cases Y with
    | str t =>
      have := h default 0 default
      simp only [binOp, Op.stringOp, Sem.run_pure, Result.ok.injEq, and_true] at this
      cases Z with
      | bool b => simp only [Atom.val, Value.bool.injEq] at this; exact ⟨b, rfl, .inr ⟨s, t, rfl, rfl, this.symm⟩⟩
      | int _ _ => simp [Atom.val] at this
      | str _ => simp [Atom.val] at this
    | _ => exact h.elim
  | bool b => exact h.elim

theorem oraEq_ok (ho : OraOk ext.ora) {ρ : Env} {x y : AV} {b : Bool} {x' y' : Value} (h : oraEq ext x y = some b) (hx : con ρ x = some x') (hy : con ρ y = some y') :
    (∃ k m n, x' = .int k m ∧ y' = .int k n ∧ b = (m == n)) ∨ ∃ s t, x' = .string s ∧ y' = .string t ∧ b = (s.toList == t.toList) := by
  unfold oraEq at h
  split at h
  · rename_i c e
    simp only [Option.some.injEq] at h
    subst h
    obtain ⟨X, Y, Z, h1, h2, h3, h4⟩ := ho.bin _ _ _ _ e
    simp only [atom, Option.some.injEq] at h3
    subst h3
    obtain ⟨b, hb, h5⟩ := bin_eql h4
    simp only [Atom.bool.injEq] at hb
    subst hb
    have e1 := atom_con h1 hx
    have e2 := atom_con h2 hy
    rcases h5 with ⟨k, m, n, rfl, rfl, rfl⟩ | ⟨s, t, rfl, rfl, rfl⟩
    · exact .inl ⟨k, m, n, e1, e2, rfl⟩
    · exact .inr ⟨s, t, e1, e2, rfl⟩
  · simp at h

theorem eqS_ok (ho : OraOk ext.ora) {ρ : Env} : ∀ (d D : Nat) (t : TypeId) (x y : AV) (b : Bool) (x' y' : Value), d + 20 ≤ D → eqS P ext d t x y = some b → con ρ x = some x' → con ρ y = some y' →
    ∀ w, (Op.equalIn D t x' y').run P w = .ok b w
  | 0, D, t, x, y, b, x', y', _, h, _, _, w => by simp [eqS] at h
  | d + 1, D, t, x, y, b, x', y', hD, h, hx, hy, w => by
    unfold eqS at h
    split at h
    · rename_i c e
      simp only [Option.some.injEq] at h
      subst h
      exact eqT_ok 20 D t x y _ x' y' (by omega) e hx hy w
    · obtain ⟨D, rfl⟩ : ∃ m, D = m + 1 := ⟨D - 1, by omega⟩
      simp only [bnd, undQ_eq] at h
      obtain ⟨u, hu, h⟩ := h
      split at h
      · rename_i fs xs ys
        obtain ⟨xs', rfl, hxs⟩ := conL_agg hx
        obtain ⟨ys', rfl, hys⟩ := conL_agg hy
        simp only [grd_some, Bool.not_eq_true'] at h
        obtain ⟨hp, h⟩ := h
        rw [run_equalIn_struct w D t ⟨xs'⟩ ⟨ys'⟩ (by rw [fieldsOf_eq hu]; exact hu) hp, fieldsOf_eq hu]
        exact eqFields_ok (fun t x y b x' y' h1 h2 h3 w => eqS_ok ho d D t x y b x' y' (by omega) h1 h2 h3 w) hxs hys _ b h w
      · simp only [grd_some] at h
        obtain ⟨hk, h⟩ := h
        obtain ⟨k', n', hi⟩ := ho.isInt _ hk
        have e0 := atom_con hi hx
        rcases oraEq_ok ho h hx hy with ⟨k, m, n, rfl, rfl, rfl⟩ | ⟨s, t', rfl, rfl, rfl⟩
        · simp [Op.equalIn, run_underlying hu]
        · simp [Atom.val] at e0
      · simp only [grd_some] at h
        obtain ⟨hk, h⟩ := h
        obtain ⟨s', hi⟩ := ho.isStr _ hk
        have e0 := atom_con hi hx
        rcases oraEq_ok ho h hx hy with ⟨k, m, n, rfl, rfl, rfl⟩ | ⟨s, t', rfl, rfl, rfl⟩
        · simp [Atom.val] at e0
        · rw [run_equalIn_string w D t _ _ hu]
      · simp at h

theorem oraBin_ok (ho : OraOk ext.ora) {ρ : Env} {op : BinOp} {t : TypeId} {xo yo : Operand} {x y : AV} {x' y' : Value} {v : AV} (h : oraBin P ext op t (isConstOp xo || isConstOp yo) x y = some v)
    (hx : con ρ x = some x') (hy : con ρ y = some y') : ∃ z, con ρ v = some z ∧ ∀ w, (do eqGuard op t xo yo x' y'; binOp op t x' y').run P w = .ok z w := by
  unfold oraBin at h
  split at h
  · rename_i xs ys
    obtain ⟨xs', rfl, hxs⟩ := conL_agg hx
    obtain ⟨ys', rfl, hys⟩ := conL_agg hy
    have e : ∀ b, eqS P ext 20 t (.agg xs) (.agg ys) = some b → ∀ w, (binOp .eql t (.agg ⟨xs'⟩) (.agg ⟨ys'⟩)).run P w = .ok (.bool b) w ∧ (binOp .neq t (.agg ⟨xs'⟩) (.agg ⟨ys'⟩)).run P w = .ok (.bool (!b)) w := fun b hb w => by
      have hq : (Op.equal t (.agg ⟨xs'⟩) (.agg ⟨ys'⟩)).run P w = .ok b w := eqS_ok ho 20 10000 t _ _ b _ _ (by omega) hb hx hy w
      simp only [binOp, Sem.run_bind, hq, Result.andThen_ok, Sem.run_pure, and_self]
    split at h
    · simp only [grd_some, bnd, Option.some.injEq] at h
      obtain ⟨hp, b, hb, rfl⟩ := h
      refine ⟨_, con_b ρ _, fun w => ?_⟩
      rw [Sem.run_bind, guard_ok hp hx hy]
      exact (e b hb w).1
    · simp only [grd_some, bnd, Option.some.injEq] at h
      obtain ⟨hp, b, hb, rfl⟩ := h
      refine ⟨_, con_b ρ _, fun w => ?_⟩
      rw [Sem.run_bind, guard_ok hp hx hy]
      exact (e b hb w).2
    · simp at h
  · obtain ⟨X, Y, Z, h1, h2, h3, h4⟩ := ho.bin _ _ _ _ h
    have e1 := atom_con h1 hx
    have e2 := atom_con h2 hy
    subst e1
    subst e2
    refine ⟨_, atom_some ρ h3, fun w => ?_⟩
    have hg : (eqGuard op t xo yo X.val Y.val).run P w = .ok () w := by
      cases X <;> cases Y <;> first | exact h4.elim | (unfold eqGuard; cases op <;> simp [Atom.val])
    rw [Sem.run_bind, hg]
    cases X with
    | int k a =>
      cases Y with
      | int k' b => exact h4.2 P t w
      | _ => exact h4.elim
    | str s =>
      cases Y with
      | str t' => exact h4 P t w
      | _ => exact h4.elim
    | bool b => exact h4.elim

theorem orV_some {x y : Option AV} {v : AV} (h : orV x y = some v) : x = some v ∨ y = some v := by
  cases x with
  | none => exact .inr h
  | some u => exact .inl h

theorem pure_ok (hx : ExtOk P ext) {ρ : Env} {tm : TM} {a : Act} {o : Oper} {v : AV} (he : EvOk ρ tm a o.op.operands.toList) (h : pureOp P ext tm o.op = some v) :
    ∃ z, con ρ v = some z ∧ ∀ w, (execOp a.eval o).run P w = .ok (.value z) w := by
  rcases orV_some h with h | h
  · exact pure0_ok hx he h
  · obtain ⟨dst, op, type, pos, after, guard⟩ := o
    simp only at he h
    unfold oraOp at h
    split at h
    · simp only [bnd] at h
      obtain ⟨xv, hxv, yv, hyv, h⟩ := h
      have h1 := ev_ok he (by simp [Op.operands]) hxv
      have h2 := ev_ok he (by simp [Op.operands]) hyv
      obtain ⟨z, hz, hr⟩ := oraBin_ok hx.ora h h1 h2
      refine ⟨z, hz, fun w => ?_⟩
      have := hr w
      simp only [execOp, Sem.run_bind] at this ⊢
      rw [this]
      rfl
    · simp only [bnd, oraConv, undQ_eq] at h
      obtain ⟨xv, hxv, s, hs, d, hd, h⟩ := h
      have h1 := ev_ok he (by simp [Op.operands]) hxv
      split at h
      · obtain ⟨j, n, ha, hv⟩ := hx.ora.conv _ _ _ h
        have e1 := atom_con ha h1
        refine ⟨_, atom_some ρ hv, fun w => ?_⟩
        simp [execOp, e1, Atom.val, convert, run_underlying hs, run_underlying hd, Conv.intToInt]
      · simp at h
    · simp only [bnd, oraLen, undQ_eq] at h
      obtain ⟨xv, hxv, d, hd, h⟩ := h
      have h1 := ev_ok he (by simp [Op.operands, Call.operands]) hxv
      split at h
      · obtain ⟨s, ha, hv⟩ := hx.ora.len _ _ h
        have e1 := atom_con ha h1
        refine ⟨_, atom_some ρ hv, fun w => ?_⟩
        simp [execOp, resolve, invoke, builtin, e1, Atom.val, Builtin.len_, run_underlying hd, goInt]
      · simp at h
    · simp at h
end Go.Sim
