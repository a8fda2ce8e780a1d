/- The evaluator, its soundness, fifth part: operations that only look at memory. -/
import Derived.Test.YtenlpijbhhfahaaGreatDoorSimF
import Derived.Laws.Cells
import Derived.MapKept
import Derived.WideKeyRuns
import Derived.Laws.BytesString
set_option linter.all false
set_option maxHeartbeats 2000000
namespace Go.Sim
variable [Sig]
variable {P : Program}

theorem AH.row_ok {h : AH} {id : Nat} {r : Row} (e : h.row id = some r) : h.objs.get id = some (.row r) := by
  unfold AH.row at e
  split at e
  · rename_i h'; simp only [Option.some.injEq] at e; subst e; exact h'
  · simp at e

theorem AH.mapOf_ok {h : AH} {id : Nat} {m : List Entry × Nat} (e : h.mapOf id = some m) : h.objs.get id = some (.map m.1 m.2) := by
  unfold AH.mapOf at e
  split at e
  · rename_i h'; simp only [Option.some.injEq] at e; subst e; exact h'
  · simp at e

/-- A row of the evaluator's, in memory. -/
structure RowAt (ρ : Env) (r : Row) (l : Loc) (w : World) (c : Array Value) (fr : Nat × Nat) : Prop where
  heap : w.heap[l.blk]? = some (.cells c r.elem fr)
  grow : r.grow = true → c.size = l.ce ∧ r.n ≤ l.ce
  fixed : r.grow = false → c.size = r.n
  cells : ∀ i, i < r.n → ∀ v, r.cells.get i = some v → ∃ y, con ρ v = some y ∧ c[i]? = some y
  frozen : r.frz = false → ∀ i, i < c.size → ¬ (fr.1 ≤ i ∧ i < fr.2)

theorem RowAt.le {ρ : Env} {r : Row} {l : Loc} {w : World} {c : Array Value} {fr : Nat × Nat} (h : RowAt ρ r l w c fr) : r.n ≤ c.size := by
  cases hg : r.grow
  · rw [h.fixed hg]; exact Nat.le_refl _
  · rw [(h.grow hg).1]; exact (h.grow hg).2

theorem Rel.row {w₀ : World} {B : Nat} {ρ : Env} {h : AH} {w : World} (hr : Rel w₀ B ρ h w) {id : Nat} {r : Row} (e : h.row id = some r) {l : Loc} (hl : ρ id = some l) : ∃ c fr, RowAt ρ r l w c fr := by
  obtain ⟨l', x, hl', hx, ho⟩ := hr.obj id _ (AH.row_ok e)
  rw [hl] at hl'
  simp only [Option.some.injEq] at hl'
  subst hl'
  obtain ⟨c, fr, rfl, h1, h2, h3⟩ := ho
  refine ⟨c, fr, hx, fun hg => ?_, fun hg => ?_, h2, h3⟩
  · simpa [hg] using h1
  · simpa [hg] using h1

theorem readCells_ok {ρ : Env} {cells : T AV} {n : Nat} {c : Array Value} (hc : ∀ i, i < n → ∀ v, cells.get i = some v → ∃ y, con ρ v = some y ∧ c[i]? = some y) :
    ∀ (k off : Nat) (l : List AV), readCells cells off k = some l → off + k ≤ n → ∃ xs, conL ρ l = some xs ∧ xs.length = k ∧ ∀ j v, xs[j]? = some v → c[off + j]? = some v
  | 0, off, l, h, _ => by
    simp only [readCells, Option.some.injEq] at h
    subst h
    exact ⟨[], conL_nil ρ, rfl, by simp⟩
  | k + 1, off, l, h, hle => by
    simp only [readCells, bnd, undQ_eq, infoQ_eq, funcQ_eq, Option.some.injEq] at h
    obtain ⟨v, hv, m, hm, rfl⟩ := h
    obtain ⟨y, hy, hy'⟩ := hc off (by omega) v hv
    obtain ⟨xs, hxs, hlen, hat⟩ := readCells_ok hc k (off + 1) m hm (by omega)
    refine ⟨y :: xs, conL_cons.2 ⟨y, hy, xs, hxs, rfl⟩, by simp [hlen], fun j v hj => ?_⟩
    cases j with
    | zero => simp at hj; subst hj; exact hy'
    | succ j => simp at hj; rw [show off + (j + 1) = off + 1 + j from by omega]; exact hat j v hj

theorem cell_of {w : World} {b i : Nat} {c : Array Value} {e : TypeId} {fr : Nat × Nat} (h : w.heap[b]? = some (.cells c e fr)) : w.cell? ⟨b, i, none⟩ = c[i]? := by
  simp [World.cell?, h]

theorem readRow_ok {ρ : Env} {r : Row} {l : Loc} {w : World} {c : Array Value} {fr : Nat × Nat} (hr : RowAt ρ r l w c fr) {off k : Nat} {m : List AV} (h : readRow r off k = some m) :
    ∃ xs, conL ρ m = some xs ∧ xs.length = k ∧ (∀ j v, xs[j]? = some v → c[off + j]? = some v) ∧ (loadCells ⟨l.blk, off, none⟩ k).run P w = .ok ⟨xs⟩ w := by
  simp only [readRow, grd_some, nble] at h
  obtain ⟨hle, h⟩ := h
  obtain ⟨xs, h1, h2, h3⟩ := readCells_ok hr.cells k off m h hle
  refine ⟨xs, h1, h2, h3, ?_⟩
  have := run_loadCells_list (P := P) w ⟨l.blk, off, none⟩ xs (fun j v hj => by rw [add_plain, cell_of hr.heap]; exact h3 j v hj)
  rw [h2] at this
  exact this

theorem load_ok {w₀ : World} {B : Nat} {ρ : Env} {h : AH} {w : World} (hr : Rel w₀ B ρ h w) {t : TypeId} {x v : AV} {x' : Value} (hv : loadAV P h t x = some v) (hx : con ρ x = some x') :
    ∃ z, con ρ v = some z ∧ (Instr.loadAt t x').run P w = .ok z w := by
  simp only [loadAV, bnd, undQ_eq, infoQ_eq, funcQ_eq] at hv
  obtain ⟨p, hp, r, hr', d, hd, hv⟩ := hv
  have := asPtr_ok hp
  subst this
  obtain ⟨l, hl, rfl⟩ := con_ptr hx
  obtain ⟨c, fr, hrow⟩ := hr.row hr' hl
  cases ha : isAggD d with
  | true =>
    simp only [ha, bnd, undQ_eq, infoQ_eq, funcQ_eq, Option.some.injEq] at hv
    obtain ⟨k, hk, m, hm, rfl⟩ := hv
    obtain ⟨xs, h1, h2, _, h3⟩ := readRow_ok (P := P) hrow hm
    refine ⟨.agg ⟨xs⟩, con_agg h1, ?_⟩
    simp only [Instr.loadAt, Instr.sureAddr, loadVar, Sem.run_bind, Sem.run_pure, Result.andThen_ok, run_isAgg' hd, ha, if_true, run_sizeOf' hk, h3]
  | false =>
    simp only [ha, grd_some, nblt] at hv
    obtain ⟨hlt, hv⟩ := hv
    obtain ⟨y, hy, hy'⟩ := hrow.cells _ hlt v hv
    refine ⟨y, hy, ?_⟩
    simp only [Instr.loadAt, Instr.sureAddr, loadVar, Sem.run_bind, Sem.run_pure, Result.andThen_ok, run_isAgg' hd, ha, Bool.false_eq_true, if_false, run_load, cell_of hrow.heap, hy']

-- maps

theorem keyFields_ok {ρ : Env} {D : Nat} {em : Bool} {ok : TypeId → AV → Bool} (hok : ∀ t x x', ok t x = true → con ρ x = some x' → ∀ w, (Instr.checkKey em D t x').run P w = .ok () w)
    {cs : List AV} {xs : List Value} (hc : conL ρ cs = some xs) : ∀ (fs : List Field), keyFields P ok cs fs = true → ∀ w,
      (forIn (m := Sem) fs PUnit.unit fun f _ => do
        if f.name ≠ "_" then Instr.checkKey em D f.type (← part f.type ⟨xs⟩ f.offset)
        pure (ForInStep.yield PUnit.unit)).run P w = .ok PUnit.unit w
  | [], _, w => by simp
  | f :: fs, h, w => by
    unfold keyFields at h
    by_cases hf : f.name = "_"
    · simp only [hf, decide_true] at h
      have ih := keyFields_ok hok hc fs h w
      simp only [List.forIn_cons, hf]
      simpa using ih
    · simp only [hf, decide_false] at h
      split at h
      · rename_i x hx
        simp only [Bool.and_eq_true] at h
        obtain ⟨x', hx', hr⟩ := part_ok hx hc
        have ih := keyFields_ok hok hc fs h.2 w
        have hk := hok _ _ _ h.1 hx' w
        simp only [List.forIn_cons]
        simp [hf, hr, hk]
        simpa using ih
      · simp at h

theorem keyOk_ok {ρ : Env} (em : Bool) : ∀ (d D : Nat) (t : TypeId) (x : AV) (x' : Value), d ≤ D → keyOk P d t x = true → con ρ x = some x' → ∀ w, (Instr.checkKey em D t x').run P w = .ok () w
  | 0, D, t, x, x', _, h, _, w => by simp [keyOk] at h
  | d + 1, D, t, x, x', hD, h, hx, w => by
    obtain ⟨D, rfl⟩ : ∃ m, D = m + 1 := ⟨D - 1, by omega⟩
    unfold keyOk at h
    rw [undQ_eq] at h
    split at h
    · rename_i fs cs hu
      obtain ⟨xs, rfl, hxs⟩ := conL_agg hx
      have := keyFields_ok (P := P) (em := em) (D := D) (fun t x x' h1 h2 w => keyOk_ok em d D t x x' (by omega) h1 h2 w) hxs fs h w
      simp only [Instr.checkKey, Sem.run_bind, run_underlying hu, Result.andThen_ok]
      rw [← Array.forIn_toList]
      simp at this ⊢
      rw [this]
      rfl
    · rename_i hu; rw [con_str hx]; simp [Instr.checkKey, run_underlying hu]
    · rename_i hu; rw [con_int hx]; simp [Instr.checkKey, run_underlying hu]
    · simp at h
theorem findNow_asking {t : TypeId} {d : TypeDesc} (hd : P.underlying t = some d) (k : Value) : ∀ (es : List MapEntry) (i : Nat) (r : Option (Nat × Value)), Instr.findNow d k es i = some r → ∀ w, (Instr.findAsking t k es i).run P w = .ok r w
  | [], i, r, h, w => by simp only [Instr.findNow, Option.some.injEq] at h; subst h; rfl
  | e :: es, i, r, h, w => by
    have key : ∀ b, Instr.sameNow d k e.key = some b → (Op.equal t k e.key).run P w = .ok b w := by
      intro b hb
      unfold Instr.sameNow at hb
      split at hb
      · rename_i a k' b' hk he
        split at hb
        · rename_i e1
          simp only [Option.some.injEq] at hb
          subst hb
          subst e1
          rw [he]
          exact run_equalIn_int w 9999 t _ _ _ _ hd
        · simp at hb
      · rename_i he
        simp only [Option.some.injEq] at hb
        subst hb
        rw [he, beq_toListBytes]
        exact run_equalIn_string w 9999 t _ _ hd
      · rename_i he
        simp only [Option.some.injEq] at hb
        subst hb
        rw [he]
        exact run_equalIn_bool' w 9999 t _ _ hd
      · simp at hb
    unfold Instr.findNow at h
    simp only [Instr.findAsking, Sem.run_bind]
    split at h
    · rename_i hs
      simp only [Option.some.injEq] at h
      subst h
      rw [key _ hs]
      rfl
    · rename_i hs
      rw [key _ hs]
      exact findNow_asking hd k es (i + 1) r h w
    · simp at h

theorem findKey_ok {t : TypeId} {d : TypeDesc} (hd : P.underlying t = some d) (k : Value) (es : List MapEntry) (w : World) : (Instr.findKey t k es).run P w = (Instr.findAsking t k es).run P w := by
  simp only [Instr.findKey, Sem.run_bind, run_underlying hd, Result.andThen_ok]
  split
  · rename_i r hr
    rw [findNow_asking hd k es 0 r hr w]
    rfl
  · rfl

/-- A map's entries, in memory. -/
structure EntsAt (ρ : Env) (es : List Entry) (m : List MapEntry) : Prop where
  born : m.map (·.born) = es.map (·.born)
  keys : conL ρ (es.map (·.key)) = some (m.map (·.key))
  vals : conL ρ (es.map (·.val)) = some (m.map (·.val))

theorem EntsAt.cons {ρ : Env} {e : Entry} {es : List Entry} {m : List MapEntry} (h : EntsAt ρ (e :: es) m) :
    ∃ e' m', m = e' :: m' ∧ con ρ e.key = some e'.key ∧ con ρ e.val = some e'.val ∧ e'.born = e.born ∧ EntsAt ρ es m' := by
  obtain ⟨h1, h2, h3⟩ := h
  cases m with
  | nil => simp at h1
  | cons e' m' =>
    simp only [List.map_cons, List.cons.injEq] at h1
    obtain ⟨x, hx, xs, hxs, hxe⟩ := conL_cons.1 h2
    obtain ⟨y, hy, ys, hys, hye⟩ := conL_cons.1 h3
    simp only [List.map_cons, List.cons.injEq] at hxe hye
    obtain ⟨rfl, rfl⟩ := hxe
    obtain ⟨rfl, rfl⟩ := hye
    exact ⟨e', m', rfl, hx, hy, h1.1, h1.2, hxs, hys⟩

theorem findK_ok {ρ : Env} {t : TypeId} {k : AV} {k' : Value} (hk : con ρ k = some k') : ∀ (es : List Entry) (m : List MapEntry) (i : Nat) (r : Option (Nat × Entry)), findK P t k es i = some r → EntsAt ρ es m →
    (match r with
      | none => ∀ w, (Instr.findAsking t k' m i).run P w = .ok none w
      | some (j, e) => ∃ n e', j = i + n ∧ es[n]? = some e ∧ m[n]? = some e' ∧ con ρ e.val = some e'.val ∧ ∀ w, (Instr.findAsking t k' m i).run P w = .ok (some (j, e'.val)) w)
  | [], m, i, r, h, hm => by
    simp only [findK, Option.some.injEq] at h
    subst h
    have : m = [] := by simpa using hm.born
    subst this
    intro w; rfl
  | e :: es, m, i, r, h, hm => by
    obtain ⟨e', m', rfl, h1, h2, h3, h4⟩ := hm.cons
    simp only [findK, bnd, undQ_eq, infoQ_eq, funcQ_eq] at h
    obtain ⟨b, hb, h⟩ := h
    have he : ∀ w, (Op.equal t k' e'.key).run P w = .ok b w := fun w => eqT_ok 20 10000 t k e.key b k' e'.key (by omega) hb hk h1 w
    cases b with
    | true =>
      simp only [Option.some.injEq] at h
      subst h
      exact ⟨0, e', by simp, by simp, by simp, h2, fun w => by simp [Instr.findAsking, he]⟩
    | false =>
      simp only at h
      have ih := findK_ok hk es m' (i + 1) r h h4
      cases r with
      | none =>
        simp only at ih ⊢
        intro w
        simp [Instr.findAsking, he, ih]
      | some p =>
        obtain ⟨j, e₁⟩ := p
        simp only at ih ⊢
        obtain ⟨n, e₂, hj, h5, h6, h7, h8⟩ := ih
        exact ⟨n + 1, e₂, by omega, by simpa using h5, by simpa using h6, h7, fun w => by simp [Instr.findAsking, he, h8]⟩

theorem asMap_ok {d : TypeDesc} {ke : TypeId × TypeId} (h : asMap d = some ke) : d = .map ke.1 ke.2 := by
  unfold asMap at h
  split at h
  · simp only [Option.some.injEq] at h; subst h; rfl
  · simp at h

theorem asSlice_ok {d : TypeDesc} {e : TypeId} (h : asSlice d = some e) : d = .slice e := by
  unfold asSlice at h
  split at h
  · simp only [Option.some.injEq] at h; subst h; rfl
  · simp at h

/-- A map in memory. -/
theorem Rel.mapAt {w₀ : World} {B : Nat} {ρ : Env} {h : AH} {w : World} (hr : Rel w₀ B ρ h w) {id : Nat} {m : List Entry × Nat} (e : h.mapOf id = some m) {l : Loc} (hl : ρ id = some l) :
    ∃ es, w.heap[l.blk]? = some (.map es m.2) ∧ EntsAt ρ m.1 es.toList := by
  obtain ⟨l', x, hl', hx, ho⟩ := hr.obj id _ (AH.mapOf_ok e)
  rw [hl] at hl'
  simp only [Option.some.injEq] at hl'
  subst hl'
  obtain ⟨es, rfl, h1, h2, h3⟩ := ho
  exact ⟨es, hx, h1, h2, h3⟩

theorem keyType {t : TypeId} {k : AV} (h : keyOk P 20 t k = true) : ∃ d, P.underlying t = some d := by
  unfold keyOk at h
  rw [undQ_eq] at h
  split at h
  · rename_i hu; exact ⟨_, hu⟩
  · rename_i hu; exact ⟨_, hu⟩
  · rename_i hu; exact ⟨_, hu⟩
  · simp at h

theorem con_tup2 {ρ : Env} {x y : AV} {x' y' : Value} (hx : con ρ x = some x') (hy : con ρ y = some y') : con ρ (.tup [x, y]) = some (.tuple #[x', y']) := by
  simp only [con, bnd, undQ_eq, infoQ_eq, funcQ_eq]; exact ⟨_, conL_cons.2 ⟨_, hx, _, conL_one hy, rfl⟩, rfl⟩

theorem lookup_ok {w₀ : World} {B : Nat} {ρ : Env} {h : AH} {w : World} (hr : Rel w₀ B ρ h w) {t : TypeId} {m k v : AV} {m' k' : Value} {ok : Bool} (hv : lookupAV P h t m k ok = some v) (hm : con ρ m = some m') (hk : con ρ k = some k') :
    ∃ z, con ρ v = some z ∧ (Instr.lookup t m' k' ok).run P w = .ok z w := by
  simp only [lookupAV, bnd, undQ_eq, infoQ_eq, funcQ_eq, grd_some] at hv
  obtain ⟨d, hd, ke, hke, es, hes, hkey, r, hf, hv⟩ := hv
  have := asMap_ok hke
  subst this
  obtain ⟨kd, hkd⟩ := keyType hkey
  -- the entries in memory
  have hent : ∃ (mes : Array MapEntry), EntsAt ρ es mes.toList ∧ (m' = .map none ∧ mes = #[] ∨ ∃ b clk, m' = .map (some b) ∧ (getObj b).run P w = .ok (.map mes clk) w) := by
    unfold entriesOf at hes
    split at hes
    · simp only [Option.some.injEq] at hes
      subst hes
      simp only [con, Option.some.injEq] at hm
      exact ⟨#[], ⟨rfl, conL_nil ρ, conL_nil ρ⟩, .inl ⟨hm.symm, rfl⟩⟩
    · simp only [bnd, undQ_eq, infoQ_eq, funcQ_eq, Option.some.injEq] at hes
      obtain ⟨x, hx, rfl⟩ := hes
      obtain ⟨l, hl, rfl⟩ := con_map hm
      obtain ⟨mes, h1, h2⟩ := hr.mapAt hx hl
      have hg : (getObj l.blk).run P w = .ok (.map mes x.2) w := by simp [getObj, Sem.run, h1]
      exact ⟨mes, h2, .inr ⟨l.blk, x.2, rfl, hg⟩⟩
    · simp at hes
  obtain ⟨mes, hme, hrun⟩ := hent
  have hck : ∀ em, (Instr.checkKey em 10000 ke.1 k').run P w = .ok () w := fun em => keyOk_ok em 20 10000 ke.1 k k' (by omega) hkey hk w
  have hfind := findK_ok hk es mes.toList 0 r hf hme
  cases r with
  | some p =>
    obtain ⟨j, e⟩ := p
    simp only [Option.some.injEq] at hv hfind
    obtain ⟨n, e', _, _, _, h7, h8⟩ := hfind
    subst hv
    refine ⟨match ok with | true => .tuple #[e'.val, .bool true] | false => e'.val, ?_, ?_⟩
    · cases ok
      · exact h7
      · exact con_tup2 h7 (con_b ρ true)
    · rcases hrun with ⟨rfl, rfl⟩ | ⟨b, clk, rfl, hg⟩
      · simp only [Instr.lookup, Sem.run_bind, run_underlying hd, Result.andThen_ok, hck, findKey_ok hkd, h8, Sem.run_pure]
        cases ok <;> rfl
      · simp only [Instr.lookup, Sem.run_bind, run_underlying hd, Result.andThen_ok, hg, hck, findKey_ok hkd, h8, Sem.run_pure]
        cases ok <;> rfl
  | none =>
    simp only [bnd, undQ_eq, infoQ_eq, funcQ_eq, Option.some.injEq] at hv hfind
    obtain ⟨z, hz, rfl⟩ := hv
    obtain ⟨zv, hzv, hzr⟩ := run_zeroValue' hz ρ
    refine ⟨match ok with | true => .tuple #[zv, .bool false] | false => zv, ?_, ?_⟩
    · cases ok
      · exact hzv
      · exact con_tup2 hzv (con_b ρ false)
    · rcases hrun with ⟨rfl, rfl⟩ | ⟨b, clk, rfl, hg⟩
      · simp only [Instr.lookup, Sem.run_bind, run_underlying hd, Result.andThen_ok, hck, findKey_ok hkd, hfind, Sem.run_pure, hzr]
        cases ok <;> rfl
      · simp only [Instr.lookup, Sem.run_bind, run_underlying hd, Result.andThen_ok, hg, hck, findKey_ok hkd, hfind, Sem.run_pure, hzr]
        cases ok <;> rfl

theorem natOf_ok {n : Int} {m : Nat} (h : natOf n = some m) : n = (m : Int) := by
  unfold natOf at h
  split at h
  · simp only [Option.some.injEq] at h; subst h; rfl
  · simp at h

/-- Cells that are bytes. -/
theorem bytesCode_ok {ρ : Env} : ∀ (l : List AV) (x : Nat × Nat) (xs : List Value), bytesCode l = some x → conL ρ l = some xs →
    ∃ ns : List Int, xs = ns.map (Value.int .u8) ∧ bytesN x.1 x.2 = ns.map (fun n => UInt8.ofNat n.toNat) ∧ x.1 = l.length
  | [], x, xs, h, hc => by
    simp only [bytesCode, Option.some.injEq] at h
    subst h
    exact ⟨[], by simpa using conL_nilI hc, rfl, rfl⟩
  | v :: l, x, xs, h, hc => by
    cases v with
    | int k b =>
      cases k <;> simp only [bytesCode, bnd, undQ_eq, infoQ_eq, funcQ_eq, reduceCtorEq, Option.some.injEq] at h
      obtain ⟨n, hn, y, hy, rfl⟩ := h
      obtain ⟨z, hz, zs, hzs, rfl⟩ := conL_cons.1 hc
      obtain ⟨ns, rfl, h2, h3⟩ := bytesCode_ok l y zs hy hzs
      rw [con_int hz, natOf_ok hn]
      refine ⟨(n : Int) :: ns, rfl, ?_, by simp [h3]⟩
      simp only [bytesN, List.map_cons, ← h2, Int.toNat_natCast]
      have h5 : n % 256 < 256 := Nat.mod_lt _ (by omega)
      rw [show (n % 256 + 256 * y.2) % 256 = n % 256 from by omega, show (n % 256 + 256 * y.2) / 256 = y.2 from by omega]
      congr 1
      apply UInt8.toNat_inj.1
      simp
    | _ => simp [bytesCode] at h

theorem isU8_ok {d : TypeDesc} (h : isU8 d = true) : d = .int .u8 := by
  unfold isU8 at h
  split at h
  · rfl
  · simp at h

theorem fold_push : ∀ (ns : List Int) (s : ByteArray), ns.foldl (fun r n => r.push (UInt8.ofNat n.toNat)) s = ⟨⟨s.data.toList ++ ns.map fun n => UInt8.ofNat n.toNat⟩⟩
  | [], s => by
    apply ByteArray.ext
    apply Array.ext'
    simp
  | n :: ns, s => by
    simp only [List.foldl_cons, fold_push ns]
    apply ByteArray.ext
    apply Array.ext'
    simp [ByteArray.push]

theorem bytes_ok {ρ : Env} {l : List AV} {x : Nat × Nat} {xs : List Value} (h : bytesCode l = some x) (hc : conL ρ l = some xs) {a : Addr} {len cap : Nat} {w : World} (hl : (loadCells a len).run P w = .ok ⟨xs⟩ w) :
    (Conv.bytesToString (.slice (some a) len cap)).run P w = .ok (.string (bytesOf x.1 x.2)) w := by
  obtain ⟨ns, rfl, h2, h3⟩ := bytesCode_ok l x xs h hc
  rw [run_bytesToString w a len cap ns hl, fold_push]
  unfold bytesOf
  rw [h2]
  rfl

theorem convRead_ok {w₀ : World} {B : Nat} {ρ : Env} {h : AH} {w : World} (hr : Rel w₀ B ρ h w) {s d : TypeId} {x v : AV} {x' : Value} (hv : convRead P h s d x = some v) (hx : con ρ x = some x') :
    ∃ z, con ρ v = some z ∧ (convert s d x').run P w = .ok z w := by
  simp only [convRead, bnd, undQ_eq, infoQ_eq, funcQ_eq] at hv
  obtain ⟨a, ha, b, hb, hv⟩ := hv
  split at hv
  · -- nil bytes
    simp only [bnd, undQ_eq, infoQ_eq, funcQ_eq, grd_some, Option.some.injEq] at hv
    obtain ⟨u, hu, h8, rfl⟩ := hv
    have := isU8_ok h8
    subst this
    simp only [con, Option.some.injEq] at hx
    subst hx
    refine ⟨_, con_s ρ _ _, ?_⟩
    rw [run_convert_bytes_string w s d _ _ _ _ ha hu hb]
    rfl
  · -- bytes
    simp only [bnd, undQ_eq, infoQ_eq, funcQ_eq, grd_some, Option.some.injEq] at hv
    obtain ⟨u, hu, h8, p, hp, r, hr', l, hl, y, hy, rfl⟩ := hv
    have := isU8_ok h8
    subst this
    obtain ⟨lc, cap, hlc, rfl⟩ := asSl_ok (id := p.1) (off := p.2.1) (len := p.2.2) hp hx
    obtain ⟨c, fr, hrow⟩ := hr.row hr' hlc
    obtain ⟨xs, h1, _, _, h3⟩ := readRow_ok (P := P) hrow hl
    refine ⟨_, con_s ρ _ _, ?_⟩
    rw [run_convert_bytes_string w s d _ _ _ _ ha hu hb]
    exact bytes_ok hy h1 h3
  · -- to unsafe.Pointer
    simp only [bnd, undQ_eq, infoQ_eq, funcQ_eq, grd_some, Bool.and_eq_true, Bool.not_eq_true', nblt, Option.some.injEq] at hv
    obtain ⟨r, hr', n, hn, ⟨⟨hg, h0⟩, hlt⟩, rfl⟩ := hv
    rename_i t id off
    obtain ⟨l, hl, rfl⟩ := con_ptr hx
    obtain ⟨c, fr, hrow⟩ := hr.row hr' hl
    have hsz := hrow.fixed hg
    obtain ⟨y, hy⟩ : ∃ y, c[off]? = some y := ⟨c[off]'(by omega), Array.getElem?_eq_getElem (by omega)⟩
    refine ⟨_, hx, ?_⟩
    obtain ⟨i, hi, hin⟩ := sizeT_info hn
    have hd0 : decide (i.size = 0) = false := by rw [hin]; exact decide_eq_false (by omega)
    exact run_convert_to_unsafe ha hb (by rw [hi, Option.map_some, hd0]) (v := y) (by rw [cell_of hrow.heap]; exact hy)
  · -- back
    rename_i u id off
    simp only [bnd, undQ_eq, infoQ_eq, funcQ_eq, grd_some, Bool.and_eq_true, Bool.not_eq_true', Option.some.injEq] at hv
    obtain ⟨r, hr', n, hn', ⟨hg, hlie⟩, rfl⟩ := hv
    obtain ⟨l, hl, rfl⟩ := con_ptr hx
    obtain ⟨c, fr, hrow⟩ := hr.row hr' hl
    have hsz := hrow.fixed hg
    refine ⟨_, hx, ?_⟩
    have hsh : w.shape? l.blk = some (r.elem, c.size) := by simp [World.shape?, hrow.heap]
    have hva : (variablesAt ⟨l.blk, off, none⟩ u 1).run P w = .ok true w := by
      simp only [variablesAt, Sem.run_bind, run_program, Result.andThen_ok, run_shape, hsh, Sem.run_pure, hsz, hlie]
    have hsa : (Conv.seenAt ⟨l.blk, off, none⟩).run P w = .ok ⟨l.blk, off, none⟩ w := by
      simp [Conv.seenAt, viewAt, hsh]
    have hn := run_sizeOf' hn' w
    simp only [convert, Sem.run_bind, run_underlying ha, run_underlying hb, Result.andThen_ok, Conv.unsafePointer, hsa, hn, hva]
    by_cases e : n = 0 <;> simp [e]
  · simp at hv
theorem extRead_ok {w₀ : World} {B : Nat} {ρ : Env} {h : AH} {w : World} (hr : Rel w₀ B ρ h w) {e : Ext} {fn : Func} {d : Array Value → Sem Value} {args : List AV} {args' : List Value} {v : AV}
    (hv : extRead h e args = some v) (ha : conL ρ args = some args') (hd : e.does fn d) : ∃ z, con ρ v = some z ∧ (d ⟨args'⟩).run P w = .ok z w := by
  unfold extRead at hv
  split at hv
  · simp only [bnd, undQ_eq, infoQ_eq, funcQ_eq, grd_some, nblt] at hv
    obtain ⟨r, hr', hlt, u, hu, hv⟩ := hv
    obtain ⟨x', hx, rfl⟩ := conL1 ha
    obtain ⟨l, hl, rfl⟩ := con_ptr hx
    obtain ⟨c, fr, hrow⟩ := hr.row hr' hl
    split at hv
    · simp only [Option.some.injEq] at hv
      subst hv
      obtain ⟨y, hy, hy'⟩ := hrow.cells _ hlt _ hu
      rw [con_int hy] at hy'
      simp only [Ext.does] at hd
      subst hd
      refine ⟨_, con_i ρ _ _, ?_⟩
      show Sem.run P (do Extern.Atomic.read (.int .u32) (← asAddr (.pointer (some ⟨l.blk, _, none⟩)))) w = _
      simp only [asAddr, Sem.run_bind, Sem.run_pure, Result.andThen_ok, Extern.Atomic.read, run_load, cell_of hrow.heap, hy', if_true]
    · simp at hv
  · simp at hv

theorem sliceRead_ok {w₀ : World} {B : Nat} {ρ : Env} {h : AH} {w : World} (hr : Rel w₀ B ρ h w) {t : TypeId} {x v : AV} {lo : Option AV} {hi : AV} {x' hi' : Value} {lo' : Option Value}
    (hv : sliceRead P h t x lo hi = some v) (hx : con ρ x = some x') (hlo : ConO ρ lo lo') (hhi : con ρ hi = some hi') :
    ∃ z, con ρ v = some z ∧ (Instr.sliceAt t x' lo' (some hi') none).run P w = .ok z w := by
  simp only [sliceRead, bnd, undQ_eq, infoQ_eq, funcQ_eq] at hv
  obtain ⟨d, hd, e, he, hv⟩ := hv
  have := asSlice_ok he
  subst this
  split at hv
  · rename_i id off len sz
    simp only [bnd, undQ_eq, infoQ_eq, funcQ_eq, grd_some, Bool.and_eq_true, nbeq, nblt, nble, Option.some.injEq] at hv
    obtain ⟨r, hr', n, hn, hh, hhn, l, hl, ⟨⟨⟨⟨hg, rfl⟩, h0⟩, hle⟩, hlt⟩, rfl⟩ := hv
    obtain ⟨lc, hlc, hcap, rfl⟩ := con_slo hx
    obtain ⟨c, fr, hrow⟩ := hr.row hr' hlc
    have hge := hrow.grow hg
    have hcap2 : hh ≤ (lc.ce - off) / n := by
      rw [Nat.le_div_iff_mul_le h0]
      omega
    have hb := bounds_open (P := P) (len := len) (hi := some hi) (hi' := some hi') (y := hh) true hlo ⟨fun v hv => by simp only [Option.some.injEq] at hv; subst hv; exact ⟨_, rfl, hhi⟩, by simp⟩ (by simp [boundAV, hhn, grd, nble.2]) hl hcap2
    refine ⟨.slice (some ⟨lc.blk, off + l * n, none⟩) (hh - l) ((lc.ce - off) / n - l), ?_, ?_⟩
    · simp only [con, bnd, undQ_eq, infoQ_eq, funcQ_eq]
      refine ⟨lc, hlc, ?_⟩
      unfold openSlice
      rw [open_shift, if_pos (by omega)]
    · simp only [Instr.sliceAt, Instr.slice, Sem.run_bind, run_underlying hd, Result.andThen_ok, hb, run_sizeOf' hn, Sem.run_pure]
      have e : (lc.ce - off) / n ≠ l := by omega
      simp [e, add_plain]
  · simp at hv

variable {ext : Exts}

theorem read0_ok (hx : ExtOk P ext) {w₀ : World} {B : Nat} {ρ : Env} {h : AH} {w : World} (hr : Rel w₀ B ρ h w) {tm : TM} {a : Act} {o : Oper} {v : AV} (he : EvOk ρ tm a o.op.operands.toList) (hv : readOp0 P ext tm h o.op = some v) :
    ∃ z, con ρ v = some z ∧ (execOp a.eval o).run P w = .ok (.value z) w := by
  obtain ⟨dst, op, type, pos, after, guard⟩ := o
  simp only at he hv
  unfold readOp0 at hv
  split at hv
  case h_1 t x =>
    simp only [bnd, undQ_eq, infoQ_eq, funcQ_eq] at hv
    obtain ⟨xv, hxv, hv⟩ := hv
    have h1 := ev_ok he (by simp [Op.operands]) hxv
    obtain ⟨z, hz, hzr⟩ := load_ok (P := P) hr hv h1
    exact ⟨z, hz, by simp [execOp, hzr]⟩
  case h_2 t m k ok =>
    simp only [bnd, undQ_eq, infoQ_eq, funcQ_eq] at hv
    obtain ⟨mv, hm, kv, hk, hv⟩ := hv
    have h1 := ev_ok he (by simp [Op.operands]) hm
    have h2 := ev_ok he (by simp [Op.operands]) hk
    obtain ⟨z, hz, hzr⟩ := lookup_ok hr hv h1 h2
    exact ⟨z, hz, by simp [execOp, hzr]⟩
  case h_3 t x lo hi =>
    simp only [bnd, undQ_eq, infoQ_eq, funcQ_eq] at hv
    obtain ⟨xv, hxv, l, hl, hiv, hhi, hv⟩ := hv
    have h1 := ev_ok he (by simp [Op.operands]) hxv
    have h2 := ev_ok he (by simp [Op.operands]) hhi
    have c1 := evOpt_ok he (fun o ho => by simp [Op.operands, ho]) hl
    obtain ⟨z, hz, hzr⟩ := sliceRead_ok hr hv h1 c1 h2
    exact ⟨z, hz, by simp [execOp, hzr]⟩
  case h_4 s d x =>
    simp only [bnd, undQ_eq, infoQ_eq, funcQ_eq] at hv
    obtain ⟨xv, hxv, hv⟩ := hv
    have h1 := ev_ok he (by simp [Op.operands]) hxv
    obtain ⟨z, hz, hzr⟩ := convRead_ok hr hv h1
    exact ⟨z, hz, by simp [execOp, hzr]⟩
  case h_5 x t ts =>
    simp only [bnd, undQ_eq, infoQ_eq, funcQ_eq] at hv
    obtain ⟨d, hd, ke, hke, xv, hxv, hv⟩ := hv
    have := asMap_ok hke
    subst this
    have h1 := ev_ok he (by simp [Op.operands, Call.operands]) hxv
    split at hv
    · simp only [bnd, undQ_eq, infoQ_eq, funcQ_eq, Option.some.injEq] at hv
      obtain ⟨es, hes, rfl⟩ := hv
      obtain ⟨l, hl, hle⟩ := con_map h1
      obtain ⟨mes, hm1, hm2⟩ := hr.mapAt hes hl
      have hg : (getObj l.blk).run P w = .ok (.map mes es.2) w := by simp [getObj, Sem.run, hm1]
      have hlen : mes.size = es.1.length := by
        have := congrArg List.length hm2.born
        simpa using this
      refine ⟨_, con_i ρ _ _, ?_⟩
      simp [execOp, resolve, invoke, builtin, Builtin.len_, run_underlying hd, hle, hg, goInt, hlen]
    · simp at hv
  case h_6 f as ts =>
    simp only [bnd, undQ_eq, infoQ_eq, funcQ_eq] at hv
    obtain ⟨e, hee, l, hl, hv⟩ := hv
    have h1 := evL_ok he (fun x hx => by simp [Op.operands, Call.operands, hx]) hl
    obtain ⟨fn, d, hf, hd, hrun⟩ := run_ext hx hee
    obtain ⟨z, hz, hz'⟩ := extRead_ok (P := P) hr hv h1 hd
    refine ⟨z, hz, ?_⟩
    simp only [execOp]
    rw [resolve_func, hrun, hz']
    rfl
  case h_7 => simp at hv

theorem atoms_con {ρ : Env} : ∀ (l : List AV) (xs : List Value) (ns : List UInt8), conL ρ l = some xs → l.map atom = ns.map (fun b => some (Atom.int .u8 b.toNat)) → xs = ns.map fun b => Value.int .u8 ((b.toNat : Nat) : Int)
  | [], xs, ns, h1, h => by
    have := conL_nilI h1
    subst this
    cases ns with
    | nil => rfl
    | cons n ns => simp at h
  | y :: l, xs, ns, h1, h => by
    cases ns with
    | nil => simp at h
    | cons n ns =>
      simp only [List.map_cons, List.cons.injEq] at h
      obtain ⟨z, hz, zs, hzs, rfl⟩ := conL_cons.1 h1
      have := atom_con h.1 hz
      rw [atoms_con l zs ns hzs h.2, this]
      rfl

theorem oraBytes_ok (ho : OraOk ext.ora) {w₀ : World} {B : Nat} {ρ : Env} {h : AH} {w : World} (hr : Rel w₀ B ρ h w) {s d : TypeId} {x v : AV} {x' : Value} (hv : oraBytes P ext h s d x = some v) (hx : con ρ x = some x') :
    ∃ z, con ρ v = some z ∧ (convert s d x').run P w = .ok z w := by
  simp only [oraBytes, bnd, undQ_eq] at hv
  obtain ⟨a, ha, b, hb, e, he, u, hu, hv⟩ := hv
  have hs : a = .slice e := by cases a <;> simp [asSlice] at he ⊢; exact he
  subst hs
  split at hv
  · simp only [grd_some, bnd] at hv
    obtain ⟨h8, p, hp, r, hr', l, hl, hy⟩ := hv
    have := isU8_ok h8
    subst this
    obtain ⟨lc, cap, hlc, rfl⟩ := asSl_ok (id := p.1) (off := p.2.1) (len := p.2.2) hp hx
    obtain ⟨c, fr, hrow⟩ := hr.row hr' hlc
    obtain ⟨xs, h1, _, _, h3⟩ := readRow_ok (P := P) hrow hl
    obtain ⟨ns, hns, hv'⟩ := ho.bytes _ _ hy
    have hxs := atoms_con l xs ns h1 hns
    refine ⟨_, atom_some ρ hv', ?_⟩
    rw [run_convert_bytes_string w s d _ _ _ _ ha hu hb]
    subst hxs
    have h3' : (loadCells ⟨lc.blk, p.2.1, none⟩ p.2.2).run P w = .ok ⟨(ns.map fun b => ((b.toNat : Nat) : Int)).map (Value.int .u8)⟩ w := by
      rw [List.map_map]; exact h3
    rw [run_bytesToString w _ _ cap _ h3', fold_push]
    simp [Atom.val, Function.comp_def]
  · simp at hv

theorem read_ok (hx : ExtOk P ext) {w₀ : World} {B : Nat} {ρ : Env} {h : AH} {w : World} (hr : Rel w₀ B ρ h w) {tm : TM} {a : Act} {o : Oper} {v : AV} (he : EvOk ρ tm a o.op.operands.toList) (hv : readOp P ext tm h o.op = some v) :
    ∃ z, con ρ v = some z ∧ (execOp a.eval o).run P w = .ok (.value z) w := by
  rcases orV_some hv with hv | hv
  · exact read0_ok hx hr he hv
  · obtain ⟨dst, op, type, pos, after, guard⟩ := o
    simp only at he hv
    unfold oraRead at hv
    split at hv
    · simp only [bnd] at hv
      obtain ⟨xv, hxv, hv⟩ := hv
      have h1 := ev_ok he (by simp [Op.operands]) hxv
      obtain ⟨z, hz, hzr⟩ := oraBytes_ok hx.ora hr hv h1
      exact ⟨z, hz, by simp [execOp, hzr]⟩
    · simp at hv
end Go.Sim
