/- The evaluator, its soundness, eighth part: what else acts on memory. -/
import Derived.Test.YtenlpijbhhfahaaGreatDoorSimI
set_option linter.all false
set_option maxHeartbeats 2000000
namespace Go.Sim
variable [Sig]
variable {P : Program}

theorem findBorn_ok {ρ : Env} (b : Nat) : ∀ (es : List Entry) (m : List MapEntry) (i : Nat) (r : Nat × Entry), findBorn b es i = some r → EntsAt ρ es m →
    ∃ n e', r.1 = i + n ∧ es[n]? = some r.2 ∧ m[n]? = some e' ∧ m.findIdx? (fun e => (e.born : Int) == (b : Int)) = some n
  | [], _, _, _, h, _ => by simp [findBorn] at h
  | e :: es, m, i, r, h, hm => by
    obtain ⟨e', m', rfl, h1, h2, h3, h4⟩ := hm.cons
    simp only [findBorn] at h
    cases hb : Nat.beq e.born b with
    | true =>
      rw [hb] at h
      simp only [Option.some.injEq] at h
      subst h
      have := nbeq.1 hb
      exact ⟨0, e', rfl, rfl, rfl, by simp [List.findIdx?_cons, h3, this]⟩
    | false =>
      rw [hb] at h
      obtain ⟨n, e₂, g1, g2, g3, g4⟩ := findBorn_ok b es m' (i + 1) r h h4
      have := nbeq_f.1 hb
      refine ⟨n + 1, e₂, by omega, by simpa using g2, by simpa using g3, ?_⟩
      have hne : ¬ ((e'.born : Int) = (b : Int)) := by omega
      simp [List.findIdx?_cons, hne, g4]

theorem entryStore_ok {w₀ : World} {B : Nat} {ρ : Env} {h h' : AH} {w : World} (hr : Rel w₀ B ρ h w) (t : TypeId) {m s v : AV} {m' s' v' : Value} (hu : entryStoreAV h m s v = some h') (hm : con ρ m = some m') (hs : con ρ s = some s') (hv : con ρ v = some v') :
    ∃ w', (Instr.entryStore t m' s' v').run P w = .ok () w' ∧ Adv w₀ B ρ h w ρ h' w' := by
  unfold entryStoreAV at hu
  split at hu
  · simp only [bnd, undQ_eq, infoQ_eq, funcQ_eq, Option.some.injEq] at hu
    rename_i id
    obtain ⟨b, hb, es, hes, p, hp, rfl⟩ := hu
    obtain ⟨l, hl, rfl⟩ := con_map hm
    obtain ⟨mes, hm1, hm2⟩ := hr.mapAt hes hl
    have hg : (getObj l.blk).run P w = .ok (.map mes es.2) w := by simp [getObj, Sem.run, hm1]
    obtain ⟨k, rfl⟩ := asNat_ok hb hs
    obtain ⟨n, e', h1, h2, h3, h4⟩ := findBorn_ok b es.1 mes.toList 0 p hp hm2
    rw [Nat.zero_add] at h1
    subst h1
    have h3' : mes[p.1]? = some e' := by simpa using h3
    have h4' : mes.findIdx? (fun e => (e.born : Int) == (b : Int)) = some p.1 := by
      rw [← h4]
      rw [← List.findIdx?_toArray]
    obtain ⟨w', hw, ht⟩ := run_setObj_map (P := P) (.map (mes.modify p.1 fun e => { e with val := v' }) es.2) hm1
    have hpp := hm2.set h2 h3' hv (f := fun e => { e with val := v' }) rfl
    refine ⟨w', ?_, hr.put (AH.mapOf_ok hes) hl ⟨_, rfl, hpp.born, hpp.keys, hpp.vals⟩ ht⟩
    simp [Instr.entryStore, hg, asInt, asIntOf, h4', hw]
  · simp at hu

theorem run_setObj_iter {w : World} {b : Nat} {s : ByteArray} {p : Nat} (o : Obj) (h : w.heap[b]? = some (.stringIter s p)) :
    ∃ w', (setObj b o).run P w = .ok () w' ∧ Turned b o w w' := by
  refine ⟨{ w with heap := w.heap.setIfInBounds b o }, by simp [setObj, Sem.run, h], by simp, ?_, ?_, rfl, rfl, rfl⟩
  · have : b < w.heap.size := (Array.getElem?_eq_some_iff.1 h).1
    simp [this]
  · intro j hj
    simp [Ne.symm hj]

theorem decode_ascii (n c i : Nat) (hi : i < n) (h : byteAt c i < 128) : Utf8.decode (bytesOf n c) i = (byteAt c i, 1) := by
  have hg : (bytesOf n c).get! i = UInt8.ofNat (byteAt c i) := by
    show (({ toList := bytesN n c } : Array UInt8)[i]!) = _
    rw [Array.getElem!_eq_getD, Array.getD_eq_getD_getElem?, ← Array.getElem?_toList, bytesN_get n c i hi]
    rfl
  have hb : ((bytesOf n c).get! (i + 0)).toNat = byteAt c i := by
    rw [Nat.add_zero, hg, UInt8.toNat_ofNat']
    exact Nat.mod_eq_of_lt (by omega)
  unfold Utf8.decode
  simp only [hb]
  rw [if_pos h]

theorem con_tup {ρ : Env} {l : List AV} {xs : List Value} (h : conL ρ l = some xs) : con ρ (.tup l) = some (.tuple ⟨xs⟩) := by simp [con, h]

theorem nextStr_ok {w₀ : World} {B : Nat} {ρ : Env} {h : AH} {w : World} (hr : Rel w₀ B ρ h w) {id : Nat} {r : AV × AH} {it : Value} (t : TypeId) (hu : nextStr h id = some r) (hi : con ρ (.ptr id 0) = some it) :
    ∃ z w', (Instr.next it true t).run P w = .ok z w' ∧ con ρ r.1 = some z ∧ Adv w₀ B ρ h w ρ r.2 w' := by
  obtain ⟨l, hl, rfl⟩ := con_ptr hi
  unfold nextStr at hu
  split at hu
  · rename_i n code pos ho
    obtain ⟨l', x, hl', hx, hob⟩ := hr.obj id _ ho
    rw [hl] at hl'
    simp only [Option.some.injEq] at hl'
    subst hl'
    have hob : x = .stringIter (bytesOf n code) pos := hob
    subst hob
    have hg : (getObj l.blk).run P w = .ok (.stringIter (bytesOf n code) pos) w := by simp [getObj, Sem.run, hx]
    split at hu
    · rename_i hlt
      simp only [Option.some.injEq] at hu
      subst hu
      have : ¬ pos < n := by have := nblt_f.1 hlt; omega
      refine ⟨.tuple #[.bool false], w, ?_, ?_, Adv.refl hr⟩
      · simp [Instr.next, hg, bytesOf_size, this]
      · exact con_tup (conL_one (con_b ρ false))
    · rename_i hlt
      have hlt := nblt.1 hlt
      simp only [grd_some, nblt, Option.some.injEq] at hu
      obtain ⟨hasc, rfl⟩ := hu
      obtain ⟨w', hw, ht⟩ := run_setObj_iter (P := P) (.stringIter (bytesOf n code) (pos + 1)) hx
      refine ⟨.tuple #[.bool true, .int .i64 pos, .int .i32 ((byteAt code pos : Nat) : Int)], w', ?_, ?_, hr.put ho hl rfl ht⟩
      · simp [Instr.next, hg, bytesOf_size, hlt, decode_ascii n code pos hlt hasc, hw, goInt]
      · exact con_tup (conL_cons.2 ⟨_, con_b ρ _, _, conL_cons.2 ⟨_, con_i ρ _ _, _, conL_one (con_i ρ _ _), rfl⟩, rfl⟩)
  · simp at hu

/-- The cells of the first elements of a slice, or of a string. -/
theorem firstCells_ok {w₀ : World} {B : Nat} {ρ : Env} {h : AH} {w : World} (hr : Rel w₀ B ρ h w) {size n m : Nat} {x : AV} {x' : Value} {l : List AV} (hf : firstCells h size n x = some l) (hn : lenOf x = some m) (hle : n ≤ m) (hx : con ρ x = some x') :
    ∃ xs, conL ρ l = some xs ∧ ∀ d, (Builtin.firstCells size n x').run P { w with drawn := d } = .ok ⟨xs⟩ { w with drawn := d } := by
  unfold firstCells at hf
  split at hf
  · simp only [Option.some.injEq] at hf
    subst hf
    simp only [con, Option.some.injEq] at hx
    subst hx
    exact ⟨[], conL_nil ρ, fun d => rfl⟩
  · simp only [Option.some.injEq] at hf
    subst hf
    simp only [lenOf, Option.some.injEq] at hn
    subst hn
    obtain rfl : n = 0 := by omega
    obtain ⟨l, hl, _, rfl⟩ := con_sle hx
    refine ⟨[], conL_nil ρ, fun d => ?_⟩
    simp [Builtin.firstCells, loadCells, loadCellsFrom]
  · simp only [grd_some, nbeq, Option.some.injEq] at hf
    obtain ⟨rfl, rfl⟩ := hf
    simp only [lenOf, Option.some.injEq] at hn
    subst hn
    rename_i len code
    have := con_str hx
    subst this
    refine ⟨_, bytesL_con ρ n code, fun d => ?_⟩
    have he : (bytesOf len code).extract 0 n = bytesOf n code := by
      rw [extract_bytes len code 0 n (by omega) hle]
      simp
    simp only [Builtin.firstCells, he, Sem.run_pure]
    congr 1
    apply Array.toList_inj.1
    simp [bytesOf]
  · simp only [bnd, undQ_eq, infoQ_eq, funcQ_eq] at hf
    obtain ⟨p, hp, r, hrow, hread⟩ := hf
    obtain ⟨id, off, len⟩ := p
    obtain ⟨lc, c, hlc, rfl⟩ := asSl_ok hp hx
    obtain ⟨cs, fr, hra⟩ := hr.row hrow hlc
    obtain ⟨xs, h1, _, _, _⟩ := readRow_ok (P := P) hra hread
    refine ⟨xs, h1, fun d => ?_⟩
    have hra' : RowAt ρ r lc { w with drawn := d } cs fr := ⟨hra.heap, hra.grow, hra.fixed, hra.cells, hra.frozen⟩
    obtain ⟨ys, h2, _, _, h3⟩ := readRow_ok (P := P) hra' hread
    rw [h1] at h2
    simp only [Option.some.injEq] at h2
    subst h2
    exact h3

theorem lenOf_ok {ρ : Env} {x : AV} {n : Nat} {x' : Value} (h : lenOf x = some n) (hx : con ρ x = some x') : ∀ w, (Builtin.lenOf x').run P w = .ok n w := by
  unfold lenOf at h
  split at h
  · simp only [Option.some.injEq] at h; subst h
    simp only [con, Option.some.injEq] at hx
    subst hx
    intro w; rfl
  · simp only [Option.some.injEq] at h; subst h
    obtain ⟨l, _, _, rfl⟩ := con_sle hx
    intro w; rfl
  · simp only [Option.some.injEq] at h; subst h
    obtain ⟨l, _, rfl⟩ := con_sl hx
    intro w; rfl
  · simp only [Option.some.injEq] at h; subst h
    obtain ⟨l, _, _, rfl⟩ := con_slo hx
    intro w; rfl
  · simp only [Option.some.injEq] at h; subst h
    have := con_str hx
    subst this
    intro w
    simp [Builtin.lenOf, bytesOf_size]
  · simp at h

theorem asSl_lenOf {x : AV} {p : Nat × Nat × Nat} (h : asSl x = some p) : lenOf x = some p.2.2 := by
  unfold asSl at h
  split at h
  · simp only [Option.some.injEq] at h; subst h; rfl
  · simp only [Option.some.injEq] at h; subst h; rfl
  · simp at h

theorem copy_ok {w₀ : World} {B : Nat} {ρ : Env} {h : AH} {w : World} (hr : Rel w₀ B ρ h w) {ts : List TypeId} (ty : TypeId) {d s : AV} {r : AV × AH} {d' s' : Value} (hu : copyAV P h ts d s = some r) (hd : con ρ d = some d') (hs : con ρ s = some s') :
    ∃ z w', (Builtin.copy_ ⟨ts⟩ ty #[d', s']).run P w = .ok z w' ∧ con ρ r.1 = some z ∧ Adv w₀ B ρ h w ρ r.2 w' := by
  unfold copyAV at hu
  split at hu
  · simp only [bnd, undQ_eq, infoQ_eq, funcQ_eq, grd_some, nbeq] at hu
    obtain ⟨td, htd, e, he, size, hsz, sl, hsl, dl, hdl, new, hnew, hlen, hu⟩ := hu
    have := asSlice_ok he
    subst this
    obtain ⟨xs, hxs, hf⟩ := firstCells_ok (P := P) hr hnew hsl (Nat.min_le_left _ _) hs
    have hf := hf w.drawn
    have hl1 := lenOf_ok (P := P) hsl hs
    rename_i t tl
    split at hu
    · simp only [Option.some.injEq] at hu
      subst hu
      simp only [lenOf, Option.some.injEq] at hdl
      subst hdl
      simp only [con, Option.some.injEq] at hd
      subst hd
      have hm : min sl 0 = 0 := Nat.min_zero sl
      rw [hm] at hf
      refine ⟨.int .i64 0, w, ?_, con_i ρ _ _, Adv.refl hr⟩
      simp [Builtin.copy_, run_underlying htd, hl1, run_sizeOf' hsz, hf, goInt]
    · simp only [bnd, undQ_eq, infoQ_eq, funcQ_eq, Option.some.injEq] at hu
      obtain ⟨p, hp, h', hw, rfl⟩ := hu
      have hdl' := asSl_lenOf hp
      rw [hdl] at hdl'
      simp only [Option.some.injEq] at hdl'
      subst hdl'
      obtain ⟨id, off, len⟩ := p
      obtain ⟨l, c, hl, rfl⟩ := asSl_ok hp hd
      obtain ⟨w', hst, hadv⟩ := writeRow_ok (P := P) hr hw hl hxs
      refine ⟨.int .i64 ((min sl len : Nat) : Int), w', ?_, con_i ρ _ _, hadv⟩
      simp only at hst hf
      simp [Builtin.copy_, run_underlying htd, hl1, run_sizeOf' hsz, hf, hst, goInt]
  · simp at hu

theorem run_zeroCells (zs : List Value) (n : Nat) : Builtin.zeroCells ⟨zs⟩ n = ⟨zerosV zs n⟩ := zeros_eq zs n

theorem clear_ok {w₀ : World} {B : Nat} {ρ : Env} {h h' : AH} {w : World} (hr : Rel w₀ B ρ h w) {ts : List TypeId} (ty : TypeId) {x : AV} {x' : Value} (hu : clearAV P h ts x = some h') (hx : con ρ x = some x') :
    ∃ w', (Builtin.clear_ ⟨ts⟩ ty #[x']).run P w = .ok (.tuple #[]) w' ∧ Adv w₀ B ρ h w ρ h' w' := by
  unfold clearAV at hu
  split at hu
  · simp only [bnd, undQ_eq, infoQ_eq, funcQ_eq] at hu
    obtain ⟨td, htd, e, he, hu⟩ := hu
    have := asSlice_ok he
    subst this
    split at hu
    · simp only [Option.some.injEq] at hu
      subst hu
      simp only [con, Option.some.injEq] at hx
      subst hx
      exact ⟨w, by simp [Builtin.clear_, run_underlying htd], Adv.refl hr⟩
    · simp only [Option.some.injEq] at hu
      subst hu
      obtain ⟨l, _, _, rfl⟩ := con_sle hx
      exact ⟨w, by simp [Builtin.clear_, run_underlying htd], Adv.refl hr⟩
    · simp only [bnd, undQ_eq, infoQ_eq, funcQ_eq, grd_some, nbeq] at hu
      obtain ⟨p, hp, size, hsz, z, hz, hzl, hu⟩ := hu
      obtain ⟨id, off, len⟩ := p
      obtain ⟨l, c, hl, rfl⟩ := asSl_ok hp hx
      split at hu
      · rename_i h0
        simp only [Option.some.injEq] at hu
        subst hu
        have := nbeq.1 h0
        simp only at this
        subst this
        exact ⟨w, by simp [Builtin.clear_, run_underlying htd], Adv.refl hr⟩
      · rename_i h0
        have := nbeq_f.1 h0
        simp only at this
        obtain ⟨i, zv, hi, hzv, hc⟩ := zeroL_ok hz ρ
        obtain ⟨w', hst, hadv⟩ := writeRow_ok (P := P) hr hu hl (conL_zeros hc len)
        refine ⟨w', ?_, hadv⟩
        have hzc := run_zeroCells zv.cells.toList len
        obtain ⟨k, rfl⟩ : ∃ k, len = k + 1 := ⟨len - 1, by omega⟩
        have hzc' : Builtin.zeroCells zv.cells (k + 1) = ⟨zerosV zv.cells.toList (k + 1)⟩ := hzc
        simp [Builtin.clear_, run_underlying htd, zeroValue, run_typeInfo' hi, hzv, hzc', hst]
  · simp at hu

theorem writeOne_ok {w₀ : World} {B : Nat} {ρ : Env} {h h' : AH} {w : World} (hr : Rel w₀ B ρ h w) {id off : Nat} {l : Loc} {v : AV} {x : Value} (hw : writeRow h id off [v] = some h') (hl : ρ id = some l)
    (hc : con ρ v = some x) : ∃ w', (∀ m, (store ⟨l.blk, off, none⟩ x m).run P w = .ok () w') ∧ (∃ u, w.cell? ⟨l.blk, off, none⟩ = some u) ∧ w.frozen? ⟨l.blk, off, none⟩ = false ∧ Adv w₀ B ρ h w ρ h' w' := by
  obtain ⟨w', h1, h2⟩ := writeRow_ok (P := P) hr hw hl (conL_one hc)
  simp only [writeRow, bnd, undQ_eq, infoQ_eq, funcQ_eq, grd_some, Bool.and_eq_true, Bool.not_eq_true', nble, Option.some.injEq] at hw
  obtain ⟨r, hrow, ⟨⟨hz, h3⟩, hle⟩, -⟩ := hw
  obtain ⟨c, fr, hra⟩ := hr.row hrow hl
  have hcs := hra.le
  simp only [List.length_cons, List.length_nil] at hle
  have hlt : off < c.size := by omega
  have h1c : x.oneCell' = true := con_one hc (by simpa [allOne] using h3)
  have hcell : w.cell? ⟨l.blk, off, none⟩ = some c[off] := by rw [cell_of hra.heap]; simp [hlt]
  have hfz : w.frozen? ⟨l.blk, off, none⟩ = false := by
    have := hra.frozen hz off hlt
    simp only [World.frozen?, hra.heap]
    simp
    omega
  refine ⟨w', fun m => ?_, ⟨_, hcell⟩, hfz, h2⟩
  have hadd : (⟨l.blk, off, none⟩ : Addr).add 0 = ⟨l.blk, off, none⟩ := by simp [Addr.add]
  simp only [storeCells, hadd, Sem.run_bind, run_store P w _ x _ h1c, hcell, hfz, Bool.false_eq_true, if_false, Result.andThen_ok, Sem.run_pure] at h1
  rw [run_store P w _ x _ h1c, hcell]
  simp only [hfz, Bool.false_eq_true, if_false]
  exact h1

theorem cell_now {w₀ : World} {B : Nat} {ρ : Env} {h h' : AH} {w : World} (hr : Rel w₀ B ρ h w) {id off : Nat} {r : Row} {l : Loc} {v u : AV} (hrow : h.row id = some r) (hl : ρ id = some l) (hv : r.cells.get off = some v)
    (hw : writeRow h id off [u] = some h') {x : Value} (hx : con ρ v = some x) : w.cell? ⟨l.blk, off, none⟩ = some x := by
  simp only [writeRow, bnd, undQ_eq, infoQ_eq, funcQ_eq, grd_some, Bool.and_eq_true, nble, Option.some.injEq, List.length_cons, List.length_nil] at hw
  obtain ⟨r', hrow', ⟨_, hle⟩, -⟩ := hw
  rw [hrow] at hrow'
  simp only [Option.some.injEq] at hrow'
  subst hrow'
  obtain ⟨c, fr, hra⟩ := hr.row hrow hl
  obtain ⟨y, hy, hy'⟩ := hra.cells off (by omega) v hv
  rw [hx] at hy
  simp only [Option.some.injEq] at hy
  subst hy
  rw [cell_of hra.heap]
  exact hy'

theorem extEff_ok {w₀ : World} {B : Nat} {ρ : Env} {h : AH} {w : World} (hr : Rel w₀ B ρ h w) {e : Ext} {fn : Func} {d : Array Value → Sem Value} {args : List AV} {args' : List Value} {r : AV × AH}
    (hv : extEff h e args = some r) (ha : conL ρ args = some args') (hd : e.does fn d) : ∃ z w', con ρ r.1 = some z ∧ (d ⟨args'⟩).run P w = .ok z w' ∧ Adv w₀ B ρ h w ρ r.2 w' := by
  unfold extEff at hv
  split at hv
  · simp only [bnd, undQ_eq, infoQ_eq, funcQ_eq, Option.some.injEq] at hv
    obtain ⟨h', hw, rfl⟩ := hv
    obtain ⟨x', y', hx, hy, rfl⟩ := conL2 ha
    obtain ⟨l, hl, rfl⟩ := con_ptr hx
    have := con_int hy
    subst this
    obtain ⟨w', hst, _, _, hadv⟩ := writeOne_ok (P := P) hr hw hl hy
    simp only [Ext.does] at hd
    subst hd
    refine ⟨.tuple #[], w', by simp only [con], ?_, hadv⟩
    rename_i id off y _ _
    show Sem.run P (do store (← asAddr (.pointer (some ⟨l.blk, off, none⟩))) (.int .u32 y) .atomic; pure Extern.Atomic.none_) w = _
    simp [asAddr, hst, Extern.Atomic.none_]
  · simp only [bnd, undQ_eq, infoQ_eq, funcQ_eq] at hv
    obtain ⟨rw', hrow, u, hu, hv⟩ := hv
    obtain ⟨x', y', hx, hy, rfl⟩ := conL2 ha
    obtain ⟨l, hl, rfl⟩ := con_ptr hx
    have := con_int hy
    subst this
    split at hv
    · simp only [bnd, undQ_eq, infoQ_eq, funcQ_eq, Option.some.injEq] at hv
      obtain ⟨h', hw, rfl⟩ := hv
      obtain ⟨w', hst, _, _, hadv⟩ := writeOne_ok (P := P) hr hw hl (con_i ρ _ _)
      have hcell := cell_now hr hrow hl hu hw (con_i ρ _ _)
      simp only [Ext.does] at hd
      subst hd
      refine ⟨_, w', con_i ρ _ _, ?_, hadv⟩
      show Sem.run P (do
        let a' ← asAddr (.pointer (some ⟨l.blk, _, none⟩))
        let old ← Extern.Atomic.read (.int .i32) a'
        let new ← Op.intArith .add .i32 (← asInt old) (← asInt (.int _ _))
        store a' new .atomic
        pure (if true = true then new else old)) w = _
      simp [Extern.Atomic.read, asAddr, asInt, asIntOf, hcell, hst, Op.intArith]
    · simp at hv
  · simp only [bnd, undQ_eq, infoQ_eq, funcQ_eq] at hv
    obtain ⟨rw', hrow, u, hu, hv⟩ := hv
    obtain ⟨x', y', hx, hy, rfl⟩ := conL2 ha
    obtain ⟨l, hl, rfl⟩ := con_ptr hx
    have := con_int hy
    subst this
    split at hv
    · simp only [bnd, undQ_eq, infoQ_eq, funcQ_eq, Option.some.injEq] at hv
      obtain ⟨h', hw, rfl⟩ := hv
      obtain ⟨w', hst, _, _, hadv⟩ := writeOne_ok (P := P) hr hw hl (con_i ρ _ _)
      have hcell := cell_now hr hrow hl hu hw (con_i ρ _ _)
      simp only [Ext.does] at hd
      subst hd
      refine ⟨_, w', con_i ρ _ _, ?_, hadv⟩
      show Sem.run P (do
        let a' ← asAddr (.pointer (some ⟨l.blk, _, none⟩))
        let old ← Extern.Atomic.read (.int .i64) a'
        let new ← Op.intArith .add .i64 (← asInt old) (← asInt (.int _ _))
        store a' new .atomic
        pure (if true = true then new else old)) w = _
      simp [Extern.Atomic.read, asAddr, asInt, asIntOf, hcell, hst, Op.intArith]
    · simp at hv
  · simp only [bnd, undQ_eq, infoQ_eq, funcQ_eq] at hv
    obtain ⟨rw', hrow, u, hu, hv⟩ := hv
    obtain ⟨x', y', z', hx, hy, hz, rfl⟩ := conL3 ha
    obtain ⟨l, hl, rfl⟩ := con_ptr hx
    have := con_int hy
    subst this
    have := con_int hz
    subst this
    split at hv
    · split at hv
      · rename_i heq
        simp only [bnd, undQ_eq, infoQ_eq, funcQ_eq, Option.some.injEq] at hv
        obtain ⟨h', hw, rfl⟩ := hv
        obtain ⟨w', hst, _, hfz, hadv⟩ := writeOne_ok (P := P) hr hw hl (con_i ρ _ _)
        have hcell := cell_now hr hrow hl hu hw (con_i ρ _ _)
        have heq := of_decide_eq_true heq
        subst heq
        simp only [Ext.does] at hd
        subst hd
        rename_i off k z _ x _ _
        refine ⟨_, w', con_b ρ _, ?_, hadv⟩
        show Sem.run P (do
          let a' ← asAddr (.pointer (some ⟨l.blk, off, none⟩))
          if ← Extern.Atomic.touchesFrozen a' then unsupported (.unsafePointer "a write to bytes that a string shares")
          let eq ← match Extern.Atomic.T.int .i32, ← Extern.Atomic.read (.int .i32) a', Value.int k x with
            | _, .int _ x, .int _ y => pure (x == y)
            | .ptr, .pointer x, .pointer y => samePointer x y
            | .int _, .pointer (some _), .int _ 0 | .int _, .int _ 0, .pointer (some _) => pure false
            | .int _, .pointer (some _), _ | .int _, _, .pointer (some _) => unsupported .addressObserved
            | _, _, _ => stuck "atomic.CompareAndSwap: old is no T"
          if eq then store a' (.int .i32 z) .atomic
          pure (Value.bool eq)) w = _
        simp [Extern.Atomic.touchesFrozen, Extern.Atomic.read, asAddr, viewAt, World.shape?_isSome_of_cell? hcell, hcell, hfz, hst, Result.andThen]
      · simp at hv
    · simp at hv
  · simp at hv

theorem liesAt_off {e : TypeId} (hc : P.cellsOf e = 1) (count off n : Nat) (hn : off + n ≤ count) : liesAt P P.depth e count off e n = true := by
  have hd : P.depth = (2 * (P.types.size + Made.depth) + 1) + 1 := rfl
  rw [hd]
  simp only [liesAt, Bool.or_eq_true]
  left
  rw [hd]
  simp [rowAt, hc, hn, sameLayout, Nat.mod_one]

theorem run_loadInts : ∀ (ns : List Int) (a : Addr) (acc : ByteArray) (w : World), (∀ j x, ns[j]? = some x → w.cell? (a.add j) = some (.int .u8 x)) →
    (loadBytes a acc ns.length).run P w = .ok ⟨⟨acc.data.toList ++ ns.map fun n => UInt8.ofNat n.toNat⟩⟩ w
  | [], a, acc, w, h => by
    simp only [List.length_nil, loadBytes, Sem.run_pure]
    congr 1
    apply ByteArray.ext
    apply Array.ext'
    simp
  | x :: l, a, acc, w, h => by
    have h0 : w.cell? a = some (.int .u8 x) := by
      have := h 0 x rfl
      simpa [Addr.add] using this
    have ih := run_loadInts l (a.add 1) (acc.push x.toNat.toUInt8) w (fun j y hy => by
      have := h (j + 1) y (by simpa using hy)
      have e : (a.add 1).add j = a.add (j + 1) := by
        unfold Addr.add
        by_cases hj : j = 0
        · subst hj; simp
        · simp [hj]; omega
      rw [e]; exact this)
    simp only [List.length_cons, loadBytes, Sem.run_bind, run_load, h0, Result.andThen]
    rw [ih]
    congr 1
    apply ByteArray.ext
    apply Array.ext'
    simp [ByteArray.push]

theorem freeze_turned {w : World} {b off n : Nat} {c : Array Value} {e : TypeId} {fr : Nat × Nat} (h : w.heap[b]? = some (.cells c e fr)) : ∃ fr', Turned b (.cells c e fr') w (w.freeze ⟨b, off, none⟩ n) := by
  unfold World.freeze
  split
  · exact ⟨fr, rfl, h, fun _ _ => rfl, rfl, rfl, rfl⟩
  · refine ⟨if fr.1 == fr.2 then (off, off + n) else (min fr.1 off, max fr.2 (off + n)), by simp, ?_, ?_, rfl, rfl, rfl⟩
    · simp [Array.getElem?_modify, h]
    · intro j hj
      simp [Array.getElem?_modify, Ne.symm hj]

theorem unsafeString_none (ts : Array TypeId) (ty : TypeId) (len_ : Value) : Builtin.unsafeString_ ts ty #[.pointer none, len_] = (do
    let n ← asInt len_
    let some pt := ts[0]? | stuck "unsafe.String: no argument types"
    if n < 0 then runtimePanic (.error "unsafe.String: len out of range")
    if n > IntKind.i64.max then unsupported (.unsafePointer "String: a length above the largest int")
    if n = 0 then pure (.string .empty)
    else runtimePanic (.error "unsafe.String: ptr is nil and len is not zero")) := rfl

theorem unsafeString_some (ts : Array TypeId) (ty : TypeId) (a : Addr) (len_ : Value) : Builtin.unsafeString_ ts ty #[.pointer (some a), len_] = (do
    let n ← asInt len_
    let some pt := ts[0]? | stuck "unsafe.String: no argument types"
    if n < 0 then runtimePanic (.error "unsafe.String: len out of range")
    if n > IntKind.i64.max then unsupported (.unsafePointer "String: a length above the largest int")
    if n = 0 then pure (.string .empty)
    else if ← variablesAt a (← elemOf pt) n.toNat then do
      let s ← loadBytes a .empty n.toNat
      freeze a n.toNat
      pure (.string s)
    else unsupported (.unsafePointer "String: not so many bytes at ptr")) := rfl

theorem unsafeStr_ok {w₀ : World} {B : Nat} {ρ : Env} {h : AH} {w : World} (hr : Rel w₀ B ρ h w) {ts : List TypeId} (ty : TypeId) {p : AV} {n : Nat} {r : AV × AH} {p' : Value} {k : IntKind} (hu : unsafeStr P h ts p n = some r) (hp : con ρ p = some p') :
    ∃ z w', (Builtin.unsafeString_ ⟨ts⟩ ty #[p', .int k n]).run P w = .ok z w' ∧ con ρ r.1 = some z ∧ Adv w₀ B ρ h w ρ r.2 w' := by
  have hmax : IntKind.i64.max = 9223372036854775807 := rfl
  have hempty : bytesOf 0 0 = ByteArray.empty := rfl
  unfold unsafeStr at hu
  split at hu
  · simp only [bnd, undQ_eq, infoQ_eq, funcQ_eq] at hu
    rename_i t tl
    obtain ⟨d, hd, hu⟩ := hu
    split at hu
    · split at hu
      · rename_i h0
        have := nbeq.1 h0
        subst this
        split at hu
        · simp only [Option.some.injEq] at hu
          subst hu
          simp only [con, Option.some.injEq] at hp
          subst hp
          refine ⟨.string .empty, w, ?_, by rw [con_s, hempty], Adv.refl hr⟩
          simp [unsafeString_none, asInt, asIntOf, hmax]
        · simp only [Option.some.injEq] at hu
          subst hu
          obtain ⟨l, hl, rfl⟩ := con_ptr hp
          refine ⟨.string .empty, w, ?_, by rw [con_s, hempty], Adv.refl hr⟩
          simp [unsafeString_some, asInt, asIntOf, hmax]
        · simp at hu
      · rename_i u _ h0
        have h0 := nbeq_f.1 h0
        simp only [bnd, undQ_eq, infoQ_eq, funcQ_eq, grd_some, Bool.and_eq_true, nbeq, nble, Option.some.injEq] at hu
        obtain ⟨q, hq, ud, hud, kk, hk, rw', hrow, l, hread, x, hx, ⟨⟨⟨hu8, hk1⟩, hel⟩, hle⟩, rfl⟩ := hu
        subst hk1
        have := isU8_ok hu8
        subst this
        have := asPtr_ok hq
        subst this
        obtain ⟨lc, hl, rfl⟩ := con_ptr hp
        obtain ⟨c, fr, hra⟩ := hr.row hrow hl
        obtain ⟨xs, h1, h2, h3, h4⟩ := readRow_ok (P := P) hra hread
        obtain ⟨ns, rfl, h5, h6⟩ := bytesCode_ok l x xs hx h1
        have hnl : ns.length = n := by simpa using h2
        have hlb := run_loadInts (P := P) ns ⟨lc.blk, q.2, none⟩ .empty w (fun j y hj => by
          rw [add_plain, cell_of hra.heap]
          exact h3 j (.int .u8 y) (by simp [hj]))
        rw [hnl] at hlb
        obtain ⟨i, hi, hsz⟩ := sizeT_info hk
        have hc1 : P.cellsOf u = 1 := by simp [Program.cellsOf, hi, hsz]
        have hcs := hra.le
        have hqn : q.2 + n ≤ c.size := by
          simp only [readRow, grd_some, nble] at hread
          omega
        have hsh : w.shape? lc.blk = some (u, c.size) := by simp [World.shape?, hra.heap, hel]
        have hlies := liesAt_off (P := P) hc1 (c.size / P.cellsOf u) q.2 n (by rw [hc1]; simpa using hqn)
        obtain ⟨fr', ht⟩ := freeze_turned (off := q.2) (n := n) hra.heap
        have n1 : ¬ ((n : Int) < 0) := by omega
        have n2 : ¬ ((9223372036854775807 : Int) < (n : Int)) := by omega
        refine ⟨.string (bytesOf x.1 x.2), _, ?_, con_s ρ _ _, hr.put (AH.row_ok hrow) hl ?_ ht⟩
        · have he : (⟨⟨ByteArray.empty.data.toList ++ ns.map fun n => UInt8.ofNat n.toNat⟩⟩ : ByteArray) = bytesOf x.1 x.2 := by
            unfold bytesOf
            rw [h5]
            rfl
          rw [he] at hlb
          simp [unsafeString_some, asInt, asIntOf, hmax, n1, n2, h0, variablesAt, hsh, elemOf, run_underlying hd, hlies, hlb]
        · refine ⟨c, fr', rfl, ?_, hra.cells, fun h => by simp at h⟩
          cases hg : rw'.grow
          · simpa [hg] using hra.fixed hg
          · simpa [hg] using hra.grow hg
    · simp at hu
  · simp at hu

end Go.Sim
