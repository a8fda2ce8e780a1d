/- The evaluator, its soundness, sixth part: operations that make an object. -/
import Derived.Test.YtenlpijbhhfahaaGreatDoorSimG
import Derived.IntWalk
import Derived.Laws.IdiomStrings
import Derived.Laws.MakeOwn
import Derived.Lib.MakeNoZero
set_option linter.all false
set_option maxHeartbeats 2000000
namespace Go.Sim
variable [Sig]
variable {P : Program}

theorem setCells_get : ∀ (l : List AV) (t : T AV) (off i : Nat), (setCells t off l).get i = if off ≤ i ∧ i < off + l.length then l[i - off]? else t.get i
  | [], t, off, i => by
    simp only [setCells, List.length_nil, Nat.add_zero]
    rw [if_neg (by omega)]
  | v :: l, t, off, i => by
    simp only [setCells, setCells_get l, List.length_cons]
    by_cases h : off + 1 ≤ i ∧ i < off + 1 + l.length
    · rw [if_pos h, if_pos (by omega), show i - off = (i - (off + 1)) + 1 from by omega]
      simp
    · rw [if_neg h, T.get_set]
      by_cases e : i = off
      · subst e
        rw [if_pos rfl, if_pos (by omega)]
        simp
      · rw [if_neg e, if_neg (by omega)]

theorem ObjAt.ext {ρ ρ' : Env} (he : Ext' ρ ρ') {o : AObj} {l : Loc} {x : Obj} (h : ObjAt ρ o l x) : ObjAt ρ' o l x := by
  cases o with
  | row r =>
    obtain ⟨c, fr, h1, h2, h3, h4⟩ := h
    exact ⟨c, fr, h1, h2, fun i hi v hv => let ⟨y, hy, hy'⟩ := h3 i hi v hv; ⟨y, con_ext he _ _ hy, hy'⟩, h4⟩
  | map es clock =>
    obtain ⟨m, h1, h2, h3, h4⟩ := h
    exact ⟨m, h1, h2, conL_ext he _ _ h3, conL_ext he _ _ h4⟩
  | siter n c p => exact h

/-- One name more. -/
def Env.add (ρ : Env) (id : Nat) (l : Loc) : Env := fun j => if j = id then some l else ρ j

theorem Env.add_ext {ρ : Env} {id : Nat} (l : Loc) (h : ρ id = none) : Ext' ρ (ρ.add id l) := fun j x hx => by
  unfold Env.add
  by_cases e : j = id
  · subst e; rw [h] at hx; simp at hx
  · simp [e, hx]

theorem Rel.free {w₀ : World} {B : Nat} {ρ : Env} {h : AH} {w : World} (hr : Rel w₀ B ρ h w) {id : Nat} (hid : h.next ≤ id) : ρ id = none := by
  cases e : ρ id with
  | none => rfl
  | some l => have := hr.dom id l e; omega

theorem Rel.none_of {w₀ : World} {B : Nat} {ρ : Env} {h : AH} {w : World} (hr : Rel w₀ B ρ h w) {id : Nat} (hid : ρ id = none) : h.objs.get id = none := by
  cases e : h.objs.get id with
  | none => rfl
  | some o => obtain ⟨l, x, hl, _⟩ := hr.obj id o e; rw [hid] at hl; simp at hl

theorem Rel.blk_lt {w₀ : World} {B : Nat} {ρ : Env} {h : AH} {w : World} (hr : Rel w₀ B ρ h w) {id : Nat} {o : AObj} {l : Loc} (ho : h.objs.get id = some o) (hl : ρ id = some l) : l.blk < w.heap.size := by
  obtain ⟨l', x, hl', hx, _⟩ := hr.obj id o ho
  rw [hl] at hl'
  simp only [Option.some.injEq] at hl'
  subst hl'
  exact (Array.getElem?_eq_some_iff.1 hx).1

/-- A new block under a name that isn't one yet. -/
theorem Rel.alloc {w₀ : World} {B : Nat} {ρ : Env} {h h' : AH} {w w' : World} (hr : Rel w₀ B ρ h w) {id ce : Nat} {o : AObj} {x : Obj} (hid : ρ id = none)
    (hx : ObjAt ρ o ⟨w.heap.size, ce⟩ x) (ho : h'.objs = h.objs.set id (some o)) (hn : h.next ≤ h'.next) (hlt : id < h'.next) (hw : w'.heap = w.heap.push x) :
    Rel w₀ B (ρ.add id ⟨w.heap.size, ce⟩) h' w' := by
  have he := Env.add_ext (id := id) ⟨w.heap.size, ce⟩ hid
  have hold : ∀ b, b < w.heap.size → w'.heap[b]? = w.heap[b]? := fun b hb => by rw [hw]; simp [Array.getElem?_push, Nat.ne_of_lt hb]
  have hget : ∀ j, j ≠ id → h'.objs.get j = h.objs.get j := fun j hj => by rw [ho, T.get_set_other _ _ hj]
  have hadd : ∀ j, j ≠ id → (ρ.add id ⟨w.heap.size, ce⟩) j = ρ j := fun j hj => by simp [Env.add, hj]
  have hself : (ρ.add id ⟨w.heap.size, ce⟩) id = some ⟨w.heap.size, ce⟩ := by simp [Env.add]
  constructor
  · intro j q hq
    by_cases e : j = id
    · subst e
      rw [ho, T.get_set_same] at hq
      simp only [Option.some.injEq] at hq
      subst hq
      exact ⟨_, x, hself, by rw [hw]; simp, hx.ext he⟩
    · rw [hget j e] at hq
      obtain ⟨l, y, h1, h2, h3⟩ := hr.obj j q hq
      exact ⟨l, y, he _ _ h1, by rw [hold _ (Array.getElem?_eq_some_iff.1 h2).1]; exact h2, h3.ext he⟩
  · intro j k q q' l l' hq hq' hl hl' hb
    by_cases e : j = id
    · by_cases e' : k = id
      · rw [e, e']
      · rw [e, hself] at hl
        rw [hget k e'] at hq'
        rw [hadd k e'] at hl'
        have := hr.blk_lt hq' hl'
        simp only [Option.some.injEq] at hl
        subst hl
        simp only at hb
        omega
    · by_cases e' : k = id
      · rw [e', hself] at hl'
        rw [hget j e] at hq
        rw [hadd j e] at hl
        have := hr.blk_lt hq hl
        simp only [Option.some.injEq] at hl'
        subst hl'
        simp only at hb
        omega
      · rw [hget j e] at hq
        rw [hget k e'] at hq'
        rw [hadd j e] at hl
        rw [hadd k e'] at hl'
        exact hr.inj j k q q' l l' hq hq' hl hl' hb
  · intro j l hl
    by_cases e : j = id
    · subst e; exact hlt
    · rw [hadd j e] at hl
      exact Nat.lt_of_lt_of_le (hr.dom j l hl) hn
  · intro j l hl
    by_cases e : j = id
    · subst e
      rw [hself] at hl
      simp only [Option.some.injEq] at hl
      subst hl
      exact hr.size
    · rw [hadd j e] at hl
      exact hr.low j l hl
  · rw [hw, Array.size_push]; exact Nat.le_succ_of_le hr.size
  · intro b hb
    rw [hold b (Nat.lt_of_lt_of_le hb hr.size)]
    exact hr.base b hb

/-- What making an object comes to: a new block, under its name. -/
structure Made (ρ : Env) (w : World) (id : Nat) (o : AObj) (v : AV) (z : Value) (w' : World) : Prop where
  loc : ∃ ce x, ObjAt ρ o ⟨w.heap.size, ce⟩ x ∧ w'.heap = w.heap.push x ∧ con (ρ.add id ⟨w.heap.size, ce⟩) v = some z
  os : w'.os = w.os
  output : w'.output = w.output
  tape : w'.tape = w.tape

theorem Made.adv {w₀ : World} {B : Nat} {ρ : Env} {h : AH} {w w' : World} (hr : Rel w₀ B ρ h w) {o : AObj} {v : AV} {z : Value} (m : Made ρ w h.next o v z w') :
    ∃ ρ', Adv w₀ B ρ h w ρ' (h.new o) w' ∧ con ρ' v = some z := by
  obtain ⟨ce, x, hx, hw, hz⟩ := m.loc
  have hid := hr.free (Nat.le_refl h.next)
  refine ⟨ρ.add h.next ⟨w.heap.size, ce⟩, ?_, hz⟩
  have he := Env.add_ext (id := h.next) ⟨w.heap.size, ce⟩ hid
  constructor
  · exact he
  · exact hr.alloc hid hx rfl (Nat.le_succ _) (Nat.lt_succ_self _) hw
  · rw [hw, Array.size_push]; exact Nat.le_succ _
  · intro b hb _
    rw [hw]; simp [Array.getElem?_push, Nat.ne_of_lt hb]
  · rintro b ⟨j, q, l, hq, hl, rfl⟩
    by_cases e : j = h.next
    · subst e
      simp only [Env.add, if_true, Option.some.injEq] at hl
      subst hl
      exact .inl (Nat.le_refl _)
    · refine .inr ⟨j, q, l, ?_, ?_, rfl⟩
      · simpa [AH.new, T.get_set_other _ _ e] using hq
      · simpa [Env.add, e] using hl
  · exact Nat.le_succ _
  · intro j l hl
    by_cases e : j = h.next
    · exact .inr (by omega)
    · exact .inl (by simpa [Env.add, e] using hl)
  · intro j hj hn
    have e : j ≠ h.next := by omega
    simpa [AH.new, T.get_set_other _ _ e] using hn
  · exact m.os
  · exact m.output
  · exact m.tape

theorem newRow_at {ρ : Env} {l : List AV} {xs : List Value} (h : conL ρ l = some xs) (e : TypeId) (b : Nat) : ObjAt ρ (newRowOf l e false) ⟨b, 0⟩ (.cells ⟨xs⟩ e) := by
  refine ⟨⟨xs⟩, (0, 0), rfl, by simp [conL_len h], fun i hi v hv => ?_, fun _ i _ => by omega⟩
  simp only at hi hv
  rw [setCells_get, if_pos (by omega)] at hv
  obtain ⟨y, hy, hy'⟩ := conL_get h hv
  exact ⟨y, hy, by simpa using hy'⟩

/-- A row whose capacity is open: more cells behind those that are known. -/
theorem newRow_open {ρ : Env} {l : List AV} {xs more : List Value} (h : conL ρ l = some xs) (e : TypeId) (b : Nat) (fr : Nat × Nat) (hfr : ∀ i, i < (xs ++ more).length → ¬ (fr.1 ≤ i ∧ i < fr.2)) :
    ObjAt ρ (newRowOf l e true) ⟨b, (xs ++ more).length⟩ (.cells ⟨xs ++ more⟩ e fr) := by
  refine ⟨⟨xs ++ more⟩, fr, rfl, by simp [conL_len h], fun i hi v hv => ?_, fun _ i hi => hfr i (by simpa using hi)⟩
  simp only at hi hv
  rw [setCells_get, if_pos (by omega)] at hv
  obtain ⟨y, hy, hy'⟩ := conL_get h hv
  refine ⟨y, hy, ?_⟩
  simp only [Nat.sub_zero] at hy'
  have hlt : i < xs.length := (List.getElem?_eq_some_iff.1 hy').1
  simpa [List.getElem?_append_left hlt] using hy'

theorem add_self (ρ : Env) (id : Nat) (l : Loc) : (ρ.add id l) id = some l := by simp [Env.add]

theorem bytesL_con (ρ : Env) : ∀ (n c : Nat), conL ρ (bytesL n c) = some ((bytesN n c).map fun b => Value.int .u8 (b.toNat : Int))
  | 0, c => by simp [bytesL, bytesN, conL]
  | n + 1, c => by
    have hb : c % 256 < 256 := Nat.mod_lt _ (by omega)
    refine conL_cons.2 ⟨_, con_i ρ _ _, _, bytesL_con ρ n (c / 256), ?_⟩
    simp [bytesN, Nat.mod_eq_of_lt hb]

variable {ext : Exts}

theorem run_noZero (ps rs : Array TypeId) (t : TypeId) (h : rs[0]? = some t) (x : Array Value) : Extern.BytealgMakeNoZero.makeNoZero ps rs x = Extern.BytealgMakeNoZero.makeNoZero ps #[t] x := by
  unfold Extern.BytealgMakeNoZero.makeNoZero
  rw [h]
  rfl

theorem Made.row {ρ : Env} {w w' : World} {id : Nat} {l : List AV} {xs : List Value} {e : TypeId} {v : AV} {z : Value} (hc : conL ρ l = some xs) (hw : w' = w.alloc (.cells ⟨xs⟩ e))
    (hz : con (ρ.add id ⟨w.heap.size, 0⟩) v = some z) : Made ρ w id (newRowOf l e false) v z w' := by
  subst hw
  exact ⟨⟨0, _, newRow_at hc e _, rfl, hz⟩, rfl, rfl, rfl⟩

theorem con_ptr_add (ρ : Env) (id b off : Nat) (ce : Nat) : con (ρ.add id ⟨b, ce⟩) (.ptr id off) = some (.pointer (some ⟨b, off, none⟩)) := by simp [con, Env.add]
theorem con_sl_add (ρ : Env) (id b off len c : Nat) (ce : Nat) : con (ρ.add id ⟨b, ce⟩) (.sl id off len c) = some (.slice (some ⟨b, off, none⟩) len c) := by simp [con, Env.add]
theorem con_slo_add (ρ : Env) (id b len : Nat) (ce : Nat) (h : len ≤ ce) : con (ρ.add id ⟨b, ce⟩) (.slo id 0 len 1) = some (.slice (some ⟨b, 0, none⟩) len ce) := by simp [con, Env.add, openSlice, h]

theorem zeroL_ok {t : TypeId} {z : List AV} (h : zeroL P t = some z) (ρ : Env) : ∃ i v, P.info? t = some i ∧ i.zero = some v ∧ conL ρ z = some v.cells.toList := by
  simp only [zeroL, zeroAV, bnd, undQ_eq, infoQ_eq, funcQ_eq, Option.some.injEq] at h
  obtain ⟨y, ⟨i, hi, v, hv, hy⟩, rfl⟩ := h
  exact ⟨i, v, hi, hv, con_cells (ofVal_con hy)⟩

theorem madeCells_eq (zs : List Value) (n m : Nat) (h : zs.length = m) : madeCells ⟨zs⟩ (n * m) = ⟨zerosV zs n⟩ := by
  subst h
  exact zeros_eq zs n

theorem alloc_ok (hx : ExtOk P ext) {ρ : Env} {tm : TM} {a : Act} {o : Oper} {ob : AObj} {id : Nat} {v : AV} {w : World} (he : EvOk ρ tm a o.op.operands.toList) (hid : ρ id = none) (hv : allocOp P ext tm o.op id = some (ob, v)) :
    ∃ z w', Made ρ w id ob v z w' ∧ (execOp a.eval o).run P w = .ok (.value z) w' := by
  obtain ⟨dst, op, type, pos, after, guard⟩ := o
  simp only at he hv
  unfold allocOp at hv
  split at hv
  case h_1 e =>
    simp only [bnd, undQ_eq, infoQ_eq, funcQ_eq, Option.some.injEq, Prod.mk.injEq] at hv
    obtain ⟨z, hz, rfl, rfl⟩ := hv
    obtain ⟨i, zv, hi, hzv, hc⟩ := zeroL_ok hz ρ
    refine ⟨_, _, Made.row hc rfl (con_ptr_add ρ id _ 0 _), ?_⟩
    simp [execOp, Instr.alloc, zeroValue, run_typeInfo' hi, hzv, newVar, newRow]
  case h_2 e x =>
    simp only [bnd, undQ_eq, infoQ_eq, funcQ_eq, Option.some.injEq, Prod.mk.injEq] at hv
    obtain ⟨xv, hxv, rfl, rfl⟩ := hv
    have h1 := con_cells (ev_ok he (by simp [Op.operands]) hxv)
    refine ⟨_, _, Made.row h1 rfl (con_ptr_add ρ id _ 0 _), ?_⟩
    simp [execOp, Instr.box, newVar, newRow]
  case h_3 t len ps =>
    simp only [bnd, undQ_eq, infoQ_eq, funcQ_eq, grd_some, Bool.and_eq_true, nbeq, nble, nblt, Option.some.injEq, Prod.mk.injEq] at hv
    obtain ⟨d, hd, e, hee, l, hl, n, hn, z, hz, ⟨⟨h1, h2⟩, h3⟩, cs, hcs, rfl, rfl⟩ := hv
    have := asSlice_ok hee
    subst this
    have hp := evParts_ok he (fun x hx => by simp [Op.operands]; exact ⟨x.1, by simpa using hx⟩) hl
    obtain ⟨i, zv, hi, hzv, hc⟩ := zeroL_ok hz ρ
    have hzl : zv.cells.toList.length = n := by rw [conL_len hc, h3]
    obtain ⟨out, ho, hf⟩ := fill_ok (place' := fun i => some (i * n, n)) (fun i p h => h) hcs (conL_zeros hc len) hp
    refine ⟨_, _, Made.row ho rfl (con_sl_add ρ id _ 0 len len _), ?_⟩
    have hzs := zeros_eq zv.cells.toList len
    rw [hzl] at hzs
    have hbig : ¬ (16777216 < len * n) := by omega
    by_cases h0 : len * n = 0
    · have hl0 : len = 0 := by
        rcases Nat.eq_zero_or_pos len with h | h
        · exact h
        · have := Nat.mul_pos h h2; omega
      subst hl0
      simp only [zerosV] at hf
      have hr0 : Array.range 0 = (#[] : Array Nat) := rfl
      simp [execOp, Instr.buildSlice, run_underlying hd, run_sizeOf' hn, newRow, hr0]
      simp [hf]
    · simp [execOp, Instr.buildSlice, run_underlying hd, run_sizeOf' hn, newRow, hbig, h0, zeroValue, run_typeInfo' hi, hzv, hf, hzs]
  case h_4 t =>
    simp only [Option.some.injEq, Prod.mk.injEq] at hv
    obtain ⟨rfl, rfl⟩ := hv
    refine ⟨.map (some w.heap.size), w.alloc (.map #[] 0), ⟨⟨0, .map #[] 0, ⟨#[], rfl, rfl, rfl, rfl⟩, rfl, by simp [con, Env.add]⟩, rfl, rfl, rfl⟩, ?_⟩
    simp [execOp, Instr.makeMap]
  case h_5 t x y =>
    simp only [bnd, undQ_eq, infoQ_eq, funcQ_eq, grd_some, Bool.and_eq_true, nbeq, nble, nblt, Option.some.injEq, Prod.mk.injEq] at hv
    obtain ⟨d, hd, e, hee, l, hl, ln, hln, c, hc, cn, hcn, i, hi, z, hz, ⟨⟨⟨⟨h1, h2⟩, h3⟩, h4⟩, h5⟩, rfl, rfl⟩ := hv
    have := asSlice_ok hee
    subst this
    obtain ⟨k1, e1⟩ := asNat_ok hln (ev_ok he (by simp [Op.operands]) hl)
    obtain ⟨k2, e2⟩ := asNat_ok hcn (ev_ok he (by simp [Op.operands]) hc)
    obtain ⟨i', zv, hi', hzv, hcz⟩ := zeroL_ok hz ρ
    rw [hi] at hi'
    simp only [Option.some.injEq] at hi'
    subst hi'
    have hzl : zv.cells.toList.length = i.size := by rw [conL_len hcz, h5]
    refine ⟨_, _, Made.row (conL_zeros hcz cn) rfl (con_sl_add ρ id _ 0 ln cn _), ?_⟩
    have hb : (i.bytes : Int) * (cn : Int) ≤ 281474976710656 := by
      have h : ((i.bytes * cn : Nat) : Int) ≤ 281474976710656 := by omega
      rwa [Int.natCast_mul] at h
    have := run_make (P := P) w t e i zv hd hi hzv k1 k2 ln cn (by omega) (by omega) hb (by omega)
    simp only [Int.toNat_natCast] at this
    simp only [execOp, e1, e2, Sem.run_bind, this, Result.andThen_ok, Sem.run_pure]
    rw [show zv.cells = ⟨zv.cells.toList⟩ from rfl, madeCells_eq _ _ _ hzl]
  case h_6 s d x =>
    simp only [bnd, undQ_eq, infoQ_eq, funcQ_eq] at hv
    obtain ⟨sd, hsd, dd, hdd, e, hee, u, hu, n, hn, xv, hxv, hv⟩ := hv
    have := asSlice_ok hee
    subst this
    split at hv
    · simp only [grd_some, Bool.and_eq_true, nbeq, Option.some.injEq, Prod.mk.injEq] at hv
      obtain ⟨⟨hu8, hn1⟩, rfl, rfl⟩ := hv
      have := isU8_ok hu8
      subst this
      have h1 := con_str (ev_ok he (by simp [Op.operands]) hxv)
      rename_i len code
      have hr := run_bytes_of_string (P := P) w s d e (bytesOf len code) hsd hdd hu
      rw [bytesOf_size] at hr
      have hge := grownCap_ge w len 0 e
      have hrow : bytesRow (bytesOf len code) (grownCap w len 0 e) = ⟨((bytesN len code).map fun b => Value.int .u8 (b.toNat : Int)) ++ List.replicate (grownCap w len 0 e - len) (.int .u8 0)⟩ := by
        unfold bytesRow
        rw [bytesOf_size]
        apply Array.toList_inj.1
        simp [bytesOf]
      have hsz : (((bytesN len code).map fun b : UInt8 => Value.int .u8 (b.toNat : Int)) ++ List.replicate (grownCap w len 0 e - len) (Value.int .u8 0)).length = grownCap w len 0 e := by
        simp [bytesN_len]; omega
      have hro := newRow_open (bytesL_con ρ len code) (more := List.replicate (grownCap w len 0 e - len) (.int .u8 0)) e w.heap.size (grownCap w len 0 e, grownCap w len 0 e + 1) (by rw [hsz]; omega)
      rw [hsz] at hro
      rw [hrow] at hr
      have hsz' : (⟨((bytesN len code).map fun b => Value.int .u8 (b.toNat : Int)) ++ List.replicate (grownCap w len 0 e - len) (.int .u8 0)⟩ : Array Value).size = grownCap w len 0 e := hsz
      rw [hsz'] at hr
      have hrun : ∀ o : Oper, o.op = .convert s d x → (execOp a.eval o).run P w = .ok (.value _) _ := fun o ho => by
        simp only [execOp, ho, h1, Sem.run_bind, hr, Result.andThen_ok, Sem.run_pure]
        rfl
      refine ⟨_, _, ?_, hrun _ rfl⟩
      exact ⟨⟨grownCap w len 0 e, _, hro, rfl, con_slo_add ρ id _ len _ hge⟩, rfl, rfl, rfl⟩
    · simp at hv
  case h_7 t x =>
    simp only [bnd, undQ_eq, infoQ_eq, funcQ_eq] at hv
    obtain ⟨d, hd, xv, hxv, hv⟩ := hv
    split at hv
    · simp only [Option.some.injEq, Prod.mk.injEq] at hv
      obtain ⟨rfl, rfl⟩ := hv
      have h1 := con_str (ev_ok he (by simp [Op.operands]) hxv)
      rename_i n c
      refine ⟨_, w.alloc (.stringIter (bytesOf n c) 0), ⟨⟨0, _, rfl, rfl, con_ptr_add ρ id _ 0 _⟩, rfl, rfl, rfl⟩, ?_⟩
      simp [execOp, Instr.range, run_underlying hd, h1]
    · simp at hv
  case h_8 f as ts =>
    simp only [bnd, undQ_eq, infoQ_eq, funcQ_eq] at hv
    obtain ⟨e, hee, l, hl, hv⟩ := hv
    have h1 := evL_ok he (fun x hx => by simp [Op.operands, Call.operands, hx]) hl
    obtain ⟨fn, d, hf, hd, hrun⟩ := run_ext hx hee
    split at hv
    · simp only [bnd, undQ_eq, infoQ_eq, funcQ_eq, grd_some, Bool.and_eq_true, nbeq, nble, Option.some.injEq, Prod.mk.injEq] at hv
      obtain ⟨n, hn, fn', hf', t, ht, td, htd, el, hel, k, hk, ⟨hle, hk1⟩, rfl, rfl⟩ := hv
      have := asSlice_ok hel
      subst this
      rw [hf] at hf'
      simp only [Option.some.injEq] at hf'
      subst hf'
      have := natOf_ok hn
      subst this
      obtain ⟨x', hx', hargs⟩ := conL1 h1
      rw [con_int hx'] at hargs
      simp only [Ext.does] at hd
      subst hd
      obtain ⟨cs, hr, hge, _⟩ := Lib.run_makeNoZero (P := P) w fn.params t el htd n (by omega)
      refine ⟨_, w.drew.drew.alloc (.cells cs el), ⟨⟨cs.size, .cells cs el (0, 0), ⟨cs, (0, 0), rfl, ⟨rfl, Nat.zero_le _⟩, fun i hi => absurd hi (Nat.not_lt_zero i), fun _ i _ => by omega⟩, rfl, con_slo_add ρ id _ n cs.size hge⟩, rfl, rfl, rfl⟩, ?_⟩
      simp only [execOp]
      rw [resolve_func, hrun, hargs, run_noZero _ _ t ht, show (⟨[Value.int .i64 (n : Int)]⟩ : Array Value) = #[.int .i64 (n : Int)] from rfl, hr]
      rfl
    · simp at hv
  case h_9 => simp at hv
end Go.Sim
