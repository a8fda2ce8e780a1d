/- The evaluator, its soundness, seventh part: writing. -/
import Derived.Test.YtenlpijbhhfahaaGreatDoorSimH
import Derived.Laws.IdiomCopy
import Derived.Laws.Append
import Derived.Lib.UnsafeStr
import Derived.Laws.LoneSync
set_option linter.all false
set_option maxHeartbeats 2000000
namespace Go.Sim
variable [Sig]
variable {P : Program}

/-- Only one block is another one. -/
structure Turned (b : Nat) (x : Obj) (w w' : World) : Prop where
  size : w'.heap.size = w.heap.size
  at' : w'.heap[b]? = some x
  other : ∀ j, j ≠ b → w'.heap[j]? = w.heap[j]?
  os : w'.os = w.os
  output : w'.output = w.output
  tape : w'.tape = w.tape

theorem Turned.trans {b : Nat} {x y : Obj} {w w' w'' : World} (h : Turned b x w w') (k : Turned b y w' w'') : Turned b y w w'' :=
  ⟨k.size.trans h.size, k.at', fun j hj => (k.other j hj).trans (h.other j hj), k.os.trans h.os, k.output.trans h.output, k.tape.trans h.tape⟩

theorem setCell_turned {w : World} {b o : Nat} {c : Array Value} {e : TypeId} {fr : Nat × Nat} (v : Value) (h : w.heap[b]? = some (.cells c e fr)) :
    Turned b (.cells (c.setIfInBounds o v) e fr) w (w.setCell ⟨b, o, none⟩ v) := by
  refine ⟨by simp [World.setCell], ?_, ?_, rfl, rfl, rfl⟩
  · simp [World.setCell, Array.getElem?_modify, h]
  · intro j hj
    simp [World.setCell, Array.getElem?_modify, Ne.symm hj]

theorem setCells_turned {b : Nat} {e : TypeId} {fr : Nat × Nat} : ∀ (vs : List Value) (o : Nat) (w : World) (c : Array Value), w.heap[b]? = some (.cells c e fr) → o + vs.length ≤ c.size →
    ∃ c', Turned b (.cells c' e fr) w (w.setCells b o vs) ∧ c'.size = c.size ∧ ∀ j, c'[j]? = if o ≤ j ∧ j < o + vs.length then vs[j - o]? else c[j]?
  | [], o, w, c, h, _ => ⟨c, ⟨rfl, h, fun _ _ => rfl, rfl, rfl, rfl⟩, rfl, fun j => by simp only [List.length_nil, Nat.add_zero]; rw [if_neg (by omega)]⟩
  | v :: vs, o, w, c, h, hl => by
    simp only [List.length_cons] at hl
    have h1 := setCell_turned (o := o) v h
    obtain ⟨c', h2, h3, h4⟩ := setCells_turned vs (o + 1) _ _ h1.at' (by simp; omega)
    refine ⟨c', h1.trans h2, by simpa using h3, fun j => ?_⟩
    rw [h4 j]
    simp only [List.length_cons]
    by_cases hj : o + 1 ≤ j ∧ j < o + 1 + vs.length
    · rw [if_pos hj, if_pos (by omega), show j - o = (j - (o + 1)) + 1 from by omega]
      simp
    · rw [if_neg hj]
      by_cases e : j = o
      · subst e
        rw [if_pos (by omega)]
        have : j < c.size := by omega
        simp [this]
      · rw [if_neg (by omega)]
        simp [Ne.symm e]

theorem run_store_turned {b off : Nat} {e : TypeId} {fr : Nat × Nat} {c : Array Value} {vs : List Value} {w : World} (h : w.heap[b]? = some (.cells c e fr)) (hl : off + vs.length ≤ c.size)
    (hf : ∀ i, i < c.size → ¬ (fr.1 ≤ i ∧ i < fr.2)) (h1 : ∀ v ∈ vs, v.oneCell' = true) : (storeCells ⟨b, off, none⟩ vs).run P w = .ok () (w.setCells b off vs) := by
  have := run_storeCells_cells (P := P) b off vs 0 w (fun j hj => by
      rw [Nat.add_zero, cell_of h]
      have : off + j < c.size := by omega
      simp [this]) (fun j hj => by
      have := hf (off + 0 + j) (by omega)
      simp only [World.frozen?, h]
      simp
      omega) h1
  simpa using this

/-- An object is another one. -/
theorem Rel.put {w₀ : World} {B : Nat} {ρ : Env} {h : AH} {w w' : World} (hr : Rel w₀ B ρ h w) {id : Nat} {o o' : AObj} {l : Loc} {x : Obj} (ho : h.objs.get id = some o) (hl : ρ id = some l)
    (hx : ObjAt ρ o' l x) (ht : Turned l.blk x w w') : Adv w₀ B ρ h w ρ (h.put id o') w' := by
  have hget : ∀ j, j ≠ id → (h.put id o').objs.get j = h.objs.get j := fun j hj => by simp [AH.put, T.get_set_other _ _ hj]
  have hself : (h.put id o').objs.get id = some o' := by simp [AH.put, T.get_set_same]
  have hex : ∀ j q, (h.put id o').objs.get j = some q → ∃ q', h.objs.get j = some q' := fun j q hq => by
    by_cases e : j = id
    · subst e; exact ⟨o, ho⟩
    · rw [hget j e] at hq; exact ⟨q, hq⟩
  constructor
  · exact Ext'.refl ρ
  · constructor
    · intro j q hq
      by_cases e : j = id
      · subst e
        rw [hself] at hq
        simp only [Option.some.injEq] at hq
        subst hq
        exact ⟨l, x, hl, ht.at', hx⟩
      · rw [hget j e] at hq
        obtain ⟨m, y, h1, h2, h3⟩ := hr.obj j q hq
        refine ⟨m, y, h1, ?_, h3⟩
        rw [ht.other _ (fun hb => e (hr.inj j id q o m l hq ho h1 hl hb))]
        exact h2
    · intro j k q q' m m' hq hq' hm hm' hb
      obtain ⟨p, hp⟩ := hex j q hq
      obtain ⟨p', hp'⟩ := hex k q' hq'
      exact hr.inj j k p p' m m' hp hp' hm hm' hb
    · exact hr.dom
    · exact hr.low
    · rw [ht.size]; exact hr.size
    · intro b hb
      rw [ht.other b (fun e => by have := hr.low id l hl; omega)]
      exact hr.base b hb
  · rw [ht.size]; exact Nat.le_refl _
  · intro b _ hn
    exact ht.other b (fun e => hn ⟨id, o, l, ho, hl, e.symm⟩)
  · rintro b ⟨j, q, m, hq, hm, rfl⟩
    obtain ⟨p, hp⟩ := hex j q hq
    exact .inr ⟨j, p, m, hp, hm, rfl⟩
  · exact Nat.le_refl _
  · exact fun j m hm => .inl hm
  · intro j _ hn e
    by_cases e' : j = id
    · subst e'; rw [ho] at e; simp at e
    · rw [hget j e'] at hn; exact hn e
  · exact ht.os
  · exact ht.output
  · exact ht.tape

/-- Only what is found in the heap counts. -/
theorem Adv.same {w₀ : World} {B : Nat} {ρ ρ' : Env} {h h' h'' : AH} {w w' : World} (a : Adv w₀ B ρ h w ρ' h' w') (he : ∀ i, h'.objs.get i = h''.objs.get i) (hn : h'.next = h''.next) : Adv w₀ B ρ h w ρ' h'' w' := by
  have hr := a.rel
  refine ⟨a.ext, ⟨fun i o ho => hr.obj i o (by rw [he]; exact ho), fun i j o o' l l' ho ho' => hr.inj i j o o' l l' (by rw [he]; exact ho) (by rw [he]; exact ho'), fun i l hl => by rw [← hn]; exact hr.dom i l hl, hr.low, hr.size, hr.base⟩, a.size, a.frame, ?_, ?_, a.fresh, ?_, a.os, a.output, a.tape⟩
  · rintro b ⟨i, o, l, ho, hl, hb⟩
    exact a.own b ⟨i, o, l, by rw [he]; exact ho, hl, hb⟩
  · rw [← hn]; exact a.next
  · intro i hi hne
    exact a.keep i hi (by rw [he]; exact hne)

theorem allOne_ok {ρ : Env} : ∀ {vs : List AV} {xs : List Value}, allOne vs = true → conL ρ vs = some xs → ∀ x ∈ xs, x.oneCell' = true
  | [], xs, _, h => by simp [conL] at h; subst h; simp
  | v :: vs, xs, h1, h => by
    simp only [allOne, Bool.and_eq_true] at h1
    obtain ⟨x, hx, ys, hys, rfl⟩ := conL_cons.1 h
    intro y hy
    rcases List.mem_cons.1 hy with rfl | hy
    · exact con_one hx h1.1
    · exact allOne_ok h1.2 hys y hy

theorem writeRow_ok {w₀ : World} {B : Nat} {ρ : Env} {h h' : AH} {w : World} (hr : Rel w₀ B ρ h w) {id off : Nat} {l : Loc} {vs : List AV} {xs : List Value} (hw : writeRow h id off vs = some h') (hl : ρ id = some l)
    (hc : conL ρ vs = some xs) : ∃ w', (storeCells ⟨l.blk, off, none⟩ xs).run P w = .ok () w' ∧ Adv w₀ B ρ h w ρ h' w' := by
  simp only [writeRow, bnd, undQ_eq, infoQ_eq, funcQ_eq, grd_some, Bool.and_eq_true, Bool.not_eq_true', nble, Option.some.injEq] at hw
  obtain ⟨r, hrow, ⟨⟨hz, h1⟩, hle⟩, rfl⟩ := hw
  obtain ⟨c, fr, hra⟩ := hr.row hrow hl
  have hlen := conL_len hc
  have hcs := hra.le
  obtain ⟨c', ht, hs, hg⟩ := setCells_turned xs off w c hra.heap (by omega)
  refine ⟨_, run_store_turned (P := P) hra.heap (by omega) (hra.frozen hz) (allOne_ok h1 hc), ?_⟩
  refine hr.put (AH.row_ok hrow) hl ?_ ht
  refine ⟨c', fr, rfl, ?_, ?_, ?_⟩
  · cases hg' : r.grow
    · simp only [Bool.false_eq_true, if_false]
      rw [hs]; exact hra.fixed hg'
    · simp only [if_true]
      rw [hs]; exact hra.grow hg'
  · intro i hi v hv
    simp only at hi hv
    rw [setCells_get] at hv
    rw [hg i, hlen]
    by_cases hj : off ≤ i ∧ i < off + vs.length
    · rw [if_pos hj] at hv ⊢
      exact conL_get hc hv
    · rw [if_neg hj] at hv ⊢
      exact hra.cells i hi v hv
  · intro _ i hi
    rw [hs] at hi
    exact hra.frozen hz i hi

/-- Storing into a variable. -/
theorem store_ok {w₀ : World} {B : Nat} {ρ : Env} {h h' : AH} {w : World} (hr : Rel w₀ B ρ h w) {t : TypeId} {a v : AV} {a' v' : Value} (hs : storeAV P h t a v = some h') (ha : con ρ a = some a') (hv : con ρ v = some v') :
    ∃ w', (Instr.storeAt t a' v').run P w = .ok () w' ∧ Adv w₀ B ρ h w ρ h' w' := by
  simp only [storeAV, bnd, undQ_eq, infoQ_eq, funcQ_eq, grd_some, nbeq] at hs
  obtain ⟨p, hp, k, hk, hlen, hs⟩ := hs
  have := asPtr_ok hp
  subst this
  obtain ⟨l, hl, rfl⟩ := con_ptr ha
  have hc := con_cells hv
  obtain ⟨w', hw, hadv⟩ := writeRow_ok (P := P) hr hs hl hc
  refine ⟨w', ?_, hadv⟩
  have hlen' := conL_len hc
  simp only [Array.length_toList] at hlen'
  have this' : v'.cells.size = k := by omega
  simp [Instr.storeAt, Instr.sureAddr, storeVar, run_sizeOf' hk, this', hw]

theorem sameCell_ok {ρ : Env} {x y : AV} {x' : Value} (h : sameCell x y = true) (hx : con ρ x = some x') : con ρ y = some x' := by
  unfold sameCell at h
  split at h
  · rw [con_str hx, con_s, (strEq_iff _ _ _ _).1 h]
  · simp only [Bool.and_eq_true, decide_eq_true_eq] at h
    obtain ⟨rfl, rfl⟩ := h
    exact hx
  · simp only [beq_iff_eq] at h
    subst h
    exact hx
  · simp at h

theorem sameCells_ok {ρ : Env} : ∀ {l m : List AV} {xs : List Value}, sameCells l m = true → conL ρ l = some xs → conL ρ m = some xs
  | [], [], xs, _, h => h
  | x :: l, y :: m, xs, h, hx => by
    simp only [sameCells, Bool.and_eq_true] at h
    obtain ⟨x', hx', ys, hys, rfl⟩ := conL_cons.1 hx
    exact conL_cons.2 ⟨x', sameCell_ok h.1 hx', ys, sameCells_ok h.2 hys, rfl⟩
  | [], _ :: _, _, h, _ => by simp [sameCells] at h
  | _ :: _, [], _, h, _ => by simp [sameCells] at h

theorem sameKey_ok {ρ : Env} {x y : AV} {x' : Value} (h : sameKey x y = true) (hx : con ρ x = some x') : con ρ y = some x' := by
  unfold sameKey at h
  split at h
  · obtain ⟨xs, rfl, hxs⟩ := conL_agg hx
    exact con_agg (sameCells_ok h hxs)
  · exact sameCell_ok h hx

/-- Of two keys that are one it matters not which stays; there may be a draw. -/
theorem run_keyStays (x : Value) (w : World) : ∃ n, (Instr.keyThatStays x x).run P w = .ok x { w with drawn := n } := by
  unfold Instr.keyThatStays
  split
  · exact ⟨w.drawn, rfl⟩
  · refine ⟨w.drawn + 1, ?_⟩
    simp [Question.forced]

theorem run_setObj_map {w : World} {b : Nat} {m : Array MapEntry} {c : Nat} (o : Obj) (h : w.heap[b]? = some (.map m c)) :
    ∃ w', (setObj b o).run P w = .ok () w' ∧ Turned b o w w' := by
  refine ⟨{ w with heap := w.heap.setIfInBounds b o }, by simp [setObj, Sem.run, h], by simp, ?_, ?_, rfl, rfl, rfl⟩
  · have : b < w.heap.size := (Array.getElem?_eq_some_iff.1 h).1
    simp [this]
  · intro j hj
    simp [Ne.symm hj]

theorem conL_set {ρ : Env} : ∀ {l : List AV} {xs : List Value} (n : Nat) {v : AV} {x : Value}, conL ρ l = some xs → con ρ v = some x → conL ρ (l.set n v) = some (xs.set n x)
  | [], xs, n, v, x, h, _ => by simp [conL] at h; subst h; simp [conL]
  | u :: us, xs, n, v, x, h, hv => by
    obtain ⟨y, h1, ys, h2, rfl⟩ := conL_cons.1 h
    cases n with
    | zero => exact conL_cons.2 ⟨x, hv, ys, h2, rfl⟩
    | succ n => exact conL_cons.2 ⟨y, h1, _, conL_set n h2 hv, rfl⟩

theorem set_same {α : Type} : ∀ (l : List α) (n : Nat) (x : α), l[n]? = some x → l.set n x = l
  | [], n, x, h => by simp at h
  | y :: l, 0, x, h => by simp at h; simp [h]
  | y :: l, n + 1, x, h => by simp at h; simp [set_same l n x h]

theorem modify_set {α : Type} (m : Array α) (n : Nat) (e : α) (f : α → α) (h : m[n]? = some e) : (m.modify n f).toList = m.toList.set n (f e) := by
  apply List.ext_getElem?
  intro j
  rw [Array.getElem?_toList, Array.getElem?_modify, List.getElem?_set]
  by_cases e : n = j
  · subst e
    obtain ⟨hlt, he⟩ := Array.getElem?_eq_some_iff.1 h
    simp [hlt, he]
  · simp [e]

theorem EntsAt.set {ρ : Env} {es : List Entry} {m : Array MapEntry} (h : EntsAt ρ es m.toList) {n : Nat} {e : Entry} {e' : MapEntry} (h1 : es[n]? = some e) (h2 : m[n]? = some e') {v : AV} {v' : Value} (hv : con ρ v = some v')
    {f : MapEntry → MapEntry} (hf : f e' = { e' with val := v' }) : EntsAt ρ (es.set n ⟨e.key, v, e.born⟩) (m.modify n f).toList := by
  rw [modify_set m n e' f h2, hf]
  have h2' : m.toList[n]? = some e' := by simpa using h2
  refine ⟨?_, ?_, ?_⟩
  · rw [List.map_set, List.map_set, set_same _ n e'.born (by simp [h2]), set_same _ n e.born (by simp [h1])]
    exact h.born
  · rw [List.map_set, List.map_set, set_same _ n e'.key (by simp [h2]), set_same _ n e.key (by simp [h1])]
    exact h.keys
  · rw [List.map_set, List.map_set]
    exact conL_set n h.vals hv

theorem EntsAt.push {ρ : Env} {es : List Entry} {m : Array MapEntry} (h : EntsAt ρ es m.toList) {k v : AV} {k' v' : Value} (hk : con ρ k = some k') (hv : con ρ v = some v') (b : Nat) :
    EntsAt ρ (es ++ [⟨k, v, b⟩]) (m.push ⟨k', v', b⟩).toList := by
  refine ⟨?_, ?_, ?_⟩
  · simp [h.born]
  · have := conL_append h.keys (conL_one hk)
    simpa using this
  · have := conL_append h.vals (conL_one hv)
    simpa using this

theorem EntsAt.keyAt {ρ : Env} {es : List Entry} {m : List MapEntry} (h : EntsAt ρ es m) {n : Nat} {e : Entry} {e' : MapEntry} (h1 : es[n]? = some e) (h2 : m[n]? = some e') : con ρ e.key = some e'.key ∧ con ρ e.val = some e'.val ∧ e'.born = e.born := by
  refine ⟨?_, ?_, ?_⟩
  · obtain ⟨x, hx, hx'⟩ := conL_get h.keys (i := n) (v := e.key) (by simp [h1])
    simp [h2] at hx'
    rw [hx, hx']
  · obtain ⟨x, hx, hx'⟩ := conL_get h.vals (i := n) (v := e.val) (by simp [h1])
    simp [h2] at hx'
    rw [hx, hx']
  · have := congrArg (fun l => l[n]?) h.born
    simpa [h1, h2] using this

theorem Turned.drew {b : Nat} {x : Obj} {w w' : World} {n : Nat} (h : Turned b x { w with drawn := n } w') : Turned b x w w' := ⟨h.size, h.at', h.other, h.os, h.output, h.tape⟩

theorem mapUpdate_ok {w₀ : World} {B : Nat} {ρ : Env} {h h' : AH} {w : World} (hr : Rel w₀ B ρ h w) {t : TypeId} {m k v : AV} {m' k' v' : Value} (hu : mapUpdateAV P h t m k v = some h') (hm : con ρ m = some m') (hk : con ρ k = some k') (hv : con ρ v = some v') :
    ∃ w', (Instr.mapUpdate t m' k' v').run P w = .ok () w' ∧ Adv w₀ B ρ h w ρ h' w' := by
  simp only [mapUpdateAV, bnd, undQ_eq, infoQ_eq, funcQ_eq] at hu
  obtain ⟨d, hd, ke, hke, hu⟩ := hu
  have := asMap_ok hke
  subst this
  split at hu
  · simp only [bnd, undQ_eq, infoQ_eq, funcQ_eq, grd_some] at hu
    rename_i id
    obtain ⟨es, hes, hok, r, hfind, hu⟩ := hu
    obtain ⟨l, hl, rfl⟩ := con_map hm
    obtain ⟨mes, hm1, hm2⟩ := hr.mapAt hes hl
    obtain ⟨kd, hkd⟩ := keyType hok
    have hchk := keyOk_ok (ρ := ρ) false 20 10000 ke.1 k k' (by omega) hok hk
    have hfk := findKey_ok hkd k' mes.toList
    have hf := findK_ok hk es.1 mes.toList 0 r hfind hm2
    have hg : (getObj l.blk).run P w = .ok (.map mes es.2) w := by simp [getObj, Sem.run, hm1]
    cases r with
    | none =>
      simp only [Option.some.injEq] at hu hf
      subst hu
      obtain ⟨w', hw, ht⟩ := run_setObj_map (P := P) (.map (mes.push ⟨k', v', es.2⟩) (es.2 + 1)) hm1
      have hp := hm2.push hk hv es.2
      refine ⟨w', ?_, hr.put (AH.mapOf_ok hes) hl ⟨_, rfl, hp.born, hp.keys, hp.vals⟩ ht⟩
      simp [Instr.mapUpdate, run_underlying hd, hg, hchk, hfk, hf, hw]
    | some p =>
      obtain ⟨j, e⟩ := p
      simp only [grd_some, Option.some.injEq] at hu hf
      obtain ⟨hsame, rfl⟩ := hu
      obtain ⟨n, e', hj, h5, h6, h7, h8⟩ := hf
      simp only [Nat.zero_add] at hj
      subst hj
      have hka := hm2.keyAt h5 h6
      have hsk := sameKey_ok hsame hk
      rw [hka.1] at hsk
      simp only [Option.some.injEq] at hsk
      subst hsk
      have h6' : mes[j]? = some e' := by simpa using h6
      obtain ⟨dn, hstay⟩ := run_keyStays (P := P) e'.key w
      have hm1' : ({ w with drawn := dn } : World).heap[l.blk]? = some (.map mes es.2) := hm1
      obtain ⟨w', hw, ht⟩ := run_setObj_map (P := P) (.map (mes.modify j fun e => { e with key := e'.key, val := v' }) es.2) hm1'
      have hp := hm2.set h5 h6' hv (f := fun e => { e with key := e'.key, val := v' }) rfl
      refine ⟨w', ?_, hr.put (AH.mapOf_ok hes) hl ⟨_, rfl, hp.born, hp.keys, hp.vals⟩ ht.drew⟩
      simp [Instr.mapUpdate, run_underlying hd, hg, hchk, hfk, h8, h6', hstay, hw]
  · simp at hu

theorem mapEntry_ok {w₀ : World} {B : Nat} {ρ : Env} {h : AH} {w : World} (hr : Rel w₀ B ρ h w) {t : TypeId} {m k : AV} {r : AV × AH} {m' k' : Value} (hu : mapEntryAV P h t m k = some r) (hm : con ρ m = some m') (hk : con ρ k = some k') :
    ∃ z w', (Instr.mapEntry t m' k').run P w = .ok z w' ∧ con ρ r.1 = some z ∧ Adv w₀ B ρ h w ρ r.2 w' := by
  simp only [mapEntryAV, bnd, undQ_eq, infoQ_eq, funcQ_eq] at hu
  obtain ⟨d, hd, ke, hke, hu⟩ := hu
  have := asMap_ok hke
  subst this
  split at hu
  · simp only [bnd, undQ_eq, infoQ_eq, funcQ_eq, grd_some] at hu
    rename_i id
    obtain ⟨es, hes, hok, r', hfind, hu⟩ := hu
    obtain ⟨l, hl, rfl⟩ := con_map hm
    obtain ⟨mes, hm1, hm2⟩ := hr.mapAt hes hl
    obtain ⟨kd, hkd⟩ := keyType hok
    have hchk := keyOk_ok (ρ := ρ) false 20 10000 ke.1 k k' (by omega) hok hk
    have hfk := findKey_ok hkd k' mes.toList
    have hf := findK_ok hk es.1 mes.toList 0 r' hfind hm2
    have hg : (getObj l.blk).run P w = .ok (.map mes es.2) w := by simp [getObj, Sem.run, hm1]
    cases r' with
    | none =>
      simp only [bnd, undQ_eq, infoQ_eq, funcQ_eq, Option.some.injEq] at hu hf
      obtain ⟨z, hz, rfl⟩ := hu
      obtain ⟨z', hz', hzr⟩ := run_zeroValue' hz ρ
      obtain ⟨w', hw, ht⟩ := run_setObj_map (P := P) (.map (mes.push ⟨k', z', es.2⟩) (es.2 + 1)) hm1
      have hp := hm2.push hk hz' es.2
      refine ⟨.tuple #[z', .int .i64 es.2], w', ?_, con_tup2 hz' (con_i ρ _ _), hr.put (AH.mapOf_ok hes) hl ⟨_, rfl, hp.born, hp.keys, hp.vals⟩ ht⟩
      simp [Instr.mapEntry, run_underlying hd, hg, hchk, hfk, hf, hzr, hw, goInt]
    | some p =>
      obtain ⟨j, e⟩ := p
      simp only [grd_some, Option.some.injEq] at hu hf
      obtain ⟨hsame, rfl⟩ := hu
      obtain ⟨n, e', hj, h5, h6, h7, h8⟩ := hf
      simp only [Nat.zero_add] at hj
      subst hj
      have hka := hm2.keyAt h5 h6
      have hsk := sameKey_ok hsame hk
      rw [hka.1] at hsk
      simp only [Option.some.injEq] at hsk
      subst hsk
      have h6' : mes[j]? = some e' := by simpa using h6
      obtain ⟨dn, hstay⟩ := run_keyStays (P := P) e'.key w
      have hm1' : ({ w with drawn := dn } : World).heap[l.blk]? = some (.map mes es.2) := hm1
      obtain ⟨w', hw, ht⟩ := run_setObj_map (P := P) (.map (mes.modify j fun e => { e with key := e'.key }) es.2) hm1'
      have hsm : (mes.modify j fun e => { e with key := e'.key }).toList = mes.toList := by
        rw [modify_set mes j e' _ h6']
        exact set_same _ _ _ h6
      have hadv := hr.put (AH.mapOf_ok hes) hl (o' := .map es.1 es.2) ⟨_, rfl, by rw [hsm]; exact hm2.born, by rw [hsm]; exact hm2.keys, by rw [hsm]; exact hm2.vals⟩ ht.drew
      refine ⟨.tuple #[e'.val, .int .i64 e'.born], w', ?_, ?_, hadv.same (fun i => ?_) rfl⟩
      · simp [Instr.mapEntry, run_underlying hd, hg, hchk, hfk, h8, h6', hstay, hw, goInt]
      · rw [hka.2.2]
        exact con_tup2 hka.2.1 (con_i ρ _ _)
      · simp only [AH.put, T.get_set]
        by_cases e : i = id
        · subst e; rw [if_pos rfl, AH.mapOf_ok hes]
        · rw [if_neg e]
  · simp at hu

end Go.Sim
