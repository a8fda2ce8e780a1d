/- The evaluator, its soundness, fourteenth part: a region in any order. -/
import Derived.Test.YtenlpijbhhfahaaGreatDoorSimO
set_option linter.all false
set_option maxHeartbeats 2000000
namespace Go.Sim
variable [Sig]

theorem beqL_eq {f : AV → AV → Bool} (hf : ∀ x y, f x y = true → x = y) : ∀ {l m : List AV}, beqAV.beqL f l m = true → l = m
  | [], [], _ => rfl
  | x :: l, y :: m, h => by
    simp only [beqAV.beqL, Bool.and_eq_true] at h
    rw [hf x y h.1, beqL_eq hf h.2]
  | [], _ :: _, h => by simp [beqAV.beqL] at h
  | _ :: _, [], h => by simp [beqAV.beqL] at h

theorem beqAV_eq : ∀ (d : Nat) (x y : AV), beqAV d x y = true → x = y
  | 0, x, y, h => by simp [beqAV] at h
  | d + 1, x, y, h => by
    unfold beqAV at h
    split at h
    case h_20 => simp at h
    all_goals first
      | rfl
      | (try simp only [Bool.and_eq_true, decide_eq_true_eq, nbeq, beq_iff_eq] at h
         first
          | (obtain ⟨⟨⟨h1, h2⟩, h3⟩, h4⟩ := h; subst h1; subst h2; subst h3; subst h4; rfl)
          | (obtain ⟨⟨h1, h2⟩, h3⟩ := h; subst h1; rw [beqL_eq (beqAV_eq d) h2, beqL_eq (beqAV_eq d) h3])
          | (obtain ⟨h1, h2⟩ := h; subst h1; subst h2; rfl)
          | (obtain ⟨h1, h2⟩ := h; subst h1; rw [beqAV_eq d _ _ h2])
          | (rw [beqL_eq (beqAV_eq d) h])
          | (subst h; rfl))

section
variable {P : Program} {ext : Exts} {bef : List Nat} {base : Nat} {log : List Rec}

theorem comes_false {b : Nat} : ∀ {ps : List Pos}, (∀ p ∈ ps, ∀ e, p.e = some e → b.testBit e = false) → comes b ps = false
  | [], _ => rfl
  | p :: ps, h => by
    simp only [comes, Bool.or_eq_false_iff]
    refine ⟨?_, comes_false fun q hq => h q (by simp [hq])⟩
    cases e : p.e with
    | none => rfl
    | some x => exact h p (by simp) x e

/-- What a read gives at a place at which it may stand. -/
theorem sameReads_at {r : Rec} {o : Oper} {p : Pos} {ps : List Pos} (h : sameReads P ext bef base log r o (p :: ps) = true) (h1 : ∀ e, p.e = some e → (nth bef e).testBit r.i = false) (h2 : ∀ q ∈ ps, ∀ e, q.e = some e → (nth bef r.i).testBit e = false) :
    readOp P ext r.tm (view base log (nth bef r.i) p) o.op = some r.val := by
  simp only [sameReads, Bool.and_eq_true] at h
  obtain ⟨h, _⟩ := h
  split at h
  · rename_i heq
    exfalso
    rw [Bool.or_eq_true] at heq
    rcases heq with heq | heq
    · split at heq
      · rename_i e he
        rw [h1 e he] at heq
        simp at heq
      · simp at heq
    · rw [comes_false h2] at heq
      simp at heq
  · split at h
    · rename_i v hv
      rw [hv, beqAV_eq 6 _ _ h]
    · simp at h

theorem sameReads_tail {r : Rec} {o : Oper} {p : Pos} {ps : List Pos} (h : sameReads P ext bef base log r o (p :: ps) = true) : sameReads P ext bef base log r o ps = true := by
  simp only [sameReads, Bool.and_eq_true] at h
  exact h.2

theorem checkReads_at {ops : List Oper} {ps : List Pos} : ∀ {rs : List Rec} {r : Rec} {o : Oper}, checkReads P ext ops bef base log ps rs = true → r ∈ rs → r.kind = .read → ops[r.i]? = some o → sameReads P ext bef base log r o ps = true
  | [], r, o, _, h, _, _ => by simp at h
  | q :: qs, r, o, h, hm, hk, ho => by
    simp only [checkReads, Bool.and_eq_true] at h
    rcases List.mem_cons.1 hm with rfl | hm
    · have := h.1
      simp only [hk, ho] at this
      exact this
    · exact checkReads_at h.2 hm hk ho

/-- Where the objects of a view are. -/
theorem view_get {b : Nat} {p : Pos} : ∀ {log : List Rec} (_ : ∀ r ∈ log, ∀ r' ∈ log, r.i = r'.i → r = r') (id : Nat) (o : AObj),
    (view base log b p).objs.get id = some o ↔ (∃ r ∈ log, r.kind = .alloc o ∧ id = base + r.i ∧ b.testBit r.i = true ∧ p.m.testBit r.i = false) ∨
      ((∀ r ∈ log, ∀ q, r.kind = .alloc q → id = base + r.i → ¬ (b.testBit r.i = true ∧ p.m.testBit r.i = false)) ∧ p.h.objs.get id = some o)
  | [], _, id, o => by simp [view]
  | r :: log, hu, id, o => by
    have ih := view_get (b := b) (p := p) (log := log) (fun x hx y hy => hu x (by simp [hx]) y (by simp [hy])) id o
    have hone : ∀ r' ∈ log, r'.i = r.i → r' = r := fun r' hr' e => hu r' (by simp [hr']) r (by simp) e
    by_cases hput : ∃ q, r.kind = .alloc q ∧ b.testBit r.i = true ∧ p.m.testBit r.i = false
    · obtain ⟨q, hk, hb, hm⟩ := hput
      have hv : view base (r :: log) b p = (view base log b p).put (base + r.i) q := by simp [view, hk, hb, hm]
      rw [hv]
      simp only [AH.put, T.get_set]
      by_cases e : id = base + r.i
      · rw [if_pos e]
        constructor
        · intro h
          simp only [Option.some.injEq] at h
          subst h
          exact .inl ⟨r, by simp, hk, e, hb, hm⟩
        · rintro (⟨r', hr', hk', he, _⟩ | ⟨h, _⟩)
          · have : r'.i = r.i := by omega
            rcases List.mem_cons.1 hr' with rfl | hr'
            · rw [hk] at hk'; simp only [Kind.alloc.injEq] at hk'; rw [hk']
            · have := hone r' hr' this
              subst this
              rw [hk] at hk'; simp only [Kind.alloc.injEq] at hk'; rw [hk']
          · exact absurd ⟨hb, hm⟩ (h r (by simp) q hk e)
      · rw [if_neg e, ih]
        constructor
        · rintro (⟨r', hr', h⟩ | ⟨h, h'⟩)
          · exact .inl ⟨r', by simp [hr'], h⟩
          · refine .inr ⟨fun r' hr' q' hk' he => ?_, h'⟩
            rcases List.mem_cons.1 hr' with rfl | hr'
            · exact absurd he e
            · exact h r' hr' q' hk' he
        · rintro (⟨r', hr', hk', he, h⟩ | ⟨h, h'⟩)
          · rcases List.mem_cons.1 hr' with rfl | hr'
            · exact absurd he e
            · exact .inl ⟨r', hr', hk', he, h⟩
          · exact .inr ⟨fun r' hr' => h r' (by simp [hr']), h'⟩
    · have hv : view base (r :: log) b p = view base log b p := by
        simp only [view]
        split
        · rename_i q hk
          split
          · rename_i hb
            simp only [Bool.and_eq_true, Bool.not_eq_true'] at hb
            exact absurd ⟨q, hk, hb⟩ hput
          · rfl
        · rfl
      rw [hv, ih]
      constructor
      · rintro (⟨r', hr', h⟩ | ⟨h, h'⟩)
        · exact .inl ⟨r', by simp [hr'], h⟩
        · refine .inr ⟨fun r' hr' q' hk' he hbm => ?_, h'⟩
          rcases List.mem_cons.1 hr' with rfl | hr'
          · exact hput ⟨q', hk', hbm⟩
          · exact h r' hr' q' hk' he hbm
      · rintro (⟨r', hr', hk', he, h⟩ | ⟨h, h'⟩)
        · rcases List.mem_cons.1 hr' with rfl | hr'
          · exact absurd ⟨o, hk', h⟩ hput
          · exact .inl ⟨r', hr', hk', he, h⟩
        · exact .inr ⟨fun r' hr' => h r' (by simp [hr']), h'⟩

theorem view_next {b : Nat} {p : Pos} : ∀ {log : List Rec}, (view base log b p).next = p.h.next
  | [] => rfl
  | r :: log => by
    simp only [view]
    split
    · split
      · exact view_next
      · exact view_next
    · exact view_next
end

/-- Of fewer objects. -/
theorem Rel.sub {w₀ : World} {B : Nat} {ρ : Env} {h h' : AH} {w : World} (hr : Rel w₀ B ρ h w) (hs : ∀ id o, h'.objs.get id = some o → h.objs.get id = some o) (hn : h'.next = h.next) : Rel w₀ B ρ h' w :=
  ⟨fun id o ho => hr.obj id o (hs id o ho), fun id id' o o' l l' ho ho' => hr.inj id id' o o' l l' (hs id o ho) (hs id' o' ho'), fun id l hl => by rw [hn]; exact hr.dom id l hl, hr.low, hr.size, hr.base⟩

/-- What a part of the heap comes to, with the rest beside it. -/
theorem Adv.lift {w₀ : World} {B : Nat} {ρ ρ' : Env} {H Hs h' H' : AH} {w w' : World} (hr : Rel w₀ B ρ H w) (hs : ∀ id o, Hs.objs.get id = some o → H.objs.get id = some o) (hn : Hs.next = H.next) (a : Adv w₀ B ρ Hs w ρ' h' w')
    (hH : ∀ id o, H'.objs.get id = some o → h'.objs.get id = some o ∨ (H.objs.get id = some o ∧ Hs.objs.get id = none)) (hn' : H'.next = h'.next) : Adv w₀ B ρ H w ρ' H' w' := by
  have hown : ∀ b, Owns ρ Hs b → Owns ρ H b := fun b ⟨id, o, l, h1, h2, h3⟩ => ⟨id, o, l, hs id o h1, h2, h3⟩
  have hold : ∀ id o l, H.objs.get id = some o → Hs.objs.get id = none → ρ' id = some l → ρ id = some l ∧ l.blk < w.heap.size ∧ ¬ Owns ρ Hs l.blk := fun id o l ho hno hl => by
    obtain ⟨l', x, h1, h2, h3⟩ := hr.obj id o ho
    have := a.ext id l' h1
    rw [hl] at this
    simp only [Option.some.injEq] at this
    subst this
    refine ⟨h1, (Array.getElem?_eq_some_iff.1 h2).1, ?_⟩
    rintro ⟨id2, o2, l2, g1, g2, g3⟩
    have := hr.inj id2 id o2 o l2 l (hs id2 o2 g1) ho g2 h1 g3
    subst this
    rw [hno] at g1
    simp at g1
  have hmix : ∀ id id' o o' l l', h'.objs.get id = some o → H.objs.get id' = some o' → Hs.objs.get id' = none → ρ' id = some l → ρ' id' = some l' → l.blk = l'.blk → False := fun id id' o o' l l' h1 h2 h3 h4 h5 h6 => by
    obtain ⟨g1, g2, g3⟩ := hold id' o' l' h2 h3 h5
    rcases a.own l.blk ⟨id, o, l, h1, h4, rfl⟩ with h | h
    · omega
    · rw [h6] at h; exact g3 h
  refine ⟨a.ext, ⟨?_, ?_, ?_, a.rel.low, a.rel.size, a.rel.base⟩, a.size, ?_, ?_, ?_, ?_, ?_, a.os, a.output, a.tape⟩
  · intro id o ho
    rcases hH id o ho with h | ⟨h, hno⟩
    · exact a.rel.obj id o h
    · obtain ⟨l, x, h1, h2, h3⟩ := hr.obj id o h
      obtain ⟨_, g2, g3⟩ := hold id o l h hno (a.ext id l h1)
      exact ⟨l, x, a.ext id l h1, by rw [a.frame _ g2 g3]; exact h2, h3.ext a.ext⟩
  · intro id id' o o' l l' ho ho' hl hl' hb
    rcases hH id o ho with h | ⟨h, hno⟩
    · rcases hH id' o' ho' with h' | ⟨h', hno'⟩
      · exact a.rel.inj id id' o o' l l' h h' hl hl' hb
      · exact (hmix id id' o o' l l' h h' hno' hl hl' hb).elim
    · rcases hH id' o' ho' with h' | ⟨h', hno'⟩
      · exact (hmix id' id o' o l' l h' h hno hl' hl hb.symm).elim
      · exact hr.inj id id' o o' l l' h h' (hold id o l h hno hl).1 (hold id' o' l' h' hno' hl').1 hb
  · intro id l hl
    rw [hn']
    exact a.rel.dom id l hl
  · intro b hb hno
    exact a.frame b hb fun h => hno (hown b h)
  · rintro b ⟨id, o, l, ho, hl, rfl⟩
    rcases hH id o ho with h | ⟨h, hno⟩
    · exact (a.own _ ⟨id, o, l, h, hl, rfl⟩).imp (fun h => h) (hown _)
    · exact .inr ⟨id, o, l, h, (hold id o l h hno hl).1, rfl⟩
  · rw [hn', ← hn]; exact a.next
  · intro id l hl
    rw [← hn]
    exact a.fresh id l hl
  · intro id hid hne
    cases e : H'.objs.get id with
    | none => exact absurd e hne
    | some o =>
      rcases hH id o e with h | ⟨h, _⟩
      · have := a.keep id (by rw [hn]; exact hid) (by rw [h]; simp)
        cases e' : Hs.objs.get id with
        | none => exact absurd e' this
        | some q => rw [hs id q e']; simp
      · rw [h]; simp

/-- One more object, under a name that was set aside. -/
theorem Adv.made {w₀ : World} {B : Nat} {ρ₀ ρ : Env} {h H H' : AH} {ws w w' : World} (a : Adv w₀ B ρ₀ h ws ρ H w) {id : Nat} {ob : AObj} {v : AV} {z : Value} (m : Made ρ w id ob v z w') (hid : ρ id = none) (hlo : h.next ≤ id) (hhi : id < H.next)
    (hH : ∀ j, H'.objs.get j = if j = id then some ob else H.objs.get j) (hn : H'.next = H.next) : ∃ ρ', Ext' ρ ρ' ∧ Adv w₀ B ρ₀ h ws ρ' H' w' ∧ con ρ' v = some z ∧ ∀ j, j ≠ id → ρ' j = ρ j := by
  obtain ⟨ce, x, hx, hw, hz⟩ := m.loc
  have he := Env.add_ext (id := id) ⟨w.heap.size, ce⟩ hid
  have hrel0 := a.rel.alloc (h' := { objs := H.objs.set id (some ob), next := H.next }) hid hx rfl (Nat.le_refl _) hhi hw
  have hrel : Rel w₀ B (ρ.add id ⟨w.heap.size, ce⟩) H' w' := hrel0.sub (fun j o ho => by rw [hH] at ho; simp only [T.get_set]; exact ho) hn
  refine ⟨_, he, ⟨a.ext.trans he, hrel, ?_, ?_, ?_, ?_, ?_, ?_, ?_, ?_, ?_⟩, hz, fun j hj => by simp [Env.add, hj]⟩
  · rw [hw, Array.size_push]; exact Nat.le_succ_of_le a.size
  · intro b hb hno
    rw [hw, ← a.frame b hb hno]
    have := a.size
    simp [Array.getElem?_push, Nat.ne_of_lt (Nat.lt_of_lt_of_le hb this)]
  · rintro b ⟨j, q, l, hq, hl, rfl⟩
    by_cases e : j = id
    · subst e
      rw [add_self] at hl
      simp only [Option.some.injEq] at hl
      subst hl
      exact .inl a.size
    · rw [hH, if_neg e] at hq
      exact a.own _ ⟨j, q, l, hq, by simpa [Env.add, e] using hl, rfl⟩
  · rw [hn]; exact a.next
  · intro j l hl
    by_cases e : j = id
    · exact .inr (by omega)
    · exact a.fresh j l (by simpa [Env.add, e] using hl)
  · intro j hj hne
    have e : j ≠ id := by omega
    rw [hH, if_neg e] at hne
    exact a.keep j hj hne
  · exact m.os.trans a.os
  · exact m.output.trans a.output
  · exact m.tape.trans a.tape
end Go.Sim
