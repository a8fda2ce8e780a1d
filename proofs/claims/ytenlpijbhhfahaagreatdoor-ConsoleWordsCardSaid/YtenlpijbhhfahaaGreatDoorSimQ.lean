/- The evaluator, its soundness, fifteenth part: a region in any order, at the machine. -/
import Derived.Test.YtenlpijbhhfahaaGreatDoorSimP
set_option linter.all false
set_option maxHeartbeats 2000000
namespace Go.Sim
variable [Sig]

/-- What the evaluator found out of a region: the plain facts. -/
structure Found (P : Program) (ext : Exts) (nt : Nat) (all : List Oper) (bef : List Nat) (base : Nat) (tm0 : TM) (log : List Rec) : Prop where
  ord : OrdFacts all bef
  one : ∀ r ∈ log, ∀ r' ∈ log, r.i = r'.i → r = r'
  have' : ∀ i, i < all.length → ∃ r ∈ log, r.i = i
  recs : ∀ r ∈ log, RecOk P ext all bef base tm0 log r
  dst : ∀ i t, dstOf all i = some t → t < nt

/-- Where the machine stands in a region. -/
structure MInv (P : Program) (ext : Exts) (call : CallF) (nt : Nat) (all : List Oper) (bef : List Nat) (base : Nat) (tm0 : TM) (sp : Option (Nat × Nat)) (log : List Rec) (w₀ : World) (B : Nat) (ρ₀ : Env) (h : AH) (ws : World) (ds : List Deferred) (pf : Pos)
    (d : Nat) (p : Pos) (fut : List Pos) (ρ : Env) (a : Act) (w : World) : Prop where
  adv : Adv w₀ B ρ₀ h ws ρ (view base log d p) w
  tms : ∀ t, (∃ r ∈ log, d.testBit r.i = true ∧ dstOf all r.i = some t ∧ con ρ r.val = some (a.tmps.getD t undef)) ∨ ((∀ j, d.testBit j = true → dstOf all j ≠ some t) ∧ con ρ (tmv tm0 t) = some (a.tmps.getD t undef))
  tsize : a.tmps.size = nt
  defs : a.defers = ds
  closed : Closed bef d
  chain : Chain P ext call all bef base log p fut
  pord : OrdP bef sp fut
  futE : ∀ q ∈ fut, ∀ e, q.e = some e → d.testBit e = false
  futA : ∀ r ∈ log, r.kind = .eff → d.testBit r.i = false → ∃ q ∈ fut, q.e = some r.i
  lastE : ∀ e, p.e = some e → d.testBit e = true
  pm : ∀ j, p.m.testBit j = true → d.testBit j = true
  reads : ∀ r ∈ log, ∀ o, all[r.i]? = some o → r.kind = .read → sameReads P ext bef base log r o (p :: fut) = true
  free : ∀ i, i < all.length → d.testBit i = false → ρ (base + i) = none
  hnone : ∀ i, i < all.length → p.m.testBit i = false → p.h.objs.get (base + i) = none
  next : base + all.length ≤ p.h.next
  last : (p :: fut).getLast? = some pf
  base' : h.next = base

section
variable {P : Program} {ext : Exts} {call : CallF} {nt : Nat} {all : List Oper} {bef : List Nat} {base : Nat} {tm0 : TM} {sp : Option (Nat × Nat)} {log : List Rec} {w₀ : World} {B : Nat} {ρ₀ : Env} {h : AH} {ws : World} {ds : List Deferred} {pf : Pos}
  {d : Nat} {p : Pos} {fut : List Pos} {ρ : Env} {a : Act} {w : World}

theorem Found.lt (F : Found P ext nt all bef base tm0 log) {r : Rec} (hr : r ∈ log) : r.i < all.length := by
  obtain ⟨o, ho, _⟩ := F.recs r hr
  exact (List.getElem?_eq_some_iff.1 ho).1

/-- What an operation looks at is what the evaluator took. -/
theorem MInv.src (F : Found P ext nt all bef base tm0 log) (m : MInv P ext call nt all bef base tm0 sp log w₀ B ρ₀ h ws ds pf d p fut ρ a w) {i : Nat} (hd : d.testBit i = false) (hb : ∀ j, (nth bef i).testBit j = true → d.testBit j = true) {tm : TM} {t : Nat}
    (hs : Src all bef tm0 log i tm t) : con ρ (tmv tm t) = some (a.tmps.getD t undef) := by
  rcases hs with ⟨r, hr, hbit, hdst, hv⟩ | ⟨hv, hw⟩
  · rw [hv]
    rcases m.tms t with ⟨r', hr', _, hdst', hc⟩ | ⟨hno, _⟩
    · have := F.one r hr r' hr' (F.ord.once _ _ t hdst hdst')
      rw [this]
      exact hc
    · exact absurd hdst (hno r.i (hb _ hbit))
  · rw [hv]
    rcases m.tms t with ⟨r', hr', hbit', hdst', hc⟩ | ⟨_, hc⟩
    · rcases hw r'.i hdst' with e | e
      · rw [e, hd] at hbit'; simp at hbit'
      · have := m.closed r'.i hbit' i e
        rw [hd] at this; simp at this
    · exact hc

theorem MInv.ev (F : Found P ext nt all bef base tm0 log) (m : MInv P ext call nt all bef base tm0 sp log w₀ B ρ₀ h ws ds pf d p fut ρ a w) {r : Rec} {o : Oper} (hd : d.testBit r.i = false) (hb : ∀ j, (nth bef r.i).testBit j = true → d.testBit j = true)
    (hs : ∀ t ∈ tmpsOf o, Src all bef tm0 log r.i r.tm t) : EvOk ρ r.tm a o.op.operands.toList := fun t ht =>
  m.src F hd hb (hs t (by
    unfold tmpsOf
    rw [List.mem_filterMap]
    exact ⟨_, ht, rfl⟩))

theorem wanted_at {ρ : Env} {tm : TM} {a : Act} {o : Oper} (hat : ∀ g w d, o.guard = some (g, w) → dstOf all g = some d → con ρ (tmv tm d) = some (a.tmps.getD d undef)) : Region.wanted o (yielded ⟨all⟩ a.tmps) = wantedAV all tm o := by
  unfold Region.wanted wantedAV
  cases hg : o.guard with
  | none => rfl
  | some g =>
    obtain ⟨j, want⟩ := g
    have hja : (⟨all⟩ : Array Oper)[j]? = all[j]? := by simp
    simp only [yielded, hja]
    cases hj : all[j]? with
    | none => simp
    | some p =>
      simp only [Option.bind_some]
      cases hd : p.dst with
      | none => simp
      | some d =>
        simp only [Option.bind_some]
        have hat := hat j want d hg (by simp [dstOf, hj, hd])
        rw [Array.getD_eq_getD_getElem?] at hat
        cases ht : a.tmps[d]? with
        | none =>
          rw [ht] at hat
          simp only [Option.getD_none] at hat
          cases e : tmv tm d with
          | bool b => rw [e, con_b] at hat; simp [undef] at hat
          | _ => simp
        | some x =>
          rw [ht] at hat
          simp only [Option.getD_some] at hat
          cases e : tmv tm d with
          | bool b =>
            rw [e, con_b] at hat
            simp only [Option.some.injEq] at hat
            subst hat
            rfl
          | _ =>
            have hx : ∀ b, x ≠ .bool b := fun b hb => by
              subst hb
              rw [e] at hat
              exact con_bool_only hat (by intro b; simp)
            cases x <;> first | rfl | exact absurd rfl (hx _)

/-- The part of the heap that an operation sees. -/
theorem MInv.sub (F : Found P ext nt all bef base tm0 log) (m : MInv P ext call nt all bef base tm0 sp log w₀ B ρ₀ h ws ds pf d p fut ρ a w) {b : Nat} (hb : ∀ j, b.testBit j = true → d.testBit j = true) (id : Nat) (o : AObj)
    (ho : (view base log b p).objs.get id = some o) : (view base log d p).objs.get id = some o := by
  rw [view_get F.one] at ho ⊢
  rcases ho with ⟨r, hr, hk, hid, hbit, hm⟩ | ⟨hno, hget⟩
  · exact .inl ⟨r, hr, hk, hid, hb _ hbit, hm⟩
  · refine .inr ⟨fun r hr q hk hid hbm => ?_, hget⟩
    have := m.hnone r.i (F.lt hr) hbm.2
    rw [← hid, hget] at this
    simp at this

theorem MInv.relSub (F : Found P ext nt all bef base tm0 log) (m : MInv P ext call nt all bef base tm0 sp log w₀ B ρ₀ h ws ds pf d p fut ρ a w) {b : Nat} (hb : ∀ j, b.testBit j = true → d.testBit j = true) : Rel w₀ B ρ (view base log b p) w :=
  m.adv.rel.sub (m.sub F hb) (by rw [view_next, view_next])

/-- The temporaries behind one more operation. -/
theorem MInv.put (F : Found P ext nt all bef base tm0 log) (m : MInv P ext call nt all bef base tm0 sp log w₀ B ρ₀ h ws ds pf d p fut ρ a w) {ρ' : Env} (he : Ext' ρ ρ') {r : Rec} {o : Oper} (hr : r ∈ log) (ho : all[r.i]? = some o) {x : Value} (hx : con ρ' r.val = some x) :
    (∀ t, (∃ q ∈ log, (d ||| 2 ^ r.i).testBit q.i = true ∧ dstOf all q.i = some t ∧ con ρ' q.val = some ((a.put o.dst x).tmps.getD t undef)) ∨ ((∀ j, (d ||| 2 ^ r.i).testBit j = true → dstOf all j ≠ some t) ∧ con ρ' (tmv tm0 t) = some ((a.put o.dst x).tmps.getD t undef))) ∧
      (a.put o.dst x).tmps.size = nt := by
  have hdst : dstOf all r.i = o.dst := by simp [dstOf, ho]
  have hget : ∀ t, (a.put o.dst x).tmps.getD t undef = if o.dst = some t then x else a.tmps.getD t undef := fun t => by
    cases hod : o.dst with
    | none => simp [Act.put]
    | some k =>
      have hk := F.dst r.i k (by rw [hdst, hod])
      simp only [Act.put]
      rw [getD_set _ _ _ _ _ (by rw [m.tsize]; exact hk)]
      by_cases e : t = k
      · simp [e]
      · simp [e, Ne.symm e]
  refine ⟨fun t => ?_, ?_⟩
  · rw [hget t]
    by_cases e : o.dst = some t
    · rw [if_pos e]
      exact .inl ⟨r, hr, testBit_add.2 (.inr rfl), by rw [hdst, e], hx⟩
    · rw [if_neg e]
      rcases m.tms t with ⟨q, h1, h2, h3, h4⟩ | ⟨h1, h2⟩
      · exact .inl ⟨q, h1, testBit_add.2 (.inl h2), h3, con_ext he _ _ h4⟩
      · refine .inr ⟨fun j hj => ?_, con_ext he _ _ h2⟩
        rcases testBit_add.1 hj with h | rfl
        · exact h1 j h
        · rw [hdst]; exact e
  · have := m.tsize
    cases o.dst <;> simpa [Act.put] using this

theorem Chain.mem : ∀ {ps : List Pos} {q p : Pos}, Chain P ext call all bef base log q ps → p ∈ ps → ∃ r ∈ log, r.kind = .eff ∧ p.e = some r.i
  | [], _, _, _, h => by simp at h
  | p' :: ps, q, p, hc, h => by
    rcases List.mem_cons.1 h with rfl | h
    · obtain ⟨r, h1, h2, h3, _⟩ := hc.1
      exact ⟨r, h1, h2, h3⟩
    · exact Chain.mem hc.2 h

theorem view_eq {b b' : Nat} {p p' : Pos} (hu : ∀ r ∈ log, ∀ r' ∈ log, r.i = r'.i → r = r') (hh : ∀ id, p.h.objs.get id = p'.h.objs.get id) (hb : ∀ r ∈ log, ∀ q, r.kind = .alloc q → ((b.testBit r.i = true ∧ p.m.testBit r.i = false) ↔ (b'.testBit r.i = true ∧ p'.m.testBit r.i = false))) (id : Nat) :
    (view base log b p).objs.get id = (view base log b' p').objs.get id := by
  apply Option.ext
  intro o
  rw [view_get hu, view_get hu, hh]
  constructor
  · rintro (⟨r, h1, h2, h3, h4⟩ | ⟨h1, h2⟩)
    · exact .inl ⟨r, h1, h2, h3, (hb r h1 o h2).1 h4⟩
    · exact .inr ⟨fun r hr q hk he hbm => h1 r hr q hk he ((hb r hr q hk).2 hbm), h2⟩
  · rintro (⟨r, h1, h2, h3, h4⟩ | ⟨h1, h2⟩)
    · exact .inl ⟨r, h1, h2, h3, (hb r h1 o h2).2 h4⟩
    · exact .inr ⟨fun r hr q hk he hbm => h1 r hr q hk he ((hb r hr q hk).1 hbm), h2⟩

/-- One more operation that leaves memory alone. -/
theorem MInv.plain (F : Found P ext nt all bef base tm0 log) (m : MInv P ext call nt all bef base tm0 sp log w₀ B ρ₀ h ws ds pf d p fut ρ a w) {r : Rec} {o : Oper} (hr : r ∈ log) (ho : all[r.i]? = some o) (hb : ∀ j, (nth bef r.i).testBit j = true → d.testBit j = true)
    (hk : ∀ q, r.kind ≠ .alloc q) (hk' : r.kind ≠ .eff) {x : Value} (hx : con ρ r.val = some x) : MInv P ext call nt all bef base tm0 sp log w₀ B ρ₀ h ws ds pf (d ||| 2 ^ r.i) p fut ρ (a.put o.dst x) w := by
  have hput := m.put F (Ext'.refl ρ) hr ho hx
  have hmore : ∀ j, (d ||| 2 ^ r.i).testBit j = false → d.testBit j = false := fun j hj => by
    cases e : d.testBit j with
    | false => rfl
    | true => rw [testBit_add.2 (.inl e)] at hj; simp at hj
  refine ⟨m.adv.same (fun id => view_eq F.one (fun _ => rfl) (fun q hq ob hqk => ?_) id) (by rw [view_next, view_next]), hput.1, hput.2, by rw [put_defers]; exact m.defs, m.closed.add hb, m.chain, m.pord, fun q hq e he => ?_, fun q hq hqk hqd => m.futA q hq hqk (hmore _ hqd), fun e he => testBit_add.2 (.inl (m.lastE e he)),
    fun j hj => testBit_add.2 (.inl (m.pm j hj)), m.reads, fun i hi hid => m.free i hi (hmore i hid), m.hnone, m.next, m.last, m.base'⟩
  · have hne : r.i ≠ q.i := fun e => by
      have := F.one r hr q hq e
      subst this
      exact hk ob hqk
    rw [testBit_add]
    simp [hne]
  · cases ed : (d ||| 2 ^ r.i).testBit e with
    | false => rfl
    | true =>
      rcases testBit_add.1 ed with hde | hre
      · rw [m.futE q hq e he] at hde; simp at hde
      · obtain ⟨r', h1, h2, h3⟩ := m.chain.mem hq
        rw [he] at h3
        simp only [Option.some.injEq] at h3
        have := F.one r hr r' h1 (by omega)
        subst this
        exact absurd h2 hk'

/-- One more operation that makes an object. -/
theorem MInv.alloc (F : Found P ext nt all bef base tm0 log) (m : MInv P ext call nt all bef base tm0 sp log w₀ B ρ₀ h ws ds pf d p fut ρ a w) {r : Rec} {o : Oper} (hr : r ∈ log) (ho : all[r.i]? = some o) (hd : d.testBit r.i = false) (hb : ∀ j, (nth bef r.i).testBit j = true → d.testBit j = true)
    {ob : AObj} (hk : r.kind = .alloc ob) {z : Value} {w' : World} (hm : Made ρ w (base + r.i) ob r.val z w') : ∃ ρ', MInv P ext call nt all bef base tm0 sp log w₀ B ρ₀ h ws ds pf (d ||| 2 ^ r.i) p fut ρ' (a.put o.dst z) w' := by
  have hi := F.lt hr
  have hpm : p.m.testBit r.i = false := by
    cases e : p.m.testBit r.i with
    | false => rfl
    | true => have := m.pm _ e; rw [hd] at this; simp at this
  have hmore : ∀ j, (d ||| 2 ^ r.i).testBit j = false → d.testBit j = false ∧ j ≠ r.i := fun j hj => by
    refine ⟨?_, fun e => ?_⟩
    · cases e : d.testBit j with
      | false => rfl
      | true => rw [testBit_add.2 (.inl e)] at hj; simp at hj
    · subst e; rw [testBit_add.2 (.inr rfl)] at hj; simp at hj
  have hH : ∀ j, (view base log (d ||| 2 ^ r.i) p).objs.get j = if j = base + r.i then some ob else (view base log d p).objs.get j := fun j => by
    apply Option.ext
    intro q
    by_cases e : j = base + r.i
    · rw [if_pos e, view_get F.one]
      constructor
      · rintro (⟨r', h1, h2, h3, _⟩ | ⟨h1, _⟩)
        · have := F.one r' h1 r hr (by omega)
          subst this
          rw [hk] at h2
          simp only [Kind.alloc.injEq] at h2
          rw [h2]
        · exact absurd ⟨testBit_add.2 (.inr rfl), hpm⟩ (h1 r hr ob hk e)
      · intro h
        simp only [Option.some.injEq] at h
        subst h
        exact .inl ⟨r, hr, hk, e, testBit_add.2 (.inr rfl), hpm⟩
    · rw [if_neg e, view_get F.one, view_get F.one]
      have hiff : ∀ r' ∈ log, j = base + r'.i → ((d ||| 2 ^ r.i).testBit r'.i = true ↔ d.testBit r'.i = true) := fun r' _ hj => by
        rw [testBit_add]
        constructor
        · rintro (h | h)
          · exact h
          · exact absurd (by omega) e
        · exact .inl
      constructor
      · rintro (⟨r', h1, h2, h3, h4, h5⟩ | ⟨h1, h2⟩)
        · exact .inl ⟨r', h1, h2, h3, (hiff r' h1 h3).1 h4, h5⟩
        · exact .inr ⟨fun r' hr' q' hk' he hbm => h1 r' hr' q' hk' he ⟨(hiff r' hr' he).2 hbm.1, hbm.2⟩, h2⟩
      · rintro (⟨r', h1, h2, h3, h4, h5⟩ | ⟨h1, h2⟩)
        · exact .inl ⟨r', h1, h2, h3, (hiff r' h1 h3).2 h4, h5⟩
        · exact .inr ⟨fun r' hr' q' hk' he hbm => h1 r' hr' q' hk' he ⟨(hiff r' hr' he).1 hbm.1, hbm.2⟩, h2⟩
  obtain ⟨ρ', he, hadv, hz, hsame⟩ := m.adv.made hm (H' := view base log (d ||| 2 ^ r.i) p) (m.free r.i hi hd) (by rw [m.base']; omega) (by rw [view_next]; have := m.next; omega) hH (by rw [view_next, view_next])
  have hput := m.put F he hr ho hz
  refine ⟨ρ', hadv, hput.1, hput.2, by rw [put_defers]; exact m.defs, m.closed.add hb, m.chain, m.pord, fun q hq e hqe => ?_, fun q hq hqk hqd => m.futA q hq hqk (hmore _ hqd).1, fun e he => testBit_add.2 (.inl (m.lastE e he)),
    fun j hj => testBit_add.2 (.inl (m.pm j hj)), m.reads, fun i hi hid => ?_, m.hnone, m.next, m.last, m.base'⟩
  · cases ed : (d ||| 2 ^ r.i).testBit e with
    | false => rfl
    | true =>
      rcases testBit_add.1 ed with hde | hre
      · rw [m.futE q hq e hqe] at hde; simp at hde
      · obtain ⟨r', h1, h2, h3⟩ := m.chain.mem hq
        rw [hqe] at h3
        simp only [Option.some.injEq] at h3
        have := F.one r hr r' h1 (by omega)
        subst this
        rw [hk] at h2
        simp at h2
  · obtain ⟨h1, h2⟩ := hmore i hid
    rw [hsame _ (by omega)]
    exact m.free i hi h1

/-- One more operation that acts. -/
theorem MInv.effect (F : Found P ext nt all bef base tm0 log) {p' : Pos} {fut' : List Pos} (m : MInv P ext call nt all bef base tm0 sp log w₀ B ρ₀ h ws ds pf d p (p' :: fut') ρ a w) {r : Rec} {o : Oper} (hr : r ∈ log) (ho : all[r.i]? = some o) (hd : d.testBit r.i = false)
    (hb : ∀ j, (nth bef r.i).testBit j = true → d.testBit j = true) (hsp : ∀ x y, sp = some (x, y) → x ≠ y) (hk : r.kind = .eff) (he : p'.e = some r.i) (hpm : p'.m = p.m ||| nth bef r.i) {ρ' : Env} {w' : World} (hadv : Adv w₀ B ρ (view base log (nth bef r.i) p) w ρ' p'.h w')
    {x : Value} (hx : con ρ' r.val = some x) : MInv P ext call nt all bef base tm0 sp log w₀ B ρ₀ h ws ds pf (d ||| 2 ^ r.i) p' fut' ρ' (a.put o.dst x) w' := by
  have hput := m.put F hadv.ext hr ho hx
  have hmore : ∀ j, (d ||| 2 ^ r.i).testBit j = false → d.testBit j = false ∧ j ≠ r.i := fun j hj => by
    refine ⟨?_, fun e => ?_⟩
    · cases e : d.testBit j with
      | false => rfl
      | true => rw [testBit_add.2 (.inl e)] at hj; simp at hj
    · subst e; rw [testBit_add.2 (.inr rfl)] at hj; simp at hj
  have hpm' : ∀ j, p'.m.testBit j = false ↔ p.m.testBit j = false ∧ (nth bef r.i).testBit j = false := fun j => by
    rw [hpm, Nat.testBit_or, Bool.or_eq_false_iff]
  have hsmall : ∀ j, j < all.length → p'.m.testBit j = false → (view base log (nth bef r.i) p).objs.get (base + j) = none := fun j hj hm => by
    cases e : (view base log (nth bef r.i) p).objs.get (base + j) with
    | none => rfl
    | some q =>
      rw [view_get F.one] at e
      obtain ⟨h1, h2⟩ := (hpm' j).1 hm
      rcases e with ⟨r', g1, g2, g3, g4, g5⟩ | ⟨g1, g2⟩
      · have : r'.i = j := by omega
        rw [this, h2] at g4
        simp at g4
      · rw [m.hnone j hj h1] at g2
        simp at g2
  refine ⟨m.adv.trans (Adv.lift m.adv.rel (m.sub F hb) (by rw [view_next, view_next]) hadv (fun id q hq => ?_) (by rw [view_next])), hput.1, hput.2, by rw [put_defers]; exact m.defs, m.closed.add hb, m.chain.2, m.pord.2, fun q hq e hqe => ?_, fun q hq hqk hqd => ?_, fun e hpe => ?_,
    fun j hj => ?_, fun q hq oq hoq hqk => sameReads_tail (m.reads q hq oq hoq hqk), fun j hj hjd => ?_, fun j hj hjm => ?_, ?_, ?_, m.base'⟩
  · rw [view_get F.one] at hq
    rcases hq with ⟨r', g1, g2, g3, g4, g5⟩ | ⟨_, g2⟩
    · right
      obtain ⟨h1, h2⟩ := (hpm' r'.i).1 g5
      refine ⟨?_, by rw [g3]; exact hsmall r'.i (F.lt g1) g5⟩
      rw [view_get F.one]
      refine .inl ⟨r', g1, g2, g3, ?_, h1⟩
      rcases testBit_add.1 g4 with h | h
      · exact h
      · have := F.one r hr r' g1 h
        subst this
        rw [hk] at g2
        simp at g2
    · exact .inl g2
  · cases ed : (d ||| 2 ^ r.i).testBit e with
    | false => rfl
    | true =>
      rcases testBit_add.1 ed with hde | hre
      · rw [m.futE q (by simp [hq]) e hqe] at hde; simp at hde
      · subst hre
        rcases m.pord.1 q hq r.i r.i he hqe with h | h
        · rw [hb _ h] at hd; simp at hd
        · exact absurd rfl (hsp _ _ h)
  · obtain ⟨h1, h2⟩ := hmore _ hqd
    obtain ⟨p₁, hp₁, hpe⟩ := m.futA q hq hqk h1
    rcases List.mem_cons.1 hp₁ with rfl | hp₁
    · rw [he] at hpe
      simp only [Option.some.injEq] at hpe
      exact absurd hpe.symm h2
    · exact ⟨p₁, hp₁, hpe⟩
  · rw [he] at hpe
    simp only [Option.some.injEq] at hpe
    exact testBit_add.2 (.inr hpe)
  · rw [testBit_add]
    rw [hpm, Nat.testBit_or, Bool.or_eq_true] at hj
    rcases hj with hj | hj
    · exact .inl (m.pm j hj)
    · exact .inl (hb j hj)
  · obtain ⟨h1, _⟩ := hmore j hjd
    cases e : ρ' (base + j) with
    | none => rfl
    | some l =>
      rcases hadv.fresh _ l e with h | h
      · rw [m.free j hj h1] at h; simp at h
      · rw [view_next] at h
        have := m.next
        omega
  · cases e : p'.h.objs.get (base + j) with
    | none => rfl
    | some q =>
      have := hadv.keep (base + j) (by rw [view_next]; have := m.next; omega) (by rw [e]; simp)
      exact absurd (hsmall j hj hjm) this
  · have h1 := hadv.next
    rw [view_next] at h1
    have := m.next
    omega
  · have := m.last
    simpa using this
end
end Go.Sim
