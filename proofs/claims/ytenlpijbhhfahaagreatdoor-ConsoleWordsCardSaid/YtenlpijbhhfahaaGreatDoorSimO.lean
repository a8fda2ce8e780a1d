/- The evaluator, its soundness, thirteenth part: what the evaluator found out of a region. -/
import Derived.Test.YtenlpijbhhfahaaGreatDoorSimN
set_option linter.all false
set_option maxHeartbeats 2000000
namespace Go.Sim
variable [Sig]

section
variable (P : Program) (ext : Exts) (call : CallF) (nt : Nat) (ops : List Oper) (bef : List Nat) (base : Nat) (tm0 : TM) (sp : Option (Nat × Nat)) (p0 : Pos)

/-- What a temporary held as an operation looked at it. -/
def Src (log : List Rec) (i : Nat) (tm : TM) (t : Nat) : Prop :=
  (∃ r ∈ log, (nth bef i).testBit r.i = true ∧ dstOf ops r.i = some t ∧ tmv tm t = r.val) ∨ (tmv tm t = tmv tm0 t ∧ ∀ j, dstOf ops j = some t → j = i ∨ (nth bef j).testBit i = true)

def RecOk (log : List Rec) (r : Rec) : Prop :=
  ∃ o, ops[r.i]? = some o ∧ (∀ t ∈ tmpsOf o, Src ops bef tm0 log r.i r.tm t) ∧ (∀ g w d, o.guard = some (g, w) → dstOf ops g = some d → Src ops bef tm0 log r.i r.tm d) ∧
    match r.kind with
    | .skip => wantedAV ops r.tm o = false ∧ r.val = .undef
    | .pure => wantedAV ops r.tm o = true ∧ pureOp P ext r.tm o.op = some r.val
    | .read => wantedAV ops r.tm o = true
    | .alloc ob => wantedAV ops r.tm o = true ∧ allocOp P ext r.tm o.op (base + r.i) = some (ob, r.val)
    | .eff => wantedAV ops r.tm o = true ∧ isEff ext o.op = true

/-- From a place in the row of effects to the next one. -/
def Link (log : List Rec) (q p : Pos) : Prop :=
  ∃ r ∈ log, r.kind = .eff ∧ p.e = some r.i ∧ p.m = q.m ||| nth bef r.i ∧ ∃ o, ops[r.i]? = some o ∧ effRun P ext call r.tm (view base log (nth bef r.i) q) o.op = some (r.val, p.h)

def Chain (log : List Rec) : Pos → List Pos → Prop
  | _, [] => True
  | q, p :: ps => Link P ext call ops bef base log q p ∧ Chain log p ps

/-- Effects in their order. -/
def OrdP : List Pos → Prop
  | [] => True
  | p :: ps => (∀ p' ∈ ps, ∀ e e', p.e = some e → p'.e = some e' → (nth bef e').testBit e = true ∨ sp = some (e, e')) ∧ OrdP ps

structure LogOk (log : List Rec) (d : Nat) : Prop where
  bit : ∀ r ∈ log, d.testBit r.i = true
  all : ∀ i, i < ops.length → d.testBit i = true → ∃ r ∈ log, r.i = i
  one : ∀ r ∈ log, ∀ r' ∈ log, r.i = r'.i → r = r'

structure DrawInv (s : RS) (d : Nat) : Prop where
  log : LogOk ops s.log d
  closed : Closed bef d
  recs : ∀ r ∈ s.log, RecOk P ext ops bef base tm0 s.log r
  tms : ∀ t, (∃ r ∈ s.log, dstOf ops r.i = some t ∧ tmv s.tm t = r.val ∧ t < nt) ∨ ((∀ r ∈ s.log, dstOf ops r.i ≠ some t) ∧ tmv s.tm t = tmv tm0 t)
  chain : ∃ fut, (s.pos :: s.hist).reverse = p0 :: fut ∧ Chain P ext call ops bef base s.log p0 fut ∧ (p0 :: fut).getLast? = some s.pos ∧ OrdP bef sp fut ∧ (∀ r ∈ s.log, r.kind = .eff → ∃ p ∈ fut, p.e = some r.i) ∧ ∀ p ∈ fut, ∃ r ∈ s.log, r.kind = .eff ∧ p.e = some r.i
  keeps : ∀ x y, sp = some (x, y) → d.testBit y = true → d.testBit x = true
end

section
variable {P : Program} {ext : Exts} {call : CallF} {nt : Nat} {ops : List Oper} {bef : List Nat} {base : Nat} {tm0 : TM} {sp : Option (Nat × Nat)} {p0 : Pos}

theorem view_more {log : List Rec} {r : Rec} {b : Nat} {p : Pos} (h : b.testBit r.i = false) : view base (r :: log) b p = view base log b p := by
  simp only [view, h, Bool.false_and]
  split <;> rfl

theorem Src.more {log : List Rec} {r : Rec} {i : Nat} {tm : TM} {t : Nat} (h : Src ops bef tm0 log i tm t) : Src ops bef tm0 (r :: log) i tm t := by
  rcases h with ⟨r', h1, h2⟩ | h
  · exact .inl ⟨r', by simp [h1], h2⟩
  · exact .inr h

theorem RecOk.more {log : List Rec} {r r' : Rec} (h : RecOk P ext ops bef base tm0 log r') : RecOk P ext ops bef base tm0 (r :: log) r' := by
  obtain ⟨o, h1, h2, h3, h4⟩ := h
  exact ⟨o, h1, fun t ht => (h2 t ht).more, fun g w d hg hd => (h3 g w d hg hd).more, h4⟩

theorem Link.more {log : List Rec} {r : Rec} {q p : Pos} {d : Nat} (hl : LogOk ops log d) (hc : Closed bef d) (hr : d.testBit r.i = false) (h : Link P ext call ops bef base log q p) : Link P ext call ops bef base (r :: log) q p := by
  obtain ⟨r', h1, h2, h3, h4, o, h5, h6⟩ := h
  refine ⟨r', by simp [h1], h2, h3, h4, o, h5, ?_⟩
  rw [view_more]
  · exact h6
  · cases e : (nth bef r'.i).testBit r.i with
    | false => rfl
    | true =>
      have := hc r'.i (hl.bit r' h1) _ e
      rw [hr] at this
      simp at this

theorem Chain.more {log : List Rec} {r : Rec} {d : Nat} (hl : LogOk ops log d) (hc : Closed bef d) (hr : d.testBit r.i = false) : ∀ {ps : List Pos} {q : Pos}, Chain P ext call ops bef base log q ps → Chain P ext call ops bef base (r :: log) q ps
  | [], _, _ => trivial
  | _ :: _, _, h => ⟨h.1.more hl hc hr, Chain.more hl hc hr h.2⟩

theorem Chain.snoc {log : List Rec} {p : Pos} : ∀ {ps : List Pos} {q last : Pos}, Chain P ext call ops bef base log q ps → (q :: ps).getLast? = some last → Link P ext call ops bef base log last p → Chain P ext call ops bef base log q (ps ++ [p])
  | [], q, last, _, hl, h => by
    simp only [List.getLast?_singleton, Option.some.injEq] at hl
    subst hl
    exact ⟨h, trivial⟩
  | p' :: ps, q, last, hc, hl, h => ⟨hc.1, Chain.snoc hc.2 (by simpa using hl) h⟩

theorem OrdP.snoc {p : Pos} : ∀ {ps : List Pos}, OrdP bef sp ps → (∀ p' ∈ ps, ∀ e e', p'.e = some e → p.e = some e' → (nth bef e').testBit e = true ∨ sp = some (e, e')) → OrdP bef sp (ps ++ [p])
  | [], _, _ => ⟨by simp, trivial⟩
  | q :: ps, h, hn => by
    refine ⟨fun p' hp' e e' he he' => ?_, OrdP.snoc h.2 fun p' hp' => hn p' (by simp [hp'])⟩
    rcases List.mem_append.1 hp' with hp' | hp'
    · exact h.1 p' hp' e e' he he'
    · simp only [List.mem_singleton] at hp'
      subst hp'
      exact hn q (by simp) e e' he he'

theorem LogOk.add {log : List Rec} {d : Nat} {r : Rec} (h : LogOk ops log d) (hr : d.testBit r.i = false) : LogOk ops (r :: log) (d ||| 2 ^ r.i) := by
  constructor
  · intro q hq
    rw [testBit_add]
    rcases List.mem_cons.1 hq with rfl | hq
    · exact .inr rfl
    · exact .inl (h.bit q hq)
  · intro i hi hd
    rcases testBit_add.1 hd with hd | rfl
    · obtain ⟨q, hq, e⟩ := h.all i hi hd
      exact ⟨q, by simp [hq], e⟩
    · exact ⟨r, by simp, rfl⟩
  · intro q hq q' hq' e
    rcases List.mem_cons.1 hq with rfl | hq1
    · rcases List.mem_cons.1 hq' with rfl | hq2
      · rfl
      · have := h.bit q' hq2
        rw [← e, hr] at this
        simp at this
    · rcases List.mem_cons.1 hq' with rfl | hq2
      · have := h.bit q hq1
        rw [e, hr] at this
        simp at this
      · exact h.one q hq1 q' hq2 e

theorem putT_lt {tm tm' : TM} {dst : Option Nat} {v : AV} (h : putT nt tm dst v = some tm') : (∀ t, dst = some t → t < nt) ∧ ∀ t, tmv tm' t = if dst = some t then v else tmv tm t := by
  cases dst with
  | none =>
    simp only [putT, Option.some.injEq] at h
    subst h
    exact ⟨fun t ht => by simp at ht, fun t => by simp⟩
  | some d =>
    simp only [putT, grd_some, nblt, Option.some.injEq] at h
    obtain ⟨h1, rfl⟩ := h
    refine ⟨fun t ht => by simp only [Option.some.injEq] at ht; subst ht; exact h1, fun t => ?_⟩
    rw [tmv_set]
    by_cases e : t = d
    · simp [e]
    · simp [e, Ne.symm e]

/-- What holds of one more operation, whatever it came to. -/
theorem DrawInv.step (OF : OrdFacts ops bef) {s : RS} {d : Nat} (hs : DrawInv P ext call nt ops bef base tm0 sp p0 s d) {i : Nat} {o : Oper} (ho : ops[i]? = some o) (hd : d.testBit i = false) (hb : ∀ j, (nth bef i).testBit j = true → d.testBit j = true)
    (hk : ∀ x y, sp = some (x, y) → i = y → d.testBit x = true) {kind : Kind} {v : AV} {tm' : TM} (hp : putT nt s.tm o.dst v = some tm') {pos : Pos} {hist : List Pos}
    (hrec : match kind with
      | .skip => wantedAV ops s.tm o = false ∧ v = .undef
      | .pure => wantedAV ops s.tm o = true ∧ pureOp P ext s.tm o.op = some v
      | .read => wantedAV ops s.tm o = true
      | .alloc ob => wantedAV ops s.tm o = true ∧ allocOp P ext s.tm o.op (base + i) = some (ob, v)
      | .eff => wantedAV ops s.tm o = true ∧ isEff ext o.op = true)
    (hpos : (kind ≠ .eff ∧ pos = s.pos ∧ hist = s.hist) ∨ (kind = .eff ∧ hist = s.pos :: s.hist ∧ pos.e = some i ∧ pos.m = s.pos.m ||| nth bef i ∧ effRun P ext call s.tm (view base s.log (nth bef i) s.pos) o.op = some (v, pos.h) ∧
      (∀ r ∈ s.log, r.kind = .eff → (nth bef i).testBit r.i = true ∨ sp = some (r.i, i)))) :
    DrawInv P ext call nt ops bef base tm0 sp p0 { tm := tm', pos := pos, hist := hist, log := ⟨i, s.tm, kind, v⟩ :: s.log } (d ||| 2 ^ i) := by
  have hsrc : ∀ t, (∀ j, dstOf ops j = some t → j = i ∨ (nth bef i).testBit j = true ∨ (nth bef j).testBit i = true) → Src ops bef tm0 s.log i s.tm t := fun t ht => by
    rcases hs.tms t with ⟨r, h1, h2, h3, h4⟩ | ⟨h1, h2⟩
    · refine .inl ⟨r, h1, ?_, h2, h3⟩
      have hrd := hs.log.bit r h1
      rcases ht r.i h2 with e | e | e
      · rw [e, hd] at hrd; simp at hrd
      · exact e
      · have := hs.closed r.i hrd i e
        rw [hd] at this; simp at this
    · refine .inr ⟨h2, fun j hj => ?_⟩
      rcases ht j hj with e | e | e
      · exact .inl e
      · obtain ⟨r, hr, hri⟩ := hs.log.all j (dstOf_lt hj) (hb j e)
        exact absurd (by rw [hri]; exact hj) (h1 r hr)
      · exact .inr e
  have hnew : RecOk P ext ops bef base tm0 (⟨i, s.tm, kind, v⟩ :: s.log) ⟨i, s.tm, kind, v⟩ :=
    ⟨o, ho, fun t ht => (hsrc t (fun j hj => OF.src i o ho t ht j hj)).more, fun g w t hg ht => (hsrc t (fun j hj => .inr (.inl (by
      have := OF.once g j t ht hj
      subst this
      exact OF.guard i o g w ho hg)))).more, hrec⟩
  have hput := putT_lt hp
  have hdst : dstOf ops i = o.dst := by simp [dstOf, ho]
  refine ⟨hs.log.add hd, hs.closed.add hb, fun r hr => ?_, fun t => ?_, ?_, fun x y hxy hy => ?_⟩
  · rcases List.mem_cons.1 hr with rfl | hr
    · exact hnew
    · exact (hs.recs r hr).more
  · simp only
    rw [hput.2 t]
    by_cases e : o.dst = some t
    · rw [if_pos e]
      exact .inl ⟨_, List.mem_cons_self .., by rw [← e]; exact hdst, rfl, hput.1 t e⟩
    · rw [if_neg e]
      rcases hs.tms t with ⟨r, h1, h2⟩ | ⟨h1, h2⟩
      · exact .inl ⟨r, by simp [h1], h2⟩
      · refine .inr ⟨fun r hr => ?_, h2⟩
        rcases List.mem_cons.1 hr with rfl | hr
        · show dstOf ops i ≠ some t
          rw [hdst]; exact e
        · exact h1 r hr
  · obtain ⟨fut, h1, h2, h3, h4, h5, h6⟩ := hs.chain
    have h2' := h2.more (r := ⟨i, s.tm, kind, v⟩) hs.log hs.closed hd
    rcases hpos with ⟨hne, rfl, rfl⟩ | ⟨rfl, rfl, he, hm, hrun, hord⟩
    · refine ⟨fut, h1, h2', h3, h4, fun r hr hre => ?_, fun p hp => ?_⟩
      · rcases List.mem_cons.1 hr with rfl | hr
        · exact absurd hre hne
        · exact h5 r hr hre
      · obtain ⟨r, hr, h⟩ := h6 p hp
        exact ⟨r, by simp [hr], h⟩
    · refine ⟨fut ++ [pos], ?_, h2'.snoc h3 ⟨_, List.mem_cons_self .., rfl, he, hm, o, ho, ?_⟩, ?_, h4.snoc fun p' hp' e e' hpe hpe' => ?_, fun r hr hre => ?_, fun p hp => ?_⟩
      · simp only [List.reverse_cons] at h1 ⊢
        rw [h1]
        simp
      · rw [view_more]
        · exact hrun
        · cases e : (nth bef i).testBit i with
          | false => rfl
          | true => have := hb i e; rw [hd] at this; simp at this
      · show ((p0 :: fut) ++ [pos]).getLast? = some pos
        exact List.getLast?_concat
      · rw [he] at hpe'
        simp only [Option.some.injEq] at hpe'
        subst hpe'
        obtain ⟨r, hr, hre, hri⟩ := h6 p' hp'
        rw [hri] at hpe
        simp only [Option.some.injEq] at hpe
        subst hpe
        exact hord r hr hre
      · rcases List.mem_cons.1 hr with rfl | hr
        · exact ⟨pos, by simp, he⟩
        · obtain ⟨p, hp, h⟩ := h5 r hr hre
          exact ⟨p, by simp [hp], h⟩
      · rcases List.mem_append.1 hp with hp | hp
        · obtain ⟨r, hr, h⟩ := h6 p hp
          exact ⟨r, by simp [hr], h⟩
        · simp only [List.mem_singleton] at hp
          subst hp
          exact ⟨_, List.mem_cons_self .., rfl, he⟩
  · rw [testBit_add]
    rcases testBit_add.1 hy with h | h
    · exact .inl (hs.keeps x y hxy h)
    · exact .inl (hk x y hxy h)

theorem stepDraw_ok (OF : OrdFacts ops bef) (PF : PairFacts ext ops bef sp) {s s' : RS} {d : Nat} (hs : DrawInv P ext call nt ops bef base tm0 sp p0 s d) {i : Nat} (hi : i < ops.length) (hd : d.testBit i = false) (hb : ∀ j, (nth bef i).testBit j = true → d.testBit j = true)
    (hk : ∀ x y, sp = some (x, y) → i = y → d.testBit x = true) (h : stepDraw P ext call nt ops bef base s i = some s') : DrawInv P ext call nt ops bef base tm0 sp p0 s' (d ||| 2 ^ i) := by
  have ho : ops[i]? = some ops[i] := by simp [hi]
  simp only [stepDraw, ho, Option.bind_some] at h
  split at h
  · rename_i hw
    simp only [bnd, undQ_eq, infoQ_eq, funcQ_eq, Option.some.injEq] at h
    obtain ⟨tm, hp, rfl⟩ := h
    exact hs.step OF ho hd hb hk hp ⟨hw, rfl⟩ (.inl ⟨by simp, rfl, rfl⟩)
  · rename_i hw
    split at h
    · rename_i v hv
      simp only [bnd, undQ_eq, infoQ_eq, funcQ_eq, Option.some.injEq] at h
      obtain ⟨tm, hp, rfl⟩ := h
      exact hs.step OF ho hd hb hk hp ⟨hw, hv⟩ (.inl ⟨by simp, rfl, rfl⟩)
    · split at h
      · split at h
        · simp only [bnd, undQ_eq, infoQ_eq, funcQ_eq, Option.some.injEq] at h
          obtain ⟨tm, hp, rfl⟩ := h
          exact hs.step OF ho hd hb hk (kind := .read) hp hw (.inl ⟨by simp, rfl, rfl⟩)
        · simp only [bnd, undQ_eq, infoQ_eq, funcQ_eq, Option.some.injEq] at h
          obtain ⟨r, hal, tm, hp, rfl⟩ := h
          exact hs.step OF ho hd hb hk (kind := .alloc r.1) hp ⟨hw, hal⟩ (.inl ⟨by simp, rfl, rfl⟩)
      · rename_i heff
        simp only [bnd, undQ_eq, infoQ_eq, funcQ_eq, Option.some.injEq] at h
        obtain ⟨r, hrun, tm, hp, rfl⟩ := h
        refine hs.step OF ho hd hb hk (kind := .eff) hp ⟨hw, heff⟩ (.inr ⟨rfl, rfl, rfl, rfl, hrun, fun r' hr' hre => ?_⟩)
        obtain ⟨o', ho', _, _, hk'⟩ := hs.recs r' hr'
        rw [hre] at hk'
        have hne : r'.i ≠ i := fun e => by
          have := hs.log.bit r' hr'
          rw [e, hd] at this
          simp at this
        rcases PF.pair r'.i i o' ops[i] ho' ho hk'.2 heff hne with h | h | h | h
        · exact .inl h
        · have := hs.closed r'.i (hs.log.bit r' hr') i h
          rw [hd] at this
          simp at this
        · exact .inr h
        · have := hs.keeps i r'.i h (hs.log.bit r' hr')
          rw [hd] at this
          simp at this

theorem runDraw_ok (OF : OrdFacts ops bef) (PF : PairFacts ext ops bef sp) : ∀ {l : List Nat} {s s' : RS} {d : Nat}, DrawInv P ext call nt ops bef base tm0 sp p0 s d → Topo ops.length bef d l → (∀ x y, sp = some (x, y) → Keeps x y d l) →
    runDraw P ext call nt ops bef base l s = some s' → ∃ d', DrawInv P ext call nt ops bef base tm0 sp p0 s' d' ∧ ∀ i, i < ops.length → d'.testBit i = true
  | [], s, s', d, hs, ht, _, h => by
    simp only [runDraw, Option.some.injEq] at h
    subst h
    exact ⟨d, hs, ht⟩
  | i :: l, s, s', d, hs, ht, hk, h => by
    simp only [runDraw, bnd, undQ_eq, infoQ_eq, funcQ_eq] at h
    obtain ⟨s₁, h1, h2⟩ := h
    exact runDraw_ok OF PF (stepDraw_ok OF PF hs ht.1 ht.2.1 ht.2.2.1 (fun x y hxy => (hk x y hxy).1) h1) ht.2.2.2 (fun x y hxy => (hk x y hxy).2) h2

theorem drawInv_start : DrawInv P ext call nt ops bef base tm0 sp p0 { tm := tm0, pos := p0, hist := [], log := [] } 0 := by
  refine ⟨⟨by simp, fun i _ h => by simp at h, by simp⟩, fun i h => by simp at h, by simp, fun t => .inr ⟨by simp, rfl⟩, ⟨[], rfl, trivial, rfl, trivial, by simp, by simp⟩, fun x y _ h => by simp at h⟩
end
end Go.Sim
