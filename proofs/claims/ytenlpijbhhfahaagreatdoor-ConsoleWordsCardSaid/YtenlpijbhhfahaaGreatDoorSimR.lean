/- The evaluator, its soundness, sixteenth part: regions that are drawn. -/
import Derived.Test.YtenlpijbhhfahaaGreatDoorSimQ
set_option linter.all false
set_option maxHeartbeats 2000000
namespace Go.Sim
variable [Sig]
variable {P : Program} {ext : Exts} {call : CallF} {nt : Nat} {all : List Oper} {bef : List Nat} {base : Nat} {tm0 : TM} {sp : Option (Nat × Nat)} {log : List Rec} {w₀ : World} {B : Nat} {ρ₀ : Env} {h : AH} {ws : World} {ds : List Deferred} {pf : Pos}

theorem draw_list (hx : ExtOk P ext) (hcall : CallOk P w₀ B call) (F : Found P ext nt all bef base tm0 log) (hsp : ∀ x y, sp = some (x, y) → x ≠ y) {b : Frame} {k : List Item} {cs : List Frame} :
    ∀ (L : List Nat) (d : Nat) (p : Pos) (fut : List Pos) (ρ : Env) (a : Act) (w : World), MInv P ext call nt all bef base tm0 sp log w₀ B ρ₀ h ws ds pf d p fut ρ a w → Topo all.length bef d L → (∀ x y, sp = some (x, y) → Keeps x y d L) →
      ∃ d' ρ' a' w', MInv P ext call nt all bef base tm0 sp log w₀ B ρ₀ h ws ds pf d' pf [] ρ' a' w' ∧ (∀ i, i < all.length → d'.testBit i = true) ∧
        Steps P (lone (b.at a (.inRegion ⟨all⟩ L :: k)) cs w) (lone (b.at a' (.inRegion ⟨all⟩ [] :: k)) cs w')
  | [], d, p, fut, ρ, a, w, m, ht, _ => by
    have hfut : fut = [] := by
      cases fut with
      | nil => rfl
      | cons q qs =>
        exfalso
        obtain ⟨r, hr, _, he⟩ := m.chain.mem (List.mem_cons_self ..)
        have := m.futE q (by simp) r.i he
        rw [ht r.i (F.lt hr)] at this
        simp at this
    subst hfut
    have hp : p = pf := by simpa using m.last
    subst hp
    exact ⟨d, ρ, a, w, m, ht, Steps.refl P _⟩
  | i :: L, d, p, fut, ρ, a, w, m, ht, hk => by
    obtain ⟨hi, hd, hb, ht'⟩ := ht
    obtain ⟨r, hr, rfl⟩ := F.have' i hi
    obtain ⟨o, ho, hsrc, hguard, hkind⟩ := F.recs r hr
    have ho' : (⟨all⟩ : Array Oper)[r.i]? = some o := by simpa using ho
    have hev := m.ev F hd hb hsrc
    have hwant := wanted_at (all := all) (tm := r.tm) (a := a) (o := o) fun g w t hg hgt => m.src F hd hb (hguard g w t hg hgt)
    have hk' : ∀ x y, sp = some (x, y) → Keeps x y (d ||| 2 ^ r.i) L := fun x y hxy => (hk x y hxy).2
    have hnext : ∀ (p₁ : Pos) (fut₁ : List Pos) (ρ₁ : Env) (a₁ : Act) (w₁ : World), MInv P ext call nt all bef base tm0 sp log w₀ B ρ₀ h ws ds pf (d ||| 2 ^ r.i) p₁ fut₁ ρ₁ a₁ w₁ →
        Steps P (lone (b.at a (.inRegion ⟨all⟩ (r.i :: L) :: k)) cs w) (lone (b.at a₁ (.inRegion ⟨all⟩ L :: k)) cs w₁) →
        ∃ d' ρ' a' w', MInv P ext call nt all bef base tm0 sp log w₀ B ρ₀ h ws ds pf d' pf [] ρ' a' w' ∧ (∀ i, i < all.length → d'.testBit i = true) ∧
          Steps P (lone (b.at a (.inRegion ⟨all⟩ (r.i :: L) :: k)) cs w) (lone (b.at a' (.inRegion ⟨all⟩ [] :: k)) cs w') := fun p₁ fut₁ ρ₁ a₁ w₁ m₁ hst => by
      obtain ⟨d', ρ', a', w', h1, h2, h3⟩ := draw_list hx hcall F hsp L _ p₁ fut₁ ρ₁ a₁ w₁ m₁ ht' hk'
      exact ⟨d', ρ', a', w', h1, h2, Steps.trans hst h3⟩
    cases hrk : r.kind with
    | skip =>
      rw [hrk] at hkind
      obtain ⟨hw, hv⟩ := hkind
      rw [hw] at hwant
      exact hnext p fut ρ _ w (m.plain F hr ho hb (by rw [hrk]; simp) (by rw [hrk]; simp) (by rw [hv]; exact con_undef ρ)) (steps_unwanted ho' hwant)
    | pure =>
      rw [hrk] at hkind
      obtain ⟨hw, hv⟩ := hkind
      rw [hw] at hwant
      obtain ⟨z, hz, hex⟩ := pure_ok hx hev hv
      exact hnext p fut ρ _ w (m.plain F hr ho hb (by rw [hrk]; simp) (by rw [hrk]; simp) hz) (steps_value ho' hwant (hex w))
    | read =>
      rw [hrk] at hkind
      have hw : wantedAV all r.tm o = true := hkind
      rw [hw] at hwant
      have hv := sameReads_at (m.reads r hr o ho hrk) (fun e he => by
          cases e' : (nth bef e).testBit r.i with
          | false => rfl
          | true => rw [m.closed e (m.lastE e he) _ e'] at hd; simp at hd) (fun q hq e he => by
          cases e' : (nth bef r.i).testBit e with
          | false => rfl
          | true =>
            have := m.futE q hq e he
            rw [hb _ e'] at this
            simp at this)
      obtain ⟨z, hz, hex⟩ := read_ok hx (m.relSub F hb) hev hv
      exact hnext p fut ρ _ w (m.plain F hr ho hb (by rw [hrk]; simp) (by rw [hrk]; simp) hz) (steps_value ho' hwant hex)
    | alloc ob =>
      rw [hrk] at hkind
      obtain ⟨hw, hv⟩ := hkind
      rw [hw] at hwant
      obtain ⟨z, w', hmade, hex⟩ := alloc_ok hx hev (m.free r.i hi hd) hv (w := w)
      obtain ⟨ρ', m'⟩ := m.alloc F hr ho hd hb hrk hmade
      exact hnext p fut ρ' _ w' m' (steps_value ho' hwant hex)
    | eff =>
      rw [hrk] at hkind
      obtain ⟨hw, _⟩ := hkind
      rw [hw] at hwant
      obtain ⟨q, hq, hqe⟩ := m.futA r hr hrk hd
      cases fut with
      | nil => simp at hq
      | cons p₁ rest =>
        obtain ⟨⟨r₁, hr₁, hk₁, he₁, hm₁, o₁, ho₁, hrun⟩, _⟩ := m.chain
        have hr1 : r₁ = r := by
          rcases List.mem_cons.1 hq with rfl | hq'
          · rw [hqe] at he₁
            simp only [Option.some.injEq] at he₁
            exact (F.one r hr r₁ hr₁ he₁).symm
          · have hne := m.futE p₁ (by simp) r₁.i he₁
            rcases m.pord.1 q hq' r₁.i r.i he₁ hqe with h | h
            · rw [hb _ h] at hne; simp at hne
            · have := (hk _ _ h).1 rfl
              rw [this] at hne; simp at hne
        subst hr1
        rw [ho] at ho₁
        simp only [Option.some.injEq] at ho₁
        subst ho₁
        simp only [effRun, bnd, undQ_eq, infoQ_eq, funcQ_eq] at hrun
        obtain ⟨ef, hef, hrun⟩ := hrun
        have hok := eff_ok hx (m.relSub F hb) hev hef
        cases ef with
        | val v h₁ =>
          simp only [Option.some.injEq, Prod.mk.injEq] at hrun
          obtain ⟨rfl, rfl⟩ := hrun
          obtain ⟨ρ', w', n, hadv, hex, hn⟩ := hok
          rcases hn with ⟨z, rfl, hz⟩ | ⟨rfl, hz⟩
          · exact hnext p₁ rest ρ' _ w' (m.effect F hr ho hd hb hsp hrk he₁ hm₁ hadv hz) (steps_value ho' hwant hex)
          · exact hnext p₁ rest ρ' _ w' (m.effect F hr ho hd hb hsp hrk he₁ hm₁ hadv (by rw [hz]; exact con_undef ρ')) (steps_skip ho' hwant hex)
        | call f args =>
          simp only at hrun
          obtain ⟨args', hargs, hex⟩ := hok
          obtain ⟨⟨fn, hfn, hbody⟩, hcalls⟩ := hcall ρ _ w f args args' _ _ (m.relSub F hb) hargs hrun
          have hcalls' : Calls P f ⟨args'⟩ w fun e w' => ∃ x, e = .returned x ∧ ∃ ρ', Adv w₀ B ρ (view base log (nth bef r₁.i) p) w ρ' p₁.h w' ∧ con ρ' r₁.val = some x :=
            Calls.mono hcalls fun e w' ⟨ρ', x, h1, h2, h3⟩ => ⟨x, h1, ρ', h2, h3⟩
          obtain ⟨x, w', ⟨ρ', hadv, hz⟩, hst⟩ := steps_call (b := b) (a := a) (k := k) (cs := cs) (rest := L) ho' hwant (hex fn hfn hbody) hcalls'
          exact hnext p₁ rest ρ' _ w' (m.effect F hr ho hd hb hsp hrk he₁ hm₁ hadv hz) hst
        | defer f args => simp at hrun
        | recover => simp at hrun

/-- Names are set aside. -/
theorem Adv.bump {w₀ : World} {B : Nat} {ρ₀ ρ : Env} {h₀ h h' : AH} {w₁ w : World} (a : Adv w₀ B ρ₀ h₀ w₁ ρ h w) (he : ∀ i, h.objs.get i = h'.objs.get i) (hn : h.next ≤ h'.next) : Adv w₀ B ρ₀ h₀ w₁ ρ h' w := by
  have hr := a.rel
  refine ⟨a.ext, ⟨fun i o ho => hr.obj i o (by rw [he]; exact ho), fun i j o o' l l' ho ho' => hr.inj i j o o' l l' (by rw [he]; exact ho) (by rw [he]; exact ho'), fun i l hl => Nat.lt_of_lt_of_le (hr.dom i l hl) hn, hr.low, hr.size, hr.base⟩, a.size, a.frame, ?_, Nat.le_trans a.next hn, a.fresh, ?_, a.os, a.output, a.tape⟩
  · rintro b ⟨i, o, l, ho, hl, hb⟩
    exact a.own b ⟨i, o, l, by rw [he]; exact ho, hl, hb⟩
  · intro i hi hne
    exact a.keep i hi (by rw [he]; exact hne)

/-- An order that the evaluator tried, and any order like it. -/
theorem order_ok (hx : ExtOk P ext) (hcall : CallOk P w₀ B call) (OF : OrdFacts all bef) (PF : PairFacts ext all bef sp) (hsp : ∀ x y, sp = some (x, y) → x ≠ y) {O : List Nat} {tm : TM} {h : AH} {r : TM × AH} (hO : Topo all.length bef 0 O) (hKO : ∀ x y, sp = some (x, y) → Keeps x y 0 O)
    (hrun : drawOrder P ext call nt all bef O tm h = some r) {ρ : Env} {a : Act} {w : World} {ds : Defs} (hr : Rel w₀ B ρ h w) (hf : FrOk ρ nt tm ds a) {L : List Nat} (hL : Topo all.length bef 0 L) (hKL : ∀ x y, sp = some (x, y) → Keeps x y 0 L) {b : Frame} {k : List Item} {cs : List Frame} :
    (∀ t, nt ≤ t → tmv r.1 t = tmv tm t) ∧ ∃ ρ' a' w', Adv w₀ B ρ h w ρ' r.2 w' ∧ FrOk ρ' nt r.1 ds a' ∧ Steps P (lone (b.at a (.inRegion ⟨all⟩ L :: k)) cs w) (lone (b.at a' (.inRegion ⟨all⟩ [] :: k)) cs w') := by
  simp only [drawOrder, bnd, undQ_eq, infoQ_eq, funcQ_eq, grd_some, Option.some.injEq] at hrun
  obtain ⟨s, hs, hreads, rfl⟩ := hrun
  obtain ⟨D, inv, hall⟩ := runDraw_ok OF PF (drawInv_start (P := P) (ext := ext) (call := call) (nt := nt) (ops := all) (bef := bef) (base := h.next) (tm0 := tm) (sp := sp) (p0 := ⟨none, 0, { objs := h.objs, next := h.next + all.length }⟩)) hO hKO hs
  obtain ⟨fut, hrev, hchain, hlast, hord, hfe, _⟩ := inv.chain
  have F : Found P ext nt all bef h.next tm s.log := ⟨OF, inv.log.one, fun i hi => inv.log.all i hi (hall i hi), inv.recs, fun i t hit => by
    rcases inv.tms t with ⟨q, _, _, _, h4⟩ | ⟨h1, _⟩
    · exact h4
    · obtain ⟨q, hq, hqi⟩ := inv.log.all i (dstOf_lt hit) (hall i (dstOf_lt hit))
      exact absurd (by rw [hqi]; exact hit) (h1 q hq)⟩
  have hview : ∀ i, h.objs.get i = (view h.next s.log 0 ⟨none, 0, { objs := h.objs, next := h.next + all.length }⟩).objs.get i := fun i => by
    apply Option.ext
    intro o
    rw [view_get F.one]
    simp
  have m : MInv P ext call nt all bef h.next tm sp s.log w₀ B ρ h w a.defers s.pos 0 ⟨none, 0, { objs := h.objs, next := h.next + all.length }⟩ fut ρ a w := by
    refine ⟨(Adv.refl hr).bump hview (by rw [view_next]; show h.next ≤ h.next + all.length; omega), fun t => .inr ⟨fun j hj => by simp at hj, hf.tms.at' t⟩, hf.tms.size, rfl, fun i hi => by simp at hi, hchain, hord, fun q _ e _ => by simp, fun q hq hqk _ => hfe q hq hqk, fun e he => by simp at he, fun j hj => by simp at hj,
      fun q hq o ho hqk => ?_, fun i _ _ => hr.free (by omega), fun i _ _ => hr.none_of (hr.free (by omega)), Nat.le_refl _, hlast, rfl⟩
    rw [← hrev]
    exact checkReads_at hreads hq hqk ho
  obtain ⟨d', ρ', a', w', m', hd', hst⟩ := draw_list hx hcall F hsp (b := b) (k := k) (cs := cs) L 0 _ fut ρ a w m hL hKL
  refine ⟨fun t ht => ?_, ρ', a', w', m'.adv.same (fun id => view_eq F.one (fun _ => rfl) (fun q hq ob hqk => ?_) id) (by rw [view_next, view_next]), ⟨⟨m'.tsize, fun t => ?_⟩, ?_⟩, hst⟩
  · rcases inv.tms t with ⟨q, _, _, _, h4⟩ | ⟨_, h2⟩
    · omega
    · exact h2
  · have h1 := hd' q.i (F.lt hq)
    have h2 : (2 ^ all.length - 1).testBit q.i = true := by simp [F.lt hq]
    simp [h1, h2]
  · rcases inv.tms t with ⟨q, h1, h2, h3, _⟩ | ⟨h1, h2⟩
    · show con ρ' (tmv s.tm t) = _
      rw [h3]
      rcases m'.tms t with ⟨q', g1, _, g3, g4⟩ | ⟨g1, _⟩
      · have := F.one q h1 q' g1 (OF.once _ _ t h2 g3)
        rw [this]; exact g4
      · exact absurd h2 (g1 q.i (hd' q.i (F.lt h1)))
    · show con ρ' (tmv s.tm t) = _
      rw [h2]
      rcases m'.tms t with ⟨q', g1, _, g3, _⟩ | ⟨_, g2⟩
      · exact absurd g3 (h1 q' g1)
      · exact g2
  · rw [m'.defs]
    exact hf.defs.ext m'.adv.ext
end Go.Sim
