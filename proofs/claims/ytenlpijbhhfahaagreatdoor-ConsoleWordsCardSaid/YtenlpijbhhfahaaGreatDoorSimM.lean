/- The evaluator, its soundness, eleventh part: regions in the order of the text. -/
import Derived.Test.YtenlpijbhhfahaaGreatDoorSimL
import Derived.Recover
set_option linter.all false
set_option maxHeartbeats 2000000
namespace Go.Sim
variable [Sig]
variable {P : Program}

/-- Calls that are put off. -/
def DefsOk (ρ : Env) : Defs → List Deferred → Prop
  | [], [] => True
  | (f, args) :: ds, d :: ds' => (∃ first cap, d = { target := .fn (.func f) ⟨cap⟩, args := ⟨first⟩ } ∧ conL ρ args = some (first ++ cap)) ∧ DefsOk ρ ds ds'
  | _, _ => False

theorem DefsOk.ext {ρ ρ' : Env} (he : Ext' ρ ρ') : ∀ {ds : Defs} {ds' : List Deferred}, DefsOk ρ ds ds' → DefsOk ρ' ds ds'
  | [], [], _ => trivial
  | (_, _) :: _, _ :: _, ⟨⟨first, cap, h1, h2⟩, h3⟩ => ⟨⟨first, cap, h1, conL_ext he _ _ h2⟩, DefsOk.ext he h3⟩
  | [], _ :: _, h => h.elim
  | _ :: _, [], h => h.elim

/-- What a frame holds. -/
structure FrOk (ρ : Env) (nt : Nat) (tm : TM) (ds : Defs) (a : Act) : Prop where
  tms : TMs ρ nt tm a.tmps
  defs : DefsOk ρ ds a.defers

theorem FrOk.ext {ρ ρ' : Env} {nt : Nat} {tm : TM} {ds : Defs} {a : Act} (h : FrOk ρ nt tm ds a) (he : Ext' ρ ρ') : FrOk ρ' nt tm ds a := ⟨h.tms.ext he, h.defs.ext he⟩

theorem FrOk.put {ρ : Env} {nt : Nat} {tm tm' : TM} {ds : Defs} {a : Act} {dst : Option Nat} {v : AV} {x : Value} (h : FrOk ρ nt tm ds a) (hp : putT nt tm dst v = some tm') (hv : con ρ v = some x) : FrOk ρ nt tm' ds (a.put dst x) :=
  ⟨h.tms.put hp hv, by rw [put_defers]; exact h.defs⟩

theorem con_undef (ρ : Env) : con ρ .undef = some undef := by simp only [con]; rfl

/-- Calls, as the evaluator gives them. -/
def CallOk (P : Program) (w₀ : World) (B : Nat) (call : CallF) : Prop :=
  ∀ (ρ : Env) (h : AH) (w : World) (f : FuncId) (args : List AV) (args' : List Value) (v : AV) (h' : AH), Rel w₀ B ρ h w → conL ρ args = some args' → call f args h = some (v, h') →
    (∃ fn, P.funcs[f]? = some fn ∧ fn.body.isSome = true) ∧ Calls P f ⟨args'⟩ w fun e w' => ∃ ρ' x, e = .returned x ∧ Adv w₀ B ρ h w ρ' h' w' ∧ con ρ' v = some x

/-- Calls that were put off, out of a frame that returns. -/
def DefOk (P : Program) (w₀ : World) (B : Nat) (call : CallF) : Prop :=
  ∀ (ρ : Env) (h : AH) (w : World) (f : FuncId) (args : List AV) (args' : List Value) (v : AV) (h' : AH), Rel w₀ B ρ h w → conL ρ args = some args' → call f args h = some (v, h') →
    (∃ fn, P.funcs[f]? = some fn ∧ fn.body.isSome = true) ∧ CallsD P f ⟨args'⟩ .returning w fun e u w' => u = .returning ∧ ∃ ρ' x, e = .returned x ∧ Adv w₀ B ρ h w ρ' h' w' ∧ con ρ' v = some x

theorem con_bool_only {ρ : Env} {v : AV} {b : Bool} (h : con ρ v = some (.bool b)) (hn : ∀ b, v ≠ .bool b) : False := by
  cases v with
  | bool c => exact hn c rfl
  | opq i =>
    simp only [con, Option.map_eq_some_iff] at h
    obtain ⟨a, ha, h⟩ := h
    cases a with
    | bool c => exact Sig.noBool i c ha
    | _ => simp [Atom.val] at h
  | slo id off len cap =>
    obtain ⟨_, _, _, e⟩ := con_slo h
    simp at e
  | sle id off len cap =>
    obtain ⟨_, _, _, e⟩ := con_sle h
    simp at e
  | fn f a c =>
    obtain ⟨_, _, _, _, e⟩ := con_fn h
    simp at e
  | _ =>
    first
      | (simp only [con, Option.some.injEq, reduceCtorEq] at h; done)
      | (simp only [con, bnd, undQ_eq, infoQ_eq, funcQ_eq, Option.some.injEq] at h; obtain ⟨_, _, h⟩ := h; simp at h; done)

theorem wanted_ok {ρ : Env} {nt : Nat} {tm : TM} {a : Act} {ops : Array Oper} (h : TMs ρ nt tm a.tmps) (o : Oper) : Region.wanted o (yielded ops a.tmps) = wantedAV ops.toList tm o := by
  unfold Region.wanted wantedAV
  cases hg : o.guard with
  | none => rfl
  | some g =>
    obtain ⟨j, want⟩ := g
    simp only [yielded, Array.getElem?_toList]
    cases hj : ops[j]? with
    | none => simp
    | some p =>
      simp only [Option.bind_some]
      cases hd : p.dst with
      | none => simp
      | some d =>
        simp only [Option.bind_some]
        have hat := h.at' d
        rw [Array.getD_eq_getD_getElem?] at hat
        cases ht : a.tmps[d]? with
        | none =>
          rw [ht] at hat
          simp only [Option.getD_none] at hat
          cases e : tmv tm d with
          | bool b => rw [e, con_b] at hat; simp [undef] at hat
          | _ => simp
        | some x =>
          rw [ht] at hat
          simp only [Option.getD_some] at hat
          cases e : tmv tm d with
          | bool b =>
            rw [e, con_b] at hat
            simp only [Option.some.injEq] at hat
            subst hat
            rfl
          | _ =>
            have hx : ∀ b, x ≠ .bool b := fun b hb => by
              subst hb
              rw [e] at hat
              exact con_bool_only hat (by intro b; simp)
            cases x <;> first | rfl | exact absurd rfl (hx _)

section
variable {b : Frame} {a : Act} {k : List Item} {cs : List Frame} {w w' : World} {ops : Array Oper} {i : Nat} {rest : List Nat} {o : Oper}

theorem steps_value (ho : ops[i]? = some o) (hw : Region.wanted o (yielded ops a.tmps) = true) {z : Value} (hr : (execOp a.eval o).run P w = .ok (.value z) w') :
    Steps P (lone (b.at a (.inRegion ops (i :: rest) :: k)) cs w) (lone (b.at (a.put o.dst z) (.inRegion ops rest :: k)) cs w') := by
  have hg := stepG_op (P := P) (b := b) (k := k) (cs := cs) (w := w) (rest := rest) ho hw
  have hfin : (b.at a (.inRegion ops (i :: rest) :: k)).finish z = b.at (a.put o.dst z) (.inRegion ops rest :: k) := by
    rw [Frame.finish_at, ho]; rfl
  exact .one (step_lone_go (by rw [hg, ← hfin]; simp [stepG.apply, hr]))

theorem steps_skip (ho : ops[i]? = some o) (hw : Region.wanted o (yielded ops a.tmps) = true) (hr : (execOp a.eval o).run P w = .ok .skip w') :
    Steps P (lone (b.at a (.inRegion ops (i :: rest) :: k)) cs w) (lone (b.at (a.put o.dst undef) (.inRegion ops rest :: k)) cs w') := by
  have hg := stepG_op (P := P) (b := b) (k := k) (cs := cs) (w := w) (rest := rest) ho hw
  have hfin : (b.at a (.inRegion ops (i :: rest) :: k)).finish undef = b.at (a.put o.dst undef) (.inRegion ops rest :: k) := by
    rw [Frame.finish_at, ho]; rfl
  exact .one (step_lone_go (by rw [hg, ← hfin]; simp [stepG.apply, hr]))

theorem steps_unwanted (ho : ops[i]? = some o) (hw : Region.wanted o (yielded ops a.tmps) = false) :
    Steps P (lone (b.at a (.inRegion ops (i :: rest) :: k)) cs w) (lone (b.at (a.put o.dst undef) (.inRegion ops rest :: k)) cs w) := by
  have hs := step_op_skip (P := P) (b := b) (a := a) (k := k) (cs := cs) (w := w) (ops := ops) (i := i) (rest := rest) (by simp [ho, hw])
  simp only [ho, Option.bind_some] at hs
  exact .one hs

theorem steps_defer (ho : ops[i]? = some o) (hw : Region.wanted o (yielded ops a.tmps) = true) {d : Deferred} (hr : (execOp a.eval o).run P w = .ok (.defer d) w') :
    Steps P (lone (b.at a (.inRegion ops (i :: rest) :: k)) cs w) (lone (b.at ({ a with defers := d :: a.defers }.put o.dst undef) (.inRegion ops rest :: k)) cs w') := by
  have hg := stepG_op (P := P) (b := b) (k := k) (cs := cs) (w := w) (rest := rest) ho hw
  refine .one (step_lone_go ?_)
  have : ({ b.at a (.inRegion ops (i :: rest) :: k) with defers := d :: a.defers } : Frame).finish undef =
      b.at ({ a with defers := d :: a.defers }.put o.dst undef) (.inRegion ops rest :: k) := by
    have := Frame.finish_at b { a with defers := d :: a.defers } ops i rest k undef
    rw [ho] at this; exact this
  rw [hg]; simp only [stepG.apply, Sem.runT_eq, hr, GStep.bare_after]
  exact congrArg (fun fr => GStep.go { frame := fr, callers := cs, status := .running, dying := none } w') this

theorem steps_call (ho : ops[i]? = some o) (hw : Region.wanted o (yielded ops a.tmps) = true) {f : FuncId} {args : Array Value} (hr : (execOp a.eval o).run P w = .ok (.enter f args) w') {R : Value → World → Prop}
    (hc : Calls P f args w' fun e w'' => ∃ x, e = .returned x ∧ R x w'') :
    ∃ x w'', R x w'' ∧ Steps P (lone (b.at a (.inRegion ops (i :: rest) :: k)) cs w) (lone (b.at (a.put o.dst x) (.inRegion ops rest :: k)) cs w'') := by
  have hg := stepG_op (P := P) (b := b) (k := k) (cs := cs) (w := w) (rest := rest) ho hw
  obtain ⟨e, w'', fr, ⟨x, rfl, hR⟩, hsteps, _, hleave⟩ := hc (b.at a (.inRegion ops (i :: rest) :: k) :: cs)
  have henter : step P (lone (b.at a (.inRegion ops (i :: rest) :: k)) cs w) =
      .next (lone (Frame.enter P f args .normal) (b.at a (.inRegion ops (i :: rest) :: k) :: cs) w') :=
    step_lone_go (by rw [hg]; simp [stepG.apply, hr, Frame.at])
  have hfin : (b.at a (.inRegion ops (i :: rest) :: k)).finish x = b.at (a.put o.dst x) (.inRegion ops rest :: k) := by
    rw [Frame.finish_at, ho]; rfl
  refine ⟨x, w'', hR, .head henter (Steps.trans hsteps (.one ?_))⟩
  rw [← hfin]; exact step_leave_returned hleave

theorem steps_recover (ho : ops[i]? = some o) (hw : Region.wanted o (yielded ops a.tmps) = true) (hb : b.kind = .deferred) (hcs : recoverD cs = none) (hr : (execOp a.eval o).run P w = .ok .recover w') :
    Steps P (lone (b.at a (.inRegion ops (i :: rest) :: k)) cs w) (lone (b.at (a.put o.dst .nilIface) (.inRegion ops rest :: k)) cs w') := by
  have hg := stepG_op (P := P) (b := b) (k := k) (cs := cs) (w := w) (rest := rest) ho hw
  have hfin : (b.at a (.inRegion ops (i :: rest) :: k)).finish .nilIface = b.at (a.put o.dst .nilIface) (.inRegion ops rest :: k) := by
    rw [Frame.finish_at, ho]; rfl
  have hk : (b.at a (.inRegion ops (i :: rest) :: k)).kind = .deferred := hb
  have htr := tryRecover_deferred hk cs
  refine .one (step_lone_go ?_)
  rw [hg, ← hfin]
  simp only [Frame.at] at htr ⊢
  simp [stepG.apply, hr, htr, hcs]
end

variable {ext : Exts}

theorem runOps_ok (hx : ExtOk P ext) {w₀ : World} {B : Nat} {call : CallF} (hcall : CallOk P w₀ B call) {dk : Bool} {nt : Nat} {all : List Oper} {b : Frame} {k : List Item} {cs : List Frame} (hb : dk = true → b.kind = .deferred ∧ recoverD cs = none) :
    ∀ (os : List Oper) (i : Nat) (tm : TM) (ds : Defs) (h : AH) (r : TM × Defs × AH), all.drop i = os → runOps P ext call dk nt all os tm ds h = some r →
      ∀ (ρ : Env) (a : Act) (w : World), Rel w₀ B ρ h w → FrOk ρ nt tm ds a →
      ∃ ρ' a' w', Adv w₀ B ρ h w ρ' r.2.2 w' ∧ FrOk ρ' nt r.1 r.2.1 a' ∧ Steps P (lone (b.at a (.inRegion ⟨all⟩ (List.range' i os.length) :: k)) cs w) (lone (b.at a' (.inRegion ⟨all⟩ [] :: k)) cs w')
  | [], i, tm, ds, h, r, _, hrun, ρ, a, w, hr, hf => by
    simp only [runOps, Option.some.injEq] at hrun
    subst hrun
    exact ⟨ρ, a, w, Adv.refl hr, hf, Steps.refl P _⟩
  | o :: os, i, tm, ds, h, r, hd, hrun, ρ, a, w, hr, hf => by
    have hoi : all[i]? = some o := by
      have := congrArg (fun l => l[0]?) hd
      simpa [List.getElem?_drop] using this
    have hd' : all.drop (i + 1) = os := by
      rw [← List.drop_drop, hd]
      rfl
    have ho : (⟨all⟩ : Array Oper)[i]? = some o := by simpa using hoi
    have hwant := wanted_ok (ops := ⟨all⟩) hf.tms o
    have hrange : List.range' i (o :: os).length = i :: List.range' (i + 1) os.length := by simp [List.range'_succ]
    rw [hrange]
    have hnext : ∀ (ρ₁ : Env) (a₁ : Act) (w₁ : World) (tm₁ : TM) (ds₁ : Defs) (h₁ : AH), Adv w₀ B ρ h w ρ₁ h₁ w₁ → FrOk ρ₁ nt tm₁ ds₁ a₁ → runOps P ext call dk nt all os tm₁ ds₁ h₁ = some r →
        Steps P (lone (b.at a (.inRegion ⟨all⟩ (i :: List.range' (i + 1) os.length) :: k)) cs w) (lone (b.at a₁ (.inRegion ⟨all⟩ (List.range' (i + 1) os.length) :: k)) cs w₁) →
        ∃ ρ' a' w', Adv w₀ B ρ h w ρ' r.2.2 w' ∧ FrOk ρ' nt r.1 r.2.1 a' ∧ Steps P (lone (b.at a (.inRegion ⟨all⟩ (i :: List.range' (i + 1) os.length) :: k)) cs w) (lone (b.at a' (.inRegion ⟨all⟩ [] :: k)) cs w') := fun ρ₁ a₁ w₁ tm₁ ds₁ h₁ hadv hf₁ hrun₁ hst => by
      obtain ⟨ρ', a', w', h1, h2, h3⟩ := runOps_ok hx hcall hb os (i + 1) tm₁ ds₁ h₁ r hd' hrun₁ ρ₁ a₁ w₁ hadv.rel hf₁
      exact ⟨ρ', a', w', hadv.trans h1, h2, Steps.trans hst h3⟩
    simp only [runOps] at hrun
    split at hrun
    · rename_i hw
      simp only [bnd, undQ_eq, infoQ_eq, funcQ_eq] at hrun
      obtain ⟨tm₁, hp, hrun⟩ := hrun
      rw [show (⟨all⟩ : Array Oper).toList = all from rfl, hw] at hwant
      exact hnext ρ _ w tm₁ ds h (Adv.refl hr) (hf.put hp (con_undef ρ)) hrun (steps_unwanted ho hwant)
    · rename_i hw
      rw [show (⟨all⟩ : Array Oper).toList = all from rfl, hw] at hwant
      have hev : EvOk ρ tm a o.op.operands.toList := hf.tms.evOk _
      split at hrun
      · rename_i v hv
        simp only [bnd, undQ_eq, infoQ_eq, funcQ_eq] at hrun
        obtain ⟨tm₁, hp, hrun⟩ := hrun
        obtain ⟨z, hz, hex⟩ := pure_ok hx hev hv
        exact hnext ρ _ w tm₁ ds h (Adv.refl hr) (hf.put hp hz) hrun (steps_value ho hwant (hex w))
      · split at hrun
        · split at hrun
          · rename_i v hv
            simp only [bnd, undQ_eq, infoQ_eq, funcQ_eq] at hrun
            obtain ⟨tm₁, hp, hrun⟩ := hrun
            obtain ⟨z, hz, hex⟩ := read_ok hx hr hev hv
            exact hnext ρ _ w tm₁ ds h (Adv.refl hr) (hf.put hp hz) hrun (steps_value ho hwant hex)
          · simp only [bnd, undQ_eq, infoQ_eq, funcQ_eq] at hrun
            obtain ⟨p, hal, tm₁, hp, hrun⟩ := hrun
            obtain ⟨z, w', hmade, hex⟩ := alloc_ok hx hev (hr.free (Nat.le_refl _)) hal
            obtain ⟨ρ₁, hadv, hz⟩ := hmade.adv hr
            exact hnext ρ₁ _ w' tm₁ ds _ hadv ((hf.ext hadv.ext).put hp hz) hrun (steps_value ho hwant hex)
        · simp only [bnd, undQ_eq, infoQ_eq, funcQ_eq] at hrun
          obtain ⟨ef, hef, hrun⟩ := hrun
          have hok := eff_ok hx hr hev hef
          cases ef with
          | val v h₁ =>
            simp only [bnd, undQ_eq, infoQ_eq, funcQ_eq] at hrun
            obtain ⟨tm₁, hp, hrun⟩ := hrun
            obtain ⟨ρ₁, w', n, hadv, hex, hn⟩ := hok
            rcases hn with ⟨z, rfl, hz⟩ | ⟨rfl, rfl⟩
            · exact hnext ρ₁ _ w' tm₁ ds _ hadv ((hf.ext hadv.ext).put hp hz) hrun (steps_value ho hwant hex)
            · exact hnext ρ₁ _ w' tm₁ ds _ hadv ((hf.ext hadv.ext).put hp (con_undef ρ₁)) hrun (steps_skip ho hwant hex)
          | call f args =>
            simp only [bnd, undQ_eq, infoQ_eq, funcQ_eq] at hrun
            obtain ⟨c, hc, tm₁, hp, hrun⟩ := hrun
            obtain ⟨args', hargs, hex⟩ := hok
            obtain ⟨⟨fn, hfn, hbody⟩, hcalls⟩ := hcall ρ h w f args args' c.1 c.2 hr hargs hc
            have hcalls' : Calls P f ⟨args'⟩ w fun e w' => ∃ x, e = .returned x ∧ ∃ ρ', Adv w₀ B ρ h w ρ' c.2 w' ∧ con ρ' c.1 = some x :=
              Calls.mono hcalls fun e w' ⟨ρ', x, h1, h2, h3⟩ => ⟨x, h1, ρ', h2, h3⟩
            obtain ⟨x, w', ⟨ρ₁, hadv, hz⟩, hst⟩ := steps_call (b := b) (a := a) (k := k) (cs := cs) (rest := List.range' (i + 1) os.length) ho hwant (hex fn hfn hbody) hcalls'
            exact hnext ρ₁ _ w' tm₁ ds _ hadv ((hf.ext hadv.ext).put hp hz) hrun hst
          | defer f args =>
            simp only [bnd, undQ_eq, infoQ_eq, funcQ_eq] at hrun
            obtain ⟨tm₁, hp, hrun⟩ := hrun
            obtain ⟨first, cap, hargs, hex⟩ := hok
            have hf' : FrOk ρ nt tm ((f, args) :: ds) { a with defers := { target := .fn (.func f) ⟨cap⟩, args := ⟨first⟩ } :: a.defers } := ⟨hf.tms, ⟨first, cap, rfl, hargs⟩, hf.defs⟩
            exact hnext ρ _ w tm₁ _ h (Adv.refl hr) (hf'.put hp (con_undef ρ)) hrun (steps_defer ho hwant hex)
          | recover =>
            simp only [grd_some, bnd, undQ_eq, infoQ_eq, funcQ_eq] at hrun
            obtain ⟨hdk, tm₁, hp, hrun⟩ := hrun
            obtain ⟨hk, hrec⟩ := hb hdk
            exact hnext ρ _ w tm₁ ds h (Adv.refl hr) (hf.put hp (by simp only [con])) hrun (steps_recover ho hwant hk hrec hok)
end Go.Sim
