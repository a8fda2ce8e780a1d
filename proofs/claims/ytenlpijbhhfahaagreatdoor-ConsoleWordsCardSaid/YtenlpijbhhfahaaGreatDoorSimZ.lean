/- THE EVALUATOR FOR THE KERNEL IS SOUND: what it gives for a call, the call comes to. -/
import Derived.Test.YtenlpijbhhfahaaGreatDoorSimY
set_option linter.all false
set_option maxHeartbeats 2000000
namespace Go.Sim
variable [Sig]
variable {P : Program} {ext : Exts}

theorem codeH_eq {dk : Bool} {nt : Nat} {todo : List Item} {call : CallF} {rec : List Item → Kont} {tm : TM} {ds : Defs} {h : AH} :
    (codeH P ext dk nt todo).f call rec tm ds h = execStep P ext call rec dk nt todo tm ds h := by
  cases todo with
  | nil => rfl
  | cons it k =>
    cases it with
    | code c =>
      cases c with
      | region id ops d =>
        cases d with
        | false =>
          show Stg.ap5 (regS P ext dk nt ops.toList ops.toList) call (rec k) tm ds h = (runOps P ext call dk nt ops.toList ops.toList tm ds h).bind fun r => rec k r.1 r.2.1 r.2.2
          rw [Stg.ap5_eq, regS_eq]
        | true =>
          show thenDraw (drawRegion P ext call nt ops tm h) (fun tm h => rec k tm ds h) = (drawRegion P ext call nt ops tm h).bind fun r => rec k r.1 ds r.2
          cases drawRegion P ext call nt ops tm h <;> rfl
      | cond c x y =>
        simp only [codeH, execStep]
        cases hc : evS c with
        | none => simp only [evS_none hc, Option.bind_none]
        | some a =>
          simp only [onBool_eq, Stg.ap_eq, evS_some hc, Option.bind_some]
          cases a.f tm with
          | bool b => cases b <;> rfl
          | _ => rfl
      | exit id =>
        simp only [codeH, execStep]
        cases exitTo id k <;> rfl
      | _ => rfl
    | _ => rfl

theorem goOn_eq {todo t : List Item} (e : goOn todo = some t) {dk : Bool} {nt : Nat} {call : CallF} {rec : List Item → Kont} {tm : TM} {ds : Defs} {h : AH} :
    execStep P ext call rec dk nt todo tm ds h = rec t tm ds h := by
  unfold goOn at e
  split at e
  · split at e <;> first | (simp only [Option.some.injEq] at e; subst e; rfl) | (simp at e; done) | skip
    rename_i k _ id
    show ((exitTo id k).bind fun k => rec k tm ds h) = _
    rw [e]; rfl
  · simp only [Option.some.injEq] at e; subst e; rfl
  · simp only [Option.some.injEq] at e; subst e; rfl
  · simp at e

variable {w₀ : World} {B : Nat}

theorem goOns_ok (hx : ExtOk P ext) (hmix : P.follows .mixedOrders = true) {call : CallF} (hcall : CallOk P w₀ B call) {dk : Bool} {nt : Nat} {rec : List Item → Kont} {b : Frame} {cs : List Frame} (hb : dk = true → b.kind = .deferred ∧ recoverD cs = none)
    (hrec : ∀ todo tm ds h r, rec todo tm ds h = some r → ∀ ρ a w, Rel w₀ B ρ h w → FrOk ρ nt tm ds a → ∃ ρ' a' w' todo', Adv w₀ B ρ h w ρ' r.2.2 w' ∧ FrOk ρ' nt r.1 r.2.1 a' ∧ Steps P (lone (b.at a todo) cs w) (lone { b.at a' todo' with mode := .returning } cs w')) :
    ∀ (n : Nat) (todo : List Item) (tm : TM) (ds : Defs) (h : AH) (r : TM × Defs × AH), execStep P ext call rec dk nt (goOns n todo) tm ds h = some r → ∀ (ρ : Env) (a : Act) (w : World), Rel w₀ B ρ h w → FrOk ρ nt tm ds a →
      ∃ ρ' a' w' todo', Adv w₀ B ρ h w ρ' r.2.2 w' ∧ FrOk ρ' nt r.1 r.2.1 a' ∧ Steps P (lone (b.at a todo) cs w) (lone { b.at a' todo' with mode := .returning } cs w')
  | 0, todo, tm, ds, h, r, hrun, ρ, a, w, hr, hf => execStep_ok hx hmix hcall hb hrec hrun hr hf
  | n + 1, todo, tm, ds, h, r, hrun, ρ, a, w, hr, hf => by
    simp only [goOns] at hrun
    cases e : goOn todo with
    | none =>
      rw [e] at hrun
      exact execStep_ok hx hmix hcall hb hrec hrun hr hf
    | some t =>
      rw [e] at hrun
      have hrun' : execStep P ext call (fun todo => execStep P ext call rec dk nt (goOns n todo)) dk nt todo tm ds h = some r := by
        rw [goOn_eq e]; exact hrun
      exact execStep_ok hx hmix hcall hb (rec := fun todo => execStep P ext call rec dk nt (goOns n todo)) (fun todo tm ds h r hr' ρ a w h1 h2 => goOns_ok hx hmix hcall hb hrec n todo tm ds h r hr' ρ a w h1 h2) hrun' hr hf

theorem resLS_eq (tm : TM) (h : AH) : ∀ l : List ResultVar, (resLS P l).f tm h = resultL P tm h l
  | [] => rfl
  | .tmp t :: r => by
    have e : (resLS P (.tmp t :: r)).f tm h = Option.rec (motive := fun _ => Option (List AV)) none (fun l => some (Stg.ap (tmpS t) tm :: l)) (Stg.ap2 (resLS P r) tm h) := rfl
    rw [e, Stg.ap2_eq, resLS_eq tm h r, Stg.ap_eq, tmpS_eq]
    simp only [resultL]
    cases resultL P tm h r <;> rfl
  | .cell a t :: r => by
    have e : (resLS P (.cell a t :: r)).f tm h = Option.rec (motive := fun _ => Option (List AV)) none (fun v => Option.rec (motive := fun _ => Option (List AV)) none (fun l => some (v :: l)) (Stg.ap2 (resLS P r) tm h)) (Stg.ap2 (loadS P t) (Stg.ap (tmpS a) tm) h) := rfl
    rw [e, Stg.ap2_eq, Stg.ap2_eq, resLS_eq tm h r, Stg.ap_eq, tmpS_eq, loadS_eq]
    simp only [resultL]
    cases loadAV P h t (tmv tm a) with
    | none => rfl
    | some v =>
      simp only [Option.bind_some]
      cases resultL P tm h r <;> rfl

theorem resultsAV_eq (fn : Func) (tm : TM) (h : AH) : Option.rec (motive := fun _ => CallO) none (fun l => some (oneOf l, h)) ((resLS P fn.results.toList).f tm h) = (resultsAV P fn tm h).bind fun v => some (v, h) := by
  rw [resLS_eq]
  unfold resultsAV
  cases resultL P tm h fn.results.toList with
  | none => rfl
  | some l =>
    cases l with
    | nil => rfl
    | cons v r => cases r <;> rfl

theorem defsR_eq (call : CallF) : ∀ (ds : Defs) (h : AH), defsR call ds h = runDefs call ds h
  | [], h => rfl
  | (f, args) :: ds, h => by
    have e : defsR call ((f, args) :: ds) h = Option.rec (motive := fun _ => Option AH) none (fun r => Prod.rec (motive := fun _ => Option AH) (fun _ h => defsR call ds h) r) (call f args h) := rfl
    rw [e]
    simp only [runDefs]
    cases call f args h with
    | none => rfl
    | some r =>
      obtain ⟨v, h'⟩ := r
      exact defsR_eq call ds h'

theorem lenL_eq : ∀ l : List AV, lenL l = l.length
  | [] => rfl
  | x :: l => by
    have e : lenL (x :: l) = Nat.succ (lenL l) := rfl
    rw [e, lenL_eq l]; rfl

theorem argsR_go : ∀ (l : List AV) (i : Nat) (tm : TM), (List.rec (motive := fun _ => Nat → TM → TM) (fun _ tm => tm) (fun v _ ih i tm => ih (Nat.succ i) (Stg.ap2 (putS i) tm v)) l i tm : TM) = argTM l i tm
  | [], i, tm => rfl
  | v :: l, i, tm => by
    show (List.rec (motive := fun _ => Nat → TM → TM) (fun _ tm => tm) (fun v _ ih i tm => ih (Nat.succ i) (Stg.ap2 (putS i) tm v)) l (Nat.succ i) (Stg.ap2 (putS i) tm v) : TM) = argTM l (i + 1) (tm.set i (some v))
    rw [argsR_go l, Stg.ap2_eq, putS_eq]

theorem argsR_eq (l : List AV) (tm : TM) : argsR l tm = argTM l 0 tm := argsR_go l 0 tm

theorem callFW_eq (ex : ExF) (defers : CallF) (dk : Bool) : callFW P ex defers dk = callWith P ex defers dk := by
  funext f args h
  unfold callFW callWith enterS
  cases funcQ P f with
  | none => rfl
  | some fn =>
    simp only [Option.bind_some]
    cases fn.body with
    | none => rfl
    | some c =>
      simp only [Option.bind_some]
      show Bool.rec (motive := fun _ => CallO) none (Option.rec (motive := fun _ => CallO) none (fun r => Prod.rec (motive := fun _ => CallO) (fun tm r => Prod.rec (motive := fun _ => CallO) (fun ds h =>
          Option.rec (motive := fun _ => CallO) none (fun h => Option.rec (motive := fun _ => CallO) none (fun l => some (oneOf l, h)) ((resLS P fn.results.toList).f tm h)) (defsR defers ds h)) r) r)
          (ex dk fn.ntmps [.code c] (argsR args .nil) [] h)) (Nat.ble (lenL args) fn.ntmps) = _
      rw [lenL_eq, argsR_eq]
      unfold grd
      cases Nat.ble args.length fn.ntmps with
      | false => rfl
      | true =>
        simp only
        cases ex dk fn.ntmps [.code c] (argTM args 0 .nil) [] h with
        | none => rfl
        | some r =>
          obtain ⟨tm, ds, h'⟩ := r
          simp only [Option.bind_some]
          show Option.rec (motive := fun _ => CallO) none (fun h => Option.rec (motive := fun _ => CallO) none (fun l => some (oneOf l, h)) ((resLS P fn.results.toList).f tm h)) (defsR defers ds h') = _
          rw [defsR_eq]
          cases runDefs defers ds h' with
          | none => rfl
          | some h'' => exact resultsAV_eq fn tm h''

theorem callDefF_eq (ex : ExF) : callDefF P ex = callDef P ex := callFW_eq ex _ _

variable {known : CallF}

theorem runF_ok (hx : ExtOk P ext) (hmix : P.follows .mixedOrders = true) (hknown : CallOk P w₀ B known) : ∀ n, ExOk P w₀ B (runF P ext known n)
  | 0 => fun dk nt todo tm ds h r hrun => by
    have e : runF P ext known 0 dk nt todo tm ds h = none := rfl
    rw [e] at hrun
    simp at hrun
  | n + 1 => fun dk nt todo tm ds h r hrun ρ a w b cs hr hf hb => by
    have ih := runF_ok hx hmix hknown n
    have hc := callWith_ok hx ih (callDef_ok ih)
    have e : runF P ext known (n + 1) dk nt todo tm ds h = Stg.ap5 (codeS P ext dk nt todo) (callNext P known (runF P ext known n)) (runF P ext known n dk nt) tm ds h := rfl
    rw [e, Stg.ap5_eq] at hrun
    unfold codeS at hrun
    rw [codeH_eq] at hrun
    refine goOns_ok hx hmix ?_ hb (fun todo tm ds h r hrn ρ a w hr hf => ih dk nt todo tm ds h r hrn ρ a w b cs hr hf hb) 60 todo tm ds h r hrun ρ a w hr hf
    intro ρ h w f args args' v h' hr hargs hcall
    have e' : callNext P known (runF P ext known n) f args h = Option.rec (motive := fun _ => CallO) (callFW P (runF P ext known n) (callDefF P (runF P ext known n)) false f args h) (fun r => some r) (known f args h) := rfl
    rw [e', callDefF_eq, callFW_eq] at hcall
    cases hq : known f args h with
    | none =>
      rw [hq] at hcall
      exact hc ρ h w f args args' v h' hr hargs hcall
    | some q =>
      rw [hq] at hcall
      simp only [Option.some.injEq] at hcall
      subst hcall
      exact hknown ρ h w f args args' v h' hr hargs hq

/-- THE EVALUATOR FOR THE KERNEL IS SOUND. -/
theorem runCallF_ok (hx : ExtOk P ext) (hmix : P.follows .mixedOrders = true) (hknown : CallOk P w₀ B known) (n : Nat) : CallOk P w₀ B (runCallF P ext known n) := by
  unfold runCallF
  rw [callFW_eq, callDefF_eq]
  exact callWith_ok hx (runF_ok hx hmix hknown n) (callDef_ok (runF_ok hx hmix hknown n))
end Go.Sim
