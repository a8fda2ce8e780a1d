/- The evaluator for the kernel is sound. -/
import Derived.Test.YtenlpijbhhfahaaGreatDoorSimV
import Derived.Test.YtenlpijbhhfahaaGreatDoorSimT
set_option linter.all false
set_option maxHeartbeats 2000000
namespace Go.Sim

theorem tmpS_eq (t : Nat) (tm : TM) : (tmpS t).f tm = tmv tm t := by
  have h : (T.getP (Nat.succ t) t).f tm = T.get tm t := by
    rw [T.get_look, ← T.getP_look (t + 1) t tm (by omega), Stg.ap_eq]
  show Option.rec (motive := fun _ => AV) .undef (fun v => v) ((T.getP (Nat.succ t) t).f tm) = tmv tm t
  rw [h]
  unfold tmv
  cases T.get tm t <;> rfl

theorem putS_eq (t : Nat) (tm : TM) (v : AV) : (putS t).f tm v = tm.set t (some v) := by
  cases t <;> rfl

theorem evS_some {x : Operand} {a : Stg (TM → AV)} (h : evS x = some a) (tm : TM) : ev tm x = some (a.f tm) := by
  cases x with
  | tmp t =>
    simp only [evS, Option.some.injEq] at h
    subst h
    rw [tmpS_eq]; rfl
  | const v =>
    simp only [evS] at h
    simp only [ev]
    cases e : ofVal v with
    | none => rw [e] at h; simp at h
    | some w =>
      rw [e] at h
      simp only [Option.some.injEq] at h
      subst h
      rfl
  | global g => simp [evS] at h
  | func f =>
    simp only [evS, Option.some.injEq] at h
    subst h
    rfl

theorem evS_none {x : Operand} (h : evS x = none) (tm : TM) : ev tm x = none := by
  cases x with
  | tmp t => simp [evS] at h
  | const v =>
    simp only [evS] at h
    simp only [ev]
    cases e : ofVal v with
    | none => rfl
    | some w => rw [e] at h; simp at h
  | global g => rfl
  | func f => simp [evS] at h

theorem evLS_some : ∀ {l : List Operand} {a : Stg (TM → List AV)}, evLS l = some a → ∀ tm, evL tm l = some (a.f tm)
  | [], a, h, tm => by
    simp only [evLS, Option.some.injEq] at h
    subst h
    rfl
  | x :: l, a, h, tm => by
    have h' : evLS (x :: l) = Option.rec (motive := fun _ => Option (Stg (TM → List AV))) none (fun a => Option.rec (motive := fun _ => Option (Stg (TM → List AV))) none
      (fun b => some ⟨fun tm => Stg.ap a tm :: Stg.ap b tm⟩) (evLS l)) (evS x) := rfl
    rw [h'] at h
    cases e : evS x with
    | none => rw [e] at h; simp at h
    | some u =>
      rw [e] at h
      cases e' : evLS l with
      | none => rw [e'] at h; simp at h
      | some w =>
        rw [e'] at h
        simp only [Option.some.injEq] at h
        subst h
        simp only [evL, evS_some e, evLS_some e', Option.bind_some, Stg.ap_eq]

theorem evLS_none : ∀ {l : List Operand}, evLS l = none → ∀ tm, evL tm l = none
  | [], h, tm => by simp [evLS] at h
  | x :: l, h, tm => by
    have h' : evLS (x :: l) = Option.rec (motive := fun _ => Option (Stg (TM → List AV))) none (fun a => Option.rec (motive := fun _ => Option (Stg (TM → List AV))) none
      (fun b => some ⟨fun tm => Stg.ap a tm :: Stg.ap b tm⟩) (evLS l)) (evS x) := rfl
    rw [h'] at h
    cases e : evS x with
    | none => simp [evL, evS_none e]
    | some u =>
      rw [e] at h
      cases e' : evLS l with
      | none => simp only [evL, evS_some e, evLS_none e', Option.bind_some, Option.bind_none]
      | some w => rw [e'] at h; simp at h

theorem dstS_some {nt : Nat} {dst : Option Nat} {d : Stg (TM → AV → TM)} (h : dstS nt dst = some d) (tm : TM) (v : AV) : putT nt tm dst v = some (d.f tm v) := by
  cases dst with
  | none =>
    simp only [dstS, Option.some.injEq] at h
    subst h
    rfl
  | some t =>
    simp only [dstS] at h
    cases e : Nat.blt t nt with
    | false => rw [e] at h; simp at h
    | true =>
      rw [e] at h
      simp only [Option.some.injEq] at h
      subst h
      simp only [putT, e, grd, putS_eq]

theorem dstS_none {nt : Nat} {dst : Option Nat} (h : dstS nt dst = none) (tm : TM) (v : AV) : putT nt tm dst v = none := by
  cases dst with
  | none => simp [dstS] at h
  | some t =>
    simp only [dstS] at h
    cases e : Nat.blt t nt with
    | false => simp only [putT, e, grd]
    | true => rw [e] at h; simp at h

section
variable (P : Program) (ext : Exts)

/-- An operation that is wanted, and what follows. -/
noncomputable def stepK (call : CallF) (dk : Bool) (d : TM → AV → TM) (o : Op) (κ : Kont) (tm : TM) (ds : Defs) (h : AH) : Ro :=
  match pureOp P ext tm o with
  | some v => κ (d tm v) ds h
  | none => match isEff ext o with
    | false => match readOp P ext tm h o with
      | some v => κ (d tm v) ds h
      | none => (allocOp P ext tm o h.next).bind fun r => κ (d tm r.2) ds (h.new r.1)
    | true => (effOp P ext tm h o).bind fun r => match r with
      | .val v h => κ (d tm v) ds h
      | .call f args => (call f args h).bind fun r => κ (d tm r.1) ds r.2
      | .defer f args => κ (d tm .undef) ((f, args) :: ds) h
      | .recover => match dk with
        | true => κ (d tm .nili) ds h
        | false => none

variable {P ext}

theorem withPure_eq {p : Option (TM → Option AV)} {d : Stg (TM → AV → TM)} {rest : OpS} {call : CallF} {κ : Kont} {tm : TM} {ds : Defs} {h : AH} :
    (withPure p d rest).f call κ tm ds h = match app1 p tm with
      | some v => κ (d.f tm v) ds h
      | none => rest.f call κ tm ds h := by
  cases p with
  | none => rfl
  | some f =>
    show Option.rec (motive := fun _ => Ro) (rest.f call κ tm ds h) (fun v => κ (Stg.ap2 d tm v) ds h) (f tm) = _
    simp only [app1]
    cases f tm <;> rfl

theorem withRead_eq {p : Option (TM → AH → Option AV)} {d : Stg (TM → AV → TM)} {rest : OpS} {call : CallF} {κ : Kont} {tm : TM} {ds : Defs} {h : AH} :
    (withRead p d rest).f call κ tm ds h = match app2 p tm h with
      | some v => κ (d.f tm v) ds h
      | none => rest.f call κ tm ds h := by
  cases p with
  | none => rfl
  | some f =>
    show Option.rec (motive := fun _ => Ro) (rest.f call κ tm ds h) (fun v => κ (Stg.ap2 d tm v) ds h) (f tm h) = _
    simp only [app2]
    cases f tm h <;> rfl

theorem withNext_eq (n : Nat) (k : Nat → Ro) : withNext n k = k n := by cases n <;> rfl

theorem allocK_eq {p : Option (TM → Nat → Option (AObj × AV))} {d : Stg (TM → AV → TM)} {call : CallF} {κ : Kont} {tm : TM} {ds : Defs} {h : AH} :
    (allocK d p).f call κ tm ds h = (app2 p tm h.next).bind fun r => κ (d.f tm r.2) ds (h.new r.1) := by
  cases p with
  | none => rfl
  | some f =>
    simp only [allocK, app2, withNext_eq]
    cases f tm h.next <;> rfl

theorem effK_eq {dk : Bool} {p : Option (TM → AH → Option Eff)} {d : Stg (TM → AV → TM)} {call : CallF} {κ : Kont} {tm : TM} {ds : Defs} {h : AH} :
    (effK dk d p).f call κ tm ds h = (app2 p tm h).bind fun r => match r with
      | .val v h => κ (d.f tm v) ds h
      | .call f args => (call f args h).bind fun r => κ (d.f tm r.1) ds r.2
      | .defer f args => κ (d.f tm .undef) ((f, args) :: ds) h
      | .recover => match dk with
        | true => κ (d.f tm .nili) ds h
        | false => none := by
  cases p with
  | none => rfl
  | some f =>
    simp only [app2]
    show Option.rec (motive := fun _ => Ro) none _ (f tm h) = _
    cases f tm h with
    | none => rfl
    | some r =>
      cases r with
      | val v h => rfl
      | call g args => exact obP_eq _ _
      | defer g args => rfl
      | recover => cases dk <;> rfl

theorem slowK_eq {dk : Bool} {d : Stg (TM → AV → TM)} {o : Op} {call : CallF} {κ : Kont} {tm : TM} {ds : Defs} {h : AH} :
    (slowK P ext dk d o).f call κ tm ds h = stepK P ext call dk d.f o κ tm ds h := by
  unfold slowK stepK
  rw [withPure_eq, pureC_eq]
  cases pureOp P ext tm o with
  | some v => rfl
  | none =>
    cases isEff ext o with
    | true => simp only [effK_eq, effC_eq]
    | false => simp only [withRead_eq, readC_eq, allocK_eq, allocC_eq]

/-- An operation that is worked out by its value. -/
theorem pureK_eq {dk : Bool} {d : Stg (TM → AV → TM)} {o : Op} {f : TM → Option AV} {call : CallF} {κ : Kont} {tm : TM} {ds : Defs} {h : AH}
    (hf : f tm = pureOp P ext tm o) (he : isEff ext o = false) (hr : pureOp P ext tm o = none → readOp P ext tm h o = none) (ha : pureOp P ext tm o = none → allocOp P ext tm o h.next = none) :
    (pureK d f).f call κ tm ds h = stepK P ext call dk d.f o κ tm ds h := by
  show obR (f tm) _ = _
  rw [obR_eq, hf]
  unfold stepK
  cases e : pureOp P ext tm o with
  | some v => simp only [Option.bind_some, Stg.ap2_eq]
  | none => simp only [Option.bind_none, he, hr e, ha e]

theorem onInt_eq (v : AV) (k : IntKind → Int → Option AV) : onInt v k = match v with | .int j n => k j n | _ => none := by cases v <;> rfl
theorem onStr_eq (v : AV) (k : Nat → Nat → Option AV) : onStr v k = match v with | .str j n => k j n | _ => none := by cases v <;> rfl
theorem onPtr_eq (v : AV) (k : Nat → Nat → Option AV) : onPtr v k = match v with | .ptr j n => k j n | _ => none := by cases v <;> rfl
theorem onPtrH_eq (v : AV) (k : Nat → Nat → Option AH) : onPtrH v k = match v with | .ptr j n => k j n | _ => none := by cases v <;> rfl
theorem onTup_eq (v : AV) (k : List AV → Option AV) : onTup v k = match v with | .tup l => k l | _ => none := by cases v <;> rfl
theorem onBool_eq (v : AV) (t f : Ro) : onBool v t f = match v with | .bool true => t | .bool false => f | _ => none := by
  cases v with
  | bool b => cases b <;> rfl
  | _ => rfl
theorem onBoolV_eq (v : AV) (t f : Option AV) : onBoolV v t f = match v with | .bool true => t | .bool false => f | _ => none := by
  cases v with
  | bool b => cases b <;> rfl
  | _ => rfl
theorem isB_eq (w : Bool) (v : AV) : isB w v = match v with | .bool b => b == w | _ => false := by
  cases v with
  | bool b => cases b <;> cases w <;> rfl
  | _ => rfl

theorem kindNo_inj {j k : IntKind} (h : Nat.beq (kindNo j) (kindNo k) = true) : j = k := by
  cases j <;> cases k <;> first | rfl | exact absurd h (by decide)

end
end Go.Sim
