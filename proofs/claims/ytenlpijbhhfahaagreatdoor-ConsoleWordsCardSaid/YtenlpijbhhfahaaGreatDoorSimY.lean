/- The evaluator for the kernel is sound, third part: operations, regions, code, calls. -/
import Derived.Test.YtenlpijbhhfahaaGreatDoorSimX
set_option linter.all false
set_option maxHeartbeats 2000000
namespace Go.Sim
variable {P : Program} {ext : Exts}

theorem stepK_pure {call : CallF} {dk : Bool} {d : TM → AV → TM} {o : Op} {κ : Kont} {tm : TM} {ds : Defs} {h : AH} (he : isEff ext o = false) (hr : pureOp P ext tm o = none → readOp P ext tm h o = none) (ha : pureOp P ext tm o = none → allocOp P ext tm o h.next = none) :
    stepK P ext call dk d o κ tm ds h = (pureOp P ext tm o).bind fun v => κ (d tm v) ds h := by
  unfold stepK
  cases e : pureOp P ext tm o with
  | some v => rfl
  | none => simp only [he, hr e, ha e, Option.bind_none]

theorem failS_eq (call : CallF) (κ : Kont) (tm : TM) (ds : Defs) (h : AH) : failS.f call κ tm ds h = none := rfl

theorem pureK_f (d : Stg (TM → AV → TM)) (f : TM → Option AV) (call : CallF) (κ : Kont) (tm : TM) (ds : Defs) (h : AH) : (pureK d f).f call κ tm ds h = (f tm).bind fun v => κ (d.f tm v) ds h := by
  show obR (f tm) _ = _
  rw [obR_eq]
  simp only [Stg.ap2_eq]

theorem opU_eq {dk : Bool} {d : Stg (TM → AV → TM)} {o : Op} {call : CallF} {κ : Kont} {tm : TM} {ds : Defs} {h : AH} :
    (opU P ext dk d o).f call κ tm ds h = stepK P ext call dk d.f o κ tm ds h := by
  cases o
  case move x =>
    rw [stepK_pure rfl (fun _ => rfl) (fun _ => rfl)]
    simp only [opU, ev1, pureOp, oraOp, orV_none, pureOp0]
    cases hx : evS x with
    | none => simp only [evS_none hx, Option.bind_none, failS_eq]
    | some a => simp only [evS_some hx, Option.bind_some, Stg.ap2_eq, Stg.ap_eq]
  case assign x =>
    rw [stepK_pure rfl (fun _ => rfl) (fun _ => rfl)]
    simp only [opU, ev1, pureOp, oraOp, orV_none, pureOp0]
    cases hx : evS x with
    | none => simp only [evS_none hx, Option.bind_none, failS_eq]
    | some a => simp only [evS_some hx, Option.bind_some, Stg.ap2_eq, Stg.ap_eq]
  case pick c x y =>
    rw [stepK_pure rfl (fun _ => rfl) (fun _ => rfl)]
    simp only [opU, ev1, pureOp, oraOp, orV_none, pureOp0]
    cases hc : evS c with
    | none => simp only [evS_none hc, Option.bind_none, failS_eq]
    | some u =>
      cases hx : evS x with
      | none => simp only [evS_none hx, Option.bind_none, Option.bind_fun_none, failS_eq, evS_some hc, Option.bind_some]
      | some a =>
        cases hy : evS y with
        | none => simp only [evS_none hy, Option.bind_none, failS_eq, evS_some hc, evS_some hx, Option.bind_some]
        | some b =>
          simp only [pureK_f, onBoolV_eq, Stg.ap_eq, evS_some hc, evS_some hx, evS_some hy, Option.bind_some]
          rfl
  case binOp op t x y u =>
    rw [stepK_pure rfl (fun _ => rfl) (fun _ => rfl)]
    simp only [opU, ev1, pureOp, oraOp, pureOp0]
    cases hx : evS x with
    | none => simp only [evS_none hx, Option.bind_none, orV_none, failS_eq]
    | some a =>
      cases hy : evS y with
      | none => simp only [evS_none hy, Option.bind_none, failS_eq, evS_some hx, Option.bind_some, orV_none]
      | some b => simp only [pureK_f, Stg.ap2_eq, binS_eq, Stg.ap_eq, evS_some hx, evS_some hy, Option.bind_some]
  case nilCheck x =>
    rw [stepK_pure rfl (fun _ => rfl) (fun _ => rfl)]
    simp only [opU, ev1, pureOp, oraOp, orV_none, pureOp0]
    cases hx : evS x with
    | none => simp only [evS_none hx, Option.bind_none, failS_eq]
    | some a =>
      simp only [pureK_f, nilFast_eq, Stg.ap_eq, evS_some hx, Option.bind_some]
      rfl
  case fieldAddr s x i =>
    rw [stepK_pure rfl (fun _ => rfl) (fun _ => rfl)]
    simp only [opU, ev1, pureOp, oraOp, orV_none, pureOp0]
    cases hx : evS x with
    | none => simp only [evS_none hx, Option.bind_none, failS_eq]
    | some a => simp only [pureK_f, fieldAddrS_eq, Stg.ap_eq, evS_some hx, Option.bind_some]
  case index t x ix =>
    rw [stepK_pure rfl (fun _ => rfl) (fun _ => rfl)]
    simp only [opU, ev1, pureOp, oraOp, orV_none, pureOp0]
    cases hx : evS x with
    | none => simp only [evS_none hx, Option.bind_none, failS_eq]
    | some a =>
      cases hy : evS ix with
      | none => simp only [evS_none hy, Option.bind_none, failS_eq, evS_some hx, Option.bind_some]
      | some b => simp only [pureK_f, Stg.ap2_eq, indexS_eq, Stg.ap_eq, evS_some hx, evS_some hy, Option.bind_some]
  case extract x i =>
    rw [stepK_pure rfl (fun _ => rfl) (fun _ => rfl)]
    simp only [opU, ev1, pureOp, oraOp, orV_none, pureOp0]
    cases hx : evS x with
    | none => simp only [evS_none hx, Option.bind_none, failS_eq]
    | some a =>
      simp only [pureK_f, onTup_eq, nthO_eq, Stg.ap_eq, evS_some hx, Option.bind_some]
      cases a.f tm <;> rfl
  case load t x =>
    unfold stepK
    have hp : pureOp P ext tm (.load t x) = none := rfl
    have he : isEff ext (.load t x) = false := rfl
    have ha : allocOp P ext tm (.load t x) h.next = none := rfl
    rw [hp, he, ha]
    simp only [opU, ev1, readOp, oraRead, orV_none, readOp0]
    cases hx : evS x with
    | none => simp only [evS_none hx, Option.bind_none, failS_eq]
    | some a =>
      simp only [obR_eq, Stg.ap2_eq, loadS_eq, Stg.ap_eq, evS_some hx, Option.bind_some]
      cases loadAV P h t (a.f tm) <;> rfl
  case store t x y =>
    unfold stepK
    have hp : pureOp P ext tm (.store t x y) = none := rfl
    have he : isEff ext (.store t x y) = true := rfl
    rw [hp, he]
    simp only [opU, ev1, effOp]
    cases hx : evS x with
    | none => simp only [evS_none hx, Option.bind_none, failS_eq]
    | some a =>
      cases hy : evS y with
      | none => simp only [evS_none hy, Option.bind_none, failS_eq, evS_some hx, Option.bind_some]
      | some b =>
        simp only [obH_eq, Stg.ap2_eq, Stg.ap3_eq, storeS_eq, Stg.ap_eq, evS_some hx, evS_some hy, Option.bind_some]
        cases storeAV P h t (a.f tm) (b.f tm) <;> rfl
  case call c =>
    simp only [opU]
    unfold callU
    split
    · rename_i x t ts
      cases hl : lenS P t with
      | none => exact slowK_eq
      | some f =>
        have hn := lenS_noMap hl
        have hp : pureOp P ext tm (.call ⟨.builtin .len, ⟨[x]⟩, ⟨t :: ts⟩⟩) = orV ((ev tm x).bind fun v => lenAV P t v) ((ev tm x).bind fun v => oraLen P ext t v) := rfl
        have hr : readOp P ext tm h (.call ⟨.builtin .len, ⟨[x]⟩, ⟨t :: ts⟩⟩) = none := by
          unfold readOp
          rw [show oraRead P ext tm h (.call ⟨.builtin .len, ⟨[x]⟩, ⟨t :: ts⟩⟩) = none from rfl, orV_none]
          show ((undQ P t).bind fun d => (asMap d).bind fun _ => _) = none
          cases hu : undQ P t with
          | none => rfl
          | some d =>
            rw [hu] at hn
            simp only [Option.bind_some] at hn ⊢
            rw [hn]; rfl
        rw [stepK_pure rfl (fun _ => hr) (fun _ => rfl), hp]
        simp only [ev1]
        cases hx : evS x with
        | none => simp only [evS_none hx, Option.bind_none, orV_none, failS_eq]
        | some a => simp only [pureK_f, lenS_eq hl, Stg.ap_eq, evS_some hx, Option.bind_some]
    · rename_i f as ts
      cases hf : ext f with
      | some e => exact slowK_eq
      | none =>
        unfold stepK
        have hp : pureOp P ext tm (.call ⟨.value (.func f), ⟨as⟩, ts⟩) = none := by simp only [pureOp, oraOp, orV_none, pureOp0, hf, Option.bind_none]
        have he : isEff ext (.call ⟨.value (.func f), ⟨as⟩, ts⟩) = true := by simp only [isEff, hf]
        rw [hp, he]
        simp only [effOp, ev, Option.bind_some]
        cases hl : evLS as with
        | none => simp only [evLS_none hl, Option.bind_none, failS_eq]
        | some l =>
          simp only [evLS_some hl, Option.bind_some, callArgs, List.nil_append, List.append_nil, hf]
          simp only [callK, obP_eq, Stg.ap_eq, Stg.ap2_eq]
    · exact slowK_eq
  all_goals exact slowK_eq

theorem dstOfO_eq (all : List Oper) (o : Oper) (tm : TM) : wantedAV all tm o = match o.guard with
    | none => true
    | some (j, w) => match dstOfO all j with
      | none => false
      | some d => isB w (tmv tm d) := by
  unfold wantedAV dstOfO
  cases o.guard with
  | none => rfl
  | some g =>
    obtain ⟨j, w⟩ := g
    simp only
    cases all[j]? with
    | none => rfl
    | some p =>
      simp only
      cases p.dst with
      | none => rfl
      | some d =>
        simp only [isB_eq]
        cases tmv tm d <;> rfl

/-- What an operation and what follows come to. -/
theorem opS_eq {dk : Bool} {nt : Nat} {all : List Oper} {o : Oper} {call : CallF} {κ : Kont} {tm : TM} {ds : Defs} {h : AH} :
    (opS P ext dk nt all o).f call κ tm ds h = match dstS nt o.dst with
      | none => none
      | some d => match wantedAV all tm o with
        | false => κ (d.f tm .undef) ds h
        | true => stepK P ext call dk d.f o.op κ tm ds h := by
  unfold opS
  rw [dstOfO_eq]
  cases dstS nt o.dst with
  | none => rfl
  | some d =>
    simp only
    cases o.guard with
    | none => exact opU_eq
    | some g =>
      obtain ⟨j, w⟩ := g
      simp only
      cases dstOfO all j with
      | none => simp only [Stg.ap2_eq]
      | some e =>
        show Bool.rec (motive := fun _ => Ro) (κ (Stg.ap2 d tm .undef) ds h) ((opU P ext dk d o.op).f call κ tm ds h) (isB w (Stg.ap (tmpS e) tm)) = _
        rw [opU_eq, Stg.ap_eq, tmpS_eq]
        simp only
        cases isB w (tmv tm e) <;> simp only [Stg.ap2_eq]

theorem regS_eq {dk : Bool} {nt : Nat} {all : List Oper} {call : CallF} {κ : Kont} : ∀ (ops : List Oper) (tm : TM) (ds : Defs) (h : AH),
    (regS P ext dk nt all ops).f call κ tm ds h = (runOps P ext call dk nt all ops tm ds h).bind fun r => κ r.1 r.2.1 r.2.2
  | [], tm, ds, h => rfl
  | o :: os, tm, ds, h => by
    have h1 : (regS P ext dk nt all (o :: os)).f call κ tm ds h = (opS P ext dk nt all o).f call (fun tm ds h => Stg.ap5 (regS P ext dk nt all os) call κ tm ds h) tm ds h := rfl
    rw [h1, opS_eq]
    simp only [Stg.ap5_eq, runOps]
    cases hd : dstS nt o.dst with
    | none =>
      simp only [dstS_none hd, Option.bind_none]
      cases wantedAV all tm o with
      | false => rfl
      | true =>
        simp only
        cases pureOp P ext tm o.op with
        | some v => rfl
        | none =>
          simp only
          cases isEff ext o.op with
          | false =>
            simp only
            cases readOp P ext tm h o.op with
            | some v => rfl
            | none => simp
          | true =>
            simp only
            cases effOp P ext tm h o.op with
            | none => rfl
            | some r =>
              cases r with
              | val v h => rfl
              | call f args => simp
              | defer f args => rfl
              | recover => cases dk <;> rfl
    | some d =>
      simp only [dstS_some hd, Option.bind_some]
      cases wantedAV all tm o with
      | false => simp only [regS_eq os]
      | true =>
        simp only
        unfold stepK
        cases pureOp P ext tm o.op with
        | some v => simp only [regS_eq os]
        | none =>
          simp only
          cases isEff ext o.op with
          | false =>
            simp only
            cases readOp P ext tm h o.op with
            | some v => simp only [regS_eq os]
            | none =>
              simp only
              cases allocOp P ext tm o.op h.next with
              | none => rfl
              | some r => simp only [Option.bind_some, regS_eq os]
          | true =>
            simp only
            cases effOp P ext tm h o.op with
            | none => rfl
            | some r =>
              cases r with
              | val v h => simp only [Option.bind_some, regS_eq os]
              | call f args =>
                simp only [Option.bind_some]
                cases call f args h with
                | none => rfl
                | some r => simp only [Option.bind_some, regS_eq os]
              | defer f args => simp only [Option.bind_some, regS_eq os]
              | recover => cases dk <;> simp only [Option.bind_some, regS_eq os, grd] <;> rfl
end Go.Sim
