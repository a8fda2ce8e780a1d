/- The evaluator, its soundness, eighteenth part: code and calls. -/
import Derived.Test.YtenlpijbhhfahaaGreatDoorSimS
set_option linter.all false
set_option maxHeartbeats 2000000
namespace Go.Sim
variable [Sig]
variable {P : Program} {ext : Exts} {w₀ : World} {B : Nat}

def resF (tmps : Array Value) : ResultVar → Sem Value
  | .tmp t => pure (tmps.getD t undef)
  | .cell a t => do loadVar t (← asAddr (tmps.getD a undef))

theorem results_eq (fn : Func) (tmps : Array Value) : results fn tmps = (do
    let vs ← fn.results.mapM (resF tmps)
    pure (if h : vs.size = 1 then vs[0] else .tuple vs)) := by
  unfold results
  congr 2

theorem resultL_ok {ρ : Env} {nt : Nat} {tm : TM} {h : AH} {w : World} {tmps : Array Value} (hr : Rel w₀ B ρ h w) (ht : TMs ρ nt tm tmps) : ∀ {l : List ResultVar} {vs : List AV}, resultL P tm h l = some vs →
    ∃ xs, conL ρ vs = some xs ∧ (l.mapM (resF tmps)).run P w = .ok xs w
  | [], vs, e => by
    simp only [resultL, Option.some.injEq] at e
    subst e
    exact ⟨[], conL_nil ρ, by simp⟩
  | .tmp t :: l, vs, e => by
    simp only [resultL, bnd, undQ_eq, infoQ_eq, funcQ_eq, Option.some.injEq] at e
    obtain ⟨us, hu, rfl⟩ := e
    obtain ⟨xs, h1, h2⟩ := resultL_ok hr ht hu
    refine ⟨_, conL_cons.2 ⟨_, ht.at' t, _, h1, rfl⟩, ?_⟩
    simp only [List.mapM_cons, resF, Sem.run_bind, Sem.run_pure, Result.andThen_ok, h2]
  | .cell a t :: l, vs, e => by
    simp only [resultL, bnd, undQ_eq, infoQ_eq, funcQ_eq, Option.some.injEq] at e
    obtain ⟨v, hv, us, hu, rfl⟩ := e
    obtain ⟨xs, h1, h2⟩ := resultL_ok hr ht hu
    obtain ⟨z, hz, hzr⟩ := load_ok (P := P) hr hv (ht.at' a)
    refine ⟨_, conL_cons.2 ⟨_, hz, _, h1, rfl⟩, ?_⟩
    have hp : ∃ q, asPtr (tmv tm a) = some q := by
      simp only [loadAV, bnd, undQ_eq, infoQ_eq, funcQ_eq] at hv
      obtain ⟨q, hq, _⟩ := hv
      exact ⟨q, hq⟩
    obtain ⟨q, hq⟩ := hp
    have hat := ht.at' a
    rw [asPtr_ok hq] at hat
    obtain ⟨lc, _, hlc⟩ := con_ptr hat
    rw [hlc] at hzr
    simp only [Instr.loadAt, Instr.sureAddr, Sem.run_bind, Sem.run_pure, Result.andThen_ok] at hzr
    have hasA : (asAddr (tmps.getD a undef)).run P w = .ok ⟨lc.blk, q.2, none⟩ w := by rw [hlc]; rfl
    simp only [List.mapM_cons, resF, Sem.run_bind, Sem.run_pure, Result.andThen_ok, hasA, hzr, h2]

theorem results_ok {ρ : Env} {nt : Nat} {fn : Func} {tm : TM} {h : AH} {w : World} {tmps : Array Value} {v : AV} (hr : Rel w₀ B ρ h w) (ht : TMs ρ nt tm tmps) (hv : resultsAV P fn tm h = some v) : ∃ z, con ρ v = some z ∧ (results fn tmps).run P w = .ok z w := by
  simp only [resultsAV, bnd, undQ_eq, infoQ_eq, funcQ_eq] at hv
  obtain ⟨vs, hvs, hv⟩ := hv
  obtain ⟨xs, h1, h2⟩ := resultL_ok hr ht hvs
  have h3 : (results fn tmps).run P w = .ok (if h : (⟨xs⟩ : Array Value).size = 1 then (⟨xs⟩ : Array Value)[0] else .tuple ⟨xs⟩) w := by
    have e : ∀ f : ResultVar → Sem Value, (fn.results.mapM f).run P w = ((fn.results.toList.mapM f).run P w).andThen fun l w => .ok ⟨l⟩ w := fun f => by
      rw [show fn.results = fn.results.toList.toArray from by simp]
      simp only [List.mapM_toArray, Sem.run_map]
    rw [results_eq]
    simp only [Sem.run_bind, e, h2, Result.andThen_ok, Sem.run_pure]
  have hl := conL_len h1
  split at hv
  · simp only [Option.some.injEq] at hv
    subst hv
    obtain ⟨x, hx, rfl⟩ := conL1 h1
    exact ⟨x, hx, by rw [h3]; simp⟩
  · simp only [Option.some.injEq] at hv
    subst hv
    have := conL_nilI h1
    subst this
    exact ⟨.tuple #[], by simp only [con], by rw [h3]; simp⟩
  · rename_i hn1 hn0
    simp only [Option.some.injEq] at hv
    subst hv
    refine ⟨.tuple ⟨xs⟩, con_tup h1, ?_⟩
    rw [h3]
    have : ¬ (⟨xs⟩ : Array Value).size = 1 := fun e => by
      have e' : xs.length = 1 := e
      rw [hl] at e'
      obtain ⟨y, hy⟩ := List.length_eq_one_iff.1 e'
      exact hn1 y hy
    rw [dif_neg this]

/-- Code, as the evaluator runs it. -/
def ExOk (P : Program) (w₀ : World) (B : Nat) (ex : ExF) : Prop :=
  ∀ (dk : Bool) (nt : Nat) (todo : List Item) (tm : TM) (ds : Defs) (h : AH) (r : TM × Defs × AH), ex dk nt todo tm ds h = some r → ∀ (ρ : Env) (a : Act) (w : World) (b : Frame) (cs : List Frame), Rel w₀ B ρ h w → FrOk ρ nt tm ds a →
    (dk = true → b.kind = .deferred ∧ recoverD cs = none) → ∃ ρ' a' w' todo', Adv w₀ B ρ h w ρ' r.2.2 w' ∧ FrOk ρ' nt r.1 r.2.1 a' ∧ Steps P (lone (b.at a todo) cs w) (lone { b.at a' todo' with mode := .returning } cs w')

theorem execStep_ok (hx : ExtOk P ext) (hmix : P.follows .mixedOrders = true) {call : CallF} (hcall : CallOk P w₀ B call) {dk : Bool} {nt : Nat} {rec : List Item → TM → Defs → AH → Option (TM × Defs × AH)} {b : Frame} {cs : List Frame} (hb : dk = true → b.kind = .deferred ∧ recoverD cs = none)
    (hrec : ∀ todo tm ds h r, rec todo tm ds h = some r → ∀ ρ a w, Rel w₀ B ρ h w → FrOk ρ nt tm ds a → ∃ ρ' a' w' todo', Adv w₀ B ρ h w ρ' r.2.2 w' ∧ FrOk ρ' nt r.1 r.2.1 a' ∧ Steps P (lone (b.at a todo) cs w) (lone { b.at a' todo' with mode := .returning } cs w'))
    {todo : List Item} {tm : TM} {ds : Defs} {h : AH} {r : TM × Defs × AH} (hrun : execStep P ext call rec dk nt todo tm ds h = some r) {ρ : Env} {a : Act} {w : World} (hr : Rel w₀ B ρ h w) (hf : FrOk ρ nt tm ds a) :
    ∃ ρ' a' w' todo', Adv w₀ B ρ h w ρ' r.2.2 w' ∧ FrOk ρ' nt r.1 r.2.1 a' ∧ Steps P (lone (b.at a todo) cs w) (lone { b.at a' todo' with mode := .returning } cs w') := by
  have hgo : ∀ (todo₁ : List Item) (tm₁ : TM) (ds₁ : Defs) (h₁ : AH) (ρ₁ : Env) (a₁ : Act) (w₁ : World), Adv w₀ B ρ h w ρ₁ h₁ w₁ → FrOk ρ₁ nt tm₁ ds₁ a₁ → rec todo₁ tm₁ ds₁ h₁ = some r → Steps P (lone (b.at a todo) cs w) (lone (b.at a₁ todo₁) cs w₁) →
      ∃ ρ' a' w' todo', Adv w₀ B ρ h w ρ' r.2.2 w' ∧ FrOk ρ' nt r.1 r.2.1 a' ∧ Steps P (lone (b.at a todo) cs w) (lone { b.at a' todo' with mode := .returning } cs w') := fun todo₁ tm₁ ds₁ h₁ ρ₁ a₁ w₁ hadv hf₁ hrn hst => by
    obtain ⟨ρ', a', w', todo', h1, h2, h3⟩ := hrec todo₁ tm₁ ds₁ h₁ r hrn ρ₁ a₁ w₁ hadv.rel hf₁
    exact ⟨ρ', a', w', todo', hadv.trans h1, h2, Steps.trans hst h3⟩
  unfold execStep at hrun
  split at hrun
  · simp only [Option.some.injEq] at hrun
    subst hrun
    exact ⟨ρ, a, w, [], Adv.refl hr, hf, .one step_end⟩
  · split at hrun
    · exact hgo _ _ _ _ ρ a w (Adv.refl hr) hf hrun (.one step_skip)
    · rename_i k _ id ops
      simp only [bnd, undQ_eq, infoQ_eq, funcQ_eq] at hrun
      obtain ⟨q, hq, hrun⟩ := hrun
      obtain ⟨ρ₁, a₁, w₁, hadv, hf₁, hst⟩ := runOps_ok hx hcall hb (b := b) (k := k) (cs := cs) ops.toList 0 tm ds h q (by simp) hq ρ a w hr hf
      have hst' : Steps P (lone (b.at a (.inRegion ops (List.range ops.size) :: k)) cs w) (lone (b.at a₁ (.inRegion ops [] :: k)) cs w₁) := by
        rw [List.range_eq_range']
        rw [Array.length_toList] at hst
        exact hst
      exact hgo _ _ _ _ ρ₁ a₁ w₁ hadv hf₁ hrun (.head step_region (Steps.trans hst' (.one step_region_end)))
    · rename_i k _ id ops
      simp only [bnd, undQ_eq, infoQ_eq, funcQ_eq] at hrun
      obtain ⟨q, hq, hrun⟩ := hrun
      obtain ⟨ρ₁, a₁, w₁, hadv, hf₁, hst⟩ := drawRegion_ok hx hcall hmix hq hr hf (b := b) (id := id) (k := k) (cs := cs)
      exact hgo _ _ _ _ ρ₁ a₁ w₁ hadv hf₁ hrun hst
    · exact hgo _ _ _ _ ρ a w (Adv.refl hr) hf hrun (.one step_seq)
    · rename_i k _ c x y
      simp only [bnd, undQ_eq, infoQ_eq, funcQ_eq] at hrun
      obtain ⟨v, hv, hrun⟩ := hrun
      have hc := ev_ok (hf.tms.evOk [c]) (by simp) hv
      split at hrun
      · exact hgo _ _ _ _ ρ a w (Adv.refl hr) hf hrun (.one (step_cond (t := true) (con_bool hc)))
      · exact hgo _ _ _ _ ρ a w (Adv.refl hr) hf hrun (.one (step_cond (t := false) (con_bool hc)))
      · simp at hrun
    · exact hgo _ _ _ _ ρ a w (Adv.refl hr) hf hrun (.one step_block)
    · exact hgo _ _ _ _ ρ a w (Adv.refl hr) hf hrun (.one step_loop)
    · simp only [bnd, undQ_eq, infoQ_eq, funcQ_eq] at hrun
      obtain ⟨k', hk', hrun⟩ := hrun
      exact hgo _ _ _ _ ρ a w (Adv.refl hr) hf hrun (.one (step_exit hk'))
    · rename_i k _
      simp only [Option.some.injEq] at hrun
      subst hrun
      exact ⟨ρ, a, w, _, Adv.refl hr, hf, .one step_ret⟩
    · simp at hrun
  · exact hgo _ _ _ _ ρ a w (Adv.refl hr) hf hrun (.one step_inBlock)
  · exact hgo _ _ _ _ ρ a w (Adv.refl hr) hf hrun (.one step_inLoop)
  · simp at hrun

theorem argTM_get : ∀ (l : List AV) (i : Nat) (tm : TM) (t : Nat), tmv (argTM l i tm) t = if i ≤ t ∧ t < i + l.length then l.getD (t - i) .undef else tmv tm t
  | [], i, tm, t => by
    simp only [argTM, List.length_nil, Nat.add_zero]
    rw [if_neg (by omega)]
  | v :: l, i, tm, t => by
    simp only [argTM, argTM_get l, List.length_cons]
    by_cases h : i + 1 ≤ t ∧ t < i + 1 + l.length
    · rw [if_pos h, if_pos (by omega), show t - i = (t - (i + 1)) + 1 from by omega]
      simp
    · rw [if_neg h, tmv_set]
      by_cases e : t = i
      · subst e
        rw [if_pos rfl, if_pos (by omega)]
        simp
      · rw [if_neg e, if_neg (by omega)]

theorem enter_frame {ρ : Env} {nt : Nat} {args : List AV} {args' : List Value} (hargs : conL ρ args = some args') (hle : args.length ≤ nt) :
    FrOk ρ nt (argTM args 0 .nil) [] { tmps := ⟨args'⟩ ++ Array.replicate (nt - (⟨args'⟩ : Array Value).size) undef, defers := [] } := by
  have hl := conL_len hargs
  refine ⟨⟨?_, fun t => ?_⟩, trivial⟩
  · have : (⟨args'⟩ : Array Value).size = args'.length := rfl
    simp only [Array.size_append, Array.size_replicate, this]
    omega
  · rw [argTM_get, Array.getD_eq_getD_getElem?]
    by_cases h : t < args.length
    · rw [if_pos (by omega)]
      have hg : args[t]? = some args[t] := by simp [h]
      obtain ⟨x, hx, hx'⟩ := conL_get hargs hg
      simp only [Nat.sub_zero, List.getD_eq_getElem?_getD, hg, Option.getD_some, hx]
      have : (⟨args'⟩ ++ Array.replicate (nt - (⟨args'⟩ : Array Value).size) undef : Array Value)[t]? = some x := by
        rw [Array.getElem?_append_left (by show t < args'.length; omega), ← Array.getElem?_toList]
        exact hx'
      rw [this]; rfl
    · rw [if_neg (by omega)]
      have h1 : tmv (.nil : TM) t = .undef := by simp [tmv]
      rw [h1]
      have : (⟨args'⟩ ++ Array.replicate (nt - (⟨args'⟩ : Array Value).size) undef : Array Value)[t]?.getD undef = undef := by
        rw [Array.getElem?_append_right (by show args'.length ≤ t; omega)]
        rw [Array.getElem?_replicate]
        split <;> rfl
      rw [this]
      exact con_undef ρ

/-- The calls that were put off, as a frame returns. -/
theorem leaves_ok (hx : ExtOk P ext) {defers : CallF} (hdef : DefOk P w₀ B defers) {fn : Func} {tmps : Array Value} {R : Ending → World → Prop} : ∀ {ds : Defs} {ds' : List Deferred} {h h' : AH} {ρ : Env} {w : World}, runDefs defers ds h = some h' → DefsOk ρ ds ds' → Rel w₀ B ρ h w →
    (∀ ρ' w', Adv w₀ B ρ h w ρ' h' w' → ∃ v, (results fn tmps).run P w' = .ok v w' ∧ R (.returned v) w') → Leaves P fn tmps R ds' .returning w
  | [], [], h, h', ρ, w, hrun, _, hr, hR => by
    simp only [runDefs, Option.some.injEq] at hrun
    subst hrun
    exact hR ρ w (Adv.refl hr)
  | (f, args) :: ds, d :: ds', h, h', ρ, w, hrun, hd, hr, hR => by
    simp only [runDefs, bnd, undQ_eq, infoQ_eq, funcQ_eq] at hrun
    obtain ⟨q, hq, hrun⟩ := hrun
    obtain ⟨⟨first, cap, rfl, hargs⟩, hds⟩ := hd
    obtain ⟨⟨fn', hfn, hbody⟩, hcall⟩ := hdef ρ h w f args (first ++ cap) q.1 q.2 hr hargs hq
    refine leaves_cons (by simp) ?_ ?_ (f := f) (args := ⟨first ++ cap⟩)
    · have hn := hx.body _ _ hfn hbody
      have hn' : ¬ fn'.name = "runtime.NumGoroutine" := by simpa using hn
      have hnb : ¬ fn'.body = none := fun e => by rw [e] at hbody; simp at hbody
      simp [invoke, callFunc, hfn, hn', hnb]
    · refine CallsD.mono hcall fun e u w' he => ?_
      obtain ⟨rfl, ρ', x, rfl, hadv, _⟩ := he
      show Leaves P fn tmps R ds' (settle .returning) w'
      exact leaves_ok hx hdef hrun (hds.ext hadv.ext) hadv.rel fun ρ'' w'' h'' => hR ρ'' w'' (hadv.trans h'')
  | [], _ :: _, _, _, _, _, _, hd, _, _ => hd.elim
  | _ :: _, [], _, _, _, _, _, hd, _, _ => hd.elim

theorem callWith_ok (hx : ExtOk P ext) {ex : ExF} (hex : ExOk P w₀ B ex) {defers : CallF} (hdef : DefOk P w₀ B defers) : CallOk P w₀ B (callWith P ex defers false) := by
  intro ρ h w f args args' v h' hr hargs hcall
  simp only [callWith, bnd, undQ_eq, infoQ_eq, funcQ_eq, grd_some, nble, Option.some.injEq, Prod.mk.injEq] at hcall
  obtain ⟨fn, hfn, c, hc, hle, r, hrun, h₁, hd, v', hv, rfl, rfl⟩ := hcall
  refine ⟨⟨fn, hfn, by rw [hc]; rfl⟩, fun cs => ?_⟩
  let b : Frame := { (default : Frame) with fn := f, kind := .normal }
  have henter : Frame.enter P f ⟨args'⟩ .normal = b.at { tmps := ⟨args'⟩ ++ Array.replicate (fn.ntmps - (⟨args'⟩ : Array Value).size) undef, defers := [] } [.code c] := by
    simp [Frame.enter, Frame.at, hfn, hc, b]
  obtain ⟨ρ', a', w', todo', hadv, hf', hst⟩ := hex false fn.ntmps [.code c] _ [] h r hrun ρ _ w b cs hr (enter_frame hargs hle) (by simp)
  rw [← henter] at hst
  have hl := leaves_ok (fn := fn) (tmps := a'.tmps) (R := fun e w'' => ∃ ρ'' x, e = .returned x ∧ Adv w₀ B ρ h w ρ'' h₁ w'' ∧ con ρ'' v' = some x) hx hdef hd hf'.defs hadv.rel fun ρ'' w'' h'' => by
    obtain ⟨z, hz, hzr⟩ := results_ok h''.rel (hf'.tms.ext h''.ext) hv
    exact ⟨z, hzr, ρ'', z, rfl, hadv.trans h'', hz⟩
  obtain ⟨e', w'', fr', hR, hs, hfn', hl'⟩ := leaves_steps a'.defers .returning w' { b.at a' todo' with mode := .returning } cs rfl rfl rfl hfn rfl hl
  exact ⟨e', w'', fr', hR, Comes.of_steps hst hs, hfn', hl'⟩

theorem callDef_ok {ex : ExF} (hex : ExOk P w₀ B ex) : DefOk P w₀ B (callDef P ex) := by
  intro ρ h w f args args' v h' hr hargs hcall
  simp only [callDef, callWith, bnd, undQ_eq, infoQ_eq, funcQ_eq, grd_some, nble, Option.some.injEq, Prod.mk.injEq] at hcall
  obtain ⟨fn, hfn, c, hc, hle, r, hrun, h₁, hd, v', hv, rfl, rfl⟩ := hcall
  refine ⟨⟨fn, hfn, by rw [hc]; rfl⟩, fun c₀ cs hu => ?_⟩
  let b : Frame := { (default : Frame) with fn := f, kind := .deferred }
  have henter : Frame.enter P f ⟨args'⟩ .deferred = b.at { tmps := ⟨args'⟩ ++ Array.replicate (fn.ntmps - (⟨args'⟩ : Array Value).size) undef, defers := [] } [.code c] := by
    simp [Frame.enter, Frame.at, hfn, hc, b]
  obtain ⟨ρ', a', w', todo', hadv, hf', hst⟩ := hex true fn.ntmps [.code c] _ [] h r hrun ρ _ w b (c₀ :: cs) hr (enter_frame hargs hle) (fun _ => ⟨rfl, by simp [recoverD, hu]⟩)
  rw [← henter] at hst
  have hds : r.2.1 = [] := by
    cases e : r.2.1 with
    | nil => rfl
    | cons p ps => rw [e] at hd; simp [runDefs] at hd
  rw [hds] at hd
  simp only [runDefs, Option.some.injEq] at hd
  subst hd
  have had : a'.defers = [] := by
    have := hf'.defs
    rw [hds] at this
    cases e : a'.defers with
    | nil => rfl
    | cons p ps => rw [e] at this; exact this.elim
  obtain ⟨z, hz, hzr⟩ := results_ok hadv.rel hf'.tms hv
  have hc₀ : ({ c₀ with mode := .returning } : Frame) = c₀ := by rw [← hu]
  refine ⟨.returned z, .returning, w', { b.at a' todo' with mode := .returning }, ⟨rfl, ρ', z, rfl, hadv, hz⟩, ?_, rfl, rfl, had, fn, hfn, hzr⟩
  rw [hc₀]
  exact hst

variable {known : CallF}

theorem run_ok (hx : ExtOk P ext) (hmix : P.follows .mixedOrders = true) (hknown : CallOk P w₀ B known) : ∀ n, ExOk P w₀ B (run P ext known n)
  | 0 => fun dk nt todo tm ds h r hrun => by simp [run] at hrun
  | n + 1 => fun dk nt todo tm ds h r hrun ρ a w b cs hr hf hb => by
    have ih := run_ok hx hmix hknown n
    have hc := callWith_ok hx ih (callDef_ok ih)
    simp only [run] at hrun
    refine execStep_ok hx hmix (call := fun f args h => match known f args h with
        | some r => some r
        | none => callWith P (run P ext known n) (callDef P (run P ext known n)) false f args h) ?_ hb (fun todo tm ds h r hrn ρ a w hr hf => ih dk nt todo tm ds h r hrn ρ a w b cs hr hf hb) hrun hr hf
    intro ρ h w f args args' v h' hr hargs hcall
    simp only at hcall
    split at hcall
    · rename_i q hq
      simp only [Option.some.injEq] at hcall
      subst hcall
      exact hknown ρ h w f args args' v h' hr hargs hq
    · exact hc ρ h w f args args' v h' hr hargs hcall

/-- THE EVALUATOR IS SOUND. -/
theorem runCall_ok (hx : ExtOk P ext) (hmix : P.follows .mixedOrders = true) (hknown : CallOk P w₀ B known) (n : Nat) : CallOk P w₀ B (runCall P ext known n) :=
  callWith_ok hx (run_ok hx hmix hknown n) (callDef_ok (run_ok hx hmix hknown n))
end Go.Sim
