/- The evaluator, its soundness, seventeenth part: regions that are drawn, whole. -/
import Derived.Test.YtenlpijbhhfahaaGreatDoorSimR
set_option linter.all false
set_option maxHeartbeats 2000000
namespace Go.Sim
variable [Sig]
variable {P : Program} {ext : Exts} {call : CallF} {nt : Nat} {w₀ : World} {B : Nat}

theorem beqCells_at {c c' : T AV} : ∀ {n i : Nat}, beqCells c c' n = true → i < n → c.get i = c'.get i
  | 0, i, _, h => by omega
  | n + 1, i, hb, hi => by
    simp only [beqCells, Bool.and_eq_true] at hb
    by_cases e : i = n
    · subst e
      have := hb.1
      split at this
      · rename_i x y hx hy
        rw [hx, hy, beqAV_eq 6 _ _ this]
      · rename_i hx hy
        rw [hx, hy]
      · simp at this
    · exact beqCells_at hb.2 (by omega)

theorem beqEntries_eq : ∀ {l m : List Entry}, beqEntries l m = true → l = m
  | [], [], _ => rfl
  | e :: l, f :: m, h => by
    simp only [beqEntries, Bool.and_eq_true, nbeq] at h
    obtain ⟨⟨⟨h1, h2⟩, h3⟩, h4⟩ := h
    have := beqAV_eq 6 _ _ h1
    have := beqAV_eq 6 _ _ h2
    rw [beqEntries_eq h4]
    congr 1
    cases e
    cases f
    simp_all
  | [], _ :: _, h => by simp [beqEntries] at h
  | _ :: _, [], h => by simp [beqEntries] at h

theorem beqObj_at {ρ : Env} {o o' : AObj} {l : Loc} {x : Obj} (hb : beqObj o o' = true) (h : ObjAt ρ o' l x) : ObjAt ρ o l x := by
  cases o with
  | row r =>
    cases o' with
    | row s =>
      simp only [beqObj, Bool.and_eq_true, nbeq, beq_iff_eq] at hb
      obtain ⟨⟨⟨⟨h1, h2⟩, h3⟩, h4⟩, h5⟩ := hb
      obtain ⟨c, fr, g1, g2, g3, g4⟩ := h
      refine ⟨c, fr, by rw [h2]; exact g1, by rw [h3, h1]; exact g2, fun i hi v hv => g3 i (by omega) v ?_, fun hz => g4 (by rw [← h4]; exact hz)⟩
      rw [← beqCells_at h5 hi]; exact hv
    | map _ _ => simp [beqObj] at hb
    | siter _ _ _ => simp [beqObj] at hb
  | map es k =>
    cases o' with
    | map es' k' =>
      simp only [beqObj, Bool.and_eq_true, nbeq] at hb
      obtain ⟨rfl, hb⟩ := hb
      rw [beqEntries_eq hb]
      exact h
    | row _ => simp [beqObj] at hb
    | siter _ _ _ => simp [beqObj] at hb
  | siter n c p =>
    cases o' with
    | siter n' c' p' =>
      simp only [beqObj, Bool.and_eq_true, nbeq] at hb
      obtain ⟨⟨rfl, rfl⟩, rfl⟩ := hb
      exact h
    | row _ => simp [beqObj] at hb
    | map _ _ => simp [beqObj] at hb

theorem beqHeap_at {a b : T AObj} : ∀ {n i : Nat}, beqHeap a b n = true → i < n → (a.get i = none ∧ b.get i = none) ∨ ∃ x y, a.get i = some x ∧ b.get i = some y ∧ beqObj x y = true
  | 0, i, _, h => by omega
  | n + 1, i, hb, hi => by
    simp only [beqHeap, Bool.and_eq_true] at hb
    by_cases e : i = n
    · subst e
      have := hb.1
      split at this
      · rename_i x y hx hy
        exact .inr ⟨x, y, hx, hy, this⟩
      · rename_i hx hy
        exact .inl ⟨hx, hy⟩
      · simp at this
    · exact beqHeap_at hb.2 (by omega)

theorem beqTM_at {a b : TM} : ∀ {n i : Nat}, beqTM a b n = true → i < n → tmv a i = tmv b i
  | 0, i, _, h => by omega
  | n + 1, i, hb, hi => by
    simp only [beqTM, Bool.and_eq_true] at hb
    by_cases e : i = n
    · subst e
      exact beqAV_eq 6 _ _ hb.1
    · exact beqTM_at hb.2 (by omega)

/-- The same objects, otherwise written. -/
theorem Adv.alike {ρ ρ' : Env} {h h' h'' : AH} {w w' : World} (a : Adv w₀ B ρ h w ρ' h' w') (he : ∀ i, (h''.objs.get i = none ∧ h'.objs.get i = none) ∨ ∃ x y, h''.objs.get i = some x ∧ h'.objs.get i = some y ∧ beqObj x y = true) (hn : h''.next = h'.next) :
    Adv w₀ B ρ h w ρ' h'' w' := by
  have hr := a.rel
  have hto : ∀ i o, h''.objs.get i = some o → ∃ o', h'.objs.get i = some o' ∧ beqObj o o' = true := fun i o ho => by
    rcases he i with ⟨h1, _⟩ | ⟨x, y, h1, h2, h3⟩
    · rw [ho] at h1; simp at h1
    · rw [ho] at h1
      simp only [Option.some.injEq] at h1
      subst h1
      exact ⟨y, h2, h3⟩
  refine ⟨a.ext, ⟨fun i o ho => ?_, fun i j o o' l l' ho ho' hl hl' hb => ?_, fun i l hl => by rw [hn]; exact hr.dom i l hl, hr.low, hr.size, hr.base⟩, a.size, a.frame, ?_, by rw [hn]; exact a.next, a.fresh, fun i hi hne => ?_, a.os, a.output, a.tape⟩
  · obtain ⟨o', h1, h2⟩ := hto i o ho
    obtain ⟨l, x, g1, g2, g3⟩ := hr.obj i o' h1
    exact ⟨l, x, g1, g2, beqObj_at h2 g3⟩
  · obtain ⟨p, h1, _⟩ := hto i o ho
    obtain ⟨p', h2, _⟩ := hto j o' ho'
    exact hr.inj i j p p' l l' h1 h2 hl hl' hb
  · rintro b ⟨i, o, l, ho, hl, hb⟩
    obtain ⟨o', h1, _⟩ := hto i o ho
    exact a.own b ⟨i, o', l, h1, hl, hb⟩
  · cases e : h''.objs.get i with
    | none => exact absurd e hne
    | some o =>
      obtain ⟨o', h1, _⟩ := hto i o e
      exact a.keep i hi (by rw [h1]; simp)


theorem drawRegion_ok (hx : ExtOk P ext) (hcall : CallOk P w₀ B call) (hmix : P.follows .mixedOrders = true) {ops : Array Oper} {tm : TM} {h : AH} {r : TM × AH} (hrun : drawRegion P ext call nt ops tm h = some r) {ρ : Env} {a : Act} {w : World} {ds : Defs} (hr : Rel w₀ B ρ h w) (hf : FrOk ρ nt tm ds a)
    {b : Frame} {id : Nat} {k : List Item} {cs : List Frame} : ∃ ρ' a' w', Adv w₀ B ρ h w ρ' r.2 w' ∧ FrOk ρ' nt r.1 ds a' ∧ Steps P (lone (b.at a (.code (.region id ops true) :: k)) cs w) (lone (b.at a' k) cs w') := by
  simp only [drawRegion, grd_some, Bool.and_eq_true] at hrun
  obtain ⟨⟨⟨hord, hbef⟩, htopo⟩, hrun⟩ := hrun
  have OF := orderOk_ok hord
  have hO := topoB_ok htopo
  have hdrew := Adv.drew hr (w.drawn + 1)
  have hr' := hdrew.rel
  have hops : (⟨ops.toList⟩ : Array Oper) = ops := rfl
  have hsched : ∀ t, Topo ops.toList.length (befL ops) 0 (Region.schedule (P.follows .mixedOrders) ops t) := fun t => by
    simp only [Region.schedule, hmix, Bool.true_or, if_true, Region.linearise]
    rw [Array.length_toList]
    refine linearise_topo hbef ops.size t _ 0 (by simp) (fun i hi => by simp [Array.getD_eq_getD_getElem?, hi]) (fun i hi => by simp at hi) ?_
    exact Nat.le_trans (List.length_filter_le _ _) (by simp)
  have hfin : ∀ (L : List Nat) (ρ' : Env) (a' : Act) (w' : World) (h' : AH), L = Region.schedule (P.follows .mixedOrders) ops (w.tape w.drawn (.order b.fn id)) → Adv w₀ B ρ h { w with drawn := w.drawn + 1 } ρ' h' w' → 
      Steps P (lone (b.at a (.inRegion ⟨ops.toList⟩ L :: k)) cs { w with drawn := w.drawn + 1 }) (lone (b.at a' (.inRegion ⟨ops.toList⟩ [] :: k)) cs w') →
      Adv w₀ B ρ h w ρ' h' w' ∧ Steps P (lone (b.at a (.code (.region id ops true) :: k)) cs w) (lone (b.at a' k) cs w') := fun L ρ' a' w' h' hL hadv hst => by
    subst hL
    exact ⟨hdrew.trans hadv, .head step_region_draw (Steps.trans hst (.one step_region_end))⟩
  split at hrun
  · rename_i hun
    have PF : PairFacts ext ops.toList (befL ops) none := ⟨fun i j o p ho hp heo hep hne => by
      have h1 := effsFrom_mem (i := 0) ho heo
      have h2 := effsFrom_mem (i := 0) hp hep
      rw [Nat.zero_add] at h1 h2
      rcases unord_ok (bef := befL ops) h1 h2 hne with h | h | h | h
      · exact .inl h
      · exact .inr (.inl h)
      · rw [hun] at h; simp at h
      · rw [hun] at h; simp at h⟩
    obtain ⟨_, ρ', a', w', hadv, hf', hst⟩ := order_ok hx hcall OF PF (by simp) hO (by simp) hrun hr' hf (hsched (w.tape w.drawn (.order b.fn id))) (by simp) (b := b) (k := k) (cs := cs)
    obtain ⟨h1, h2⟩ := hfin _ ρ' a' w' r.2 rfl hadv hst
    exact ⟨ρ', a', w', h1, hf', h2⟩
  · rename_i i j hun
    simp only [bnd, undQ_eq, infoQ_eq, funcQ_eq, grd_some, Bool.and_eq_true, Bool.not_eq_true', nbeq_f, nbeq, Option.some.injEq] at hrun
    obtain ⟨⟨⟨⟨hij, ht2⟩, hk2⟩, hk1⟩, x, hx1, y, hy1, ⟨⟨hbt, hbn⟩, hbh⟩, rfl⟩ := hrun
    have hpair : ∀ i' j' o p, ops.toList[i']? = some o → ops.toList[j']? = some p → isEff ext o.op = true → isEff ext p.op = true → i' ≠ j' → (nth (befL ops) j').testBit i' = true ∨ (nth (befL ops) i').testBit j' = true ∨ (i', j') = (i, j) ∨ (j', i') = (i, j) := fun i' j' o p ho hp heo hep hne => by
      have h1 := effsFrom_mem (i := 0) ho heo
      have h2 := effsFrom_mem (i := 0) hp hep
      rw [Nat.zero_add] at h1 h2
      rcases unord_ok (bef := befL ops) h1 h2 hne with h | h | h | h
      · exact .inl h
      · exact .inr (.inl h)
      · rw [hun] at h; exact .inr (.inr (.inl (by simpa using h)))
      · rw [hun] at h; exact .inr (.inr (.inr (by simpa using h)))
    have PF1 : PairFacts ext ops.toList (befL ops) (some (i, j)) := ⟨fun i' j' o p ho hp heo hep hne => by
      rcases hpair i' j' o p ho hp heo hep hne with h | h | h | h
      · exact .inl h
      · exact .inr (.inl h)
      · exact .inr (.inr (.inl (by rw [h])))
      · exact .inr (.inr (.inr (by rw [h])))⟩
    have PF2 : PairFacts ext ops.toList (befL ops) (some (j, i)) := ⟨fun i' j' o p ho hp heo hep hne => by
      rcases hpair i' j' o p ho hp heo hep hne with h | h | h | h
      · exact .inl h
      · exact .inr (.inl h)
      · simp only [Prod.mk.injEq] at h; exact .inr (.inr (.inr (by rw [h.1, h.2])))
      · simp only [Prod.mk.injEq] at h; exact .inr (.inr (.inl (by rw [h.1, h.2])))⟩
    have hsp1 : ∀ x y, some (i, j) = some (x, y) → x ≠ y := fun x y e => by simp only [Option.some.injEq, Prod.mk.injEq] at e; omega
    have hsp2 : ∀ x y, some (j, i) = some (x, y) → x ≠ y := fun x y e => by simp only [Option.some.injEq, Prod.mk.injEq] at e; omega
    have hK1 : ∀ x y, some (i, j) = some (x, y) → Keeps x y 0 (List.range ops.toList.length) := fun x y e => by
      simp only [Option.some.injEq, Prod.mk.injEq] at e
      obtain ⟨rfl, rfl⟩ := e
      exact keepsB_ok hk1
    have hK2 : ∀ x y, some (j, i) = some (x, y) → Keeps x y 0 (turnedOrder ops.toList.length (befL ops) i) := fun x y e => by
      simp only [Option.some.injEq, Prod.mk.injEq] at e
      obtain ⟨rfl, rfl⟩ := e
      exact keepsB_ok hk2
    rcases keeps_or hij (l := Region.schedule (P.follows .mixedOrders) ops (w.tape w.drawn (.order b.fn id))) (d := 0) (by simp) (by simp) with hK | hK
    · obtain ⟨_, ρ', a', w', hadv, hf', hst⟩ := order_ok hx hcall OF PF1 hsp1 hO hK1 hx1 hr' hf (hsched (w.tape w.drawn (.order b.fn id))) (fun x y e => by
        simp only [Option.some.injEq, Prod.mk.injEq] at e
        obtain ⟨rfl, rfl⟩ := e
        exact hK) (b := b) (k := k) (cs := cs)
      obtain ⟨h1, h2⟩ := hfin _ ρ' a' w' _ rfl hadv hst
      exact ⟨ρ', a', w', h1, hf', h2⟩
    · obtain ⟨hhi, ρ₁, a₁, w₁, hadv1, _, _⟩ := order_ok hx hcall OF PF1 hsp1 hO hK1 hx1 hr' hf hO hK1 (b := b) (k := k) (cs := cs)
      obtain ⟨_, ρ', a', w', hadv, hf', hst⟩ := order_ok hx hcall OF PF2 hsp2 (topoB_ok ht2) hK2 hy1 hr' hf (hsched (w.tape w.drawn (.order b.fn id))) (fun x y e => by
        simp only [Option.some.injEq, Prod.mk.injEq] at e
        obtain ⟨rfl, rfl⟩ := e
        exact hK) (b := b) (k := k) (cs := cs)
      have hadv' : Adv w₀ B ρ h { w with drawn := w.drawn + 1 } ρ' x.2 w' := hadv.alike (fun n => by
        by_cases hn : n < x.2.next
        · exact beqHeap_at hbh hn
        · left
          constructor
          · cases e : x.2.objs.get n with
            | none => rfl
            | some o =>
              obtain ⟨l, _, hl, _⟩ := hadv1.rel.obj n o e
              have := hadv1.rel.dom n l hl
              omega
          · cases e : y.2.objs.get n with
            | none => rfl
            | some o =>
              obtain ⟨l, _, hl, _⟩ := hadv.rel.obj n o e
              have := hadv.rel.dom n l hl
              omega) hbn
      obtain ⟨h1, h2⟩ := hfin _ ρ' a' w' _ rfl hadv' hst
      refine ⟨ρ', a', w', h1, ⟨⟨hf'.tms.size, fun t => ?_⟩, hf'.defs⟩, h2⟩
      by_cases ht : t < nt
      · rw [beqTM_at hbt ht]
        exact hf'.tms.at' t
      · rw [hhi t (by omega)]
        have hold := hf.tms.at' t
        have e1 : a.tmps.getD t undef = undef := by
          rw [Array.getD_eq_getD_getElem?, Array.getElem?_eq_none (by rw [hf.tms.size]; omega)]
          rfl
        have e2 : a'.tmps.getD t undef = undef := by
          rw [Array.getD_eq_getD_getElem?, Array.getElem?_eq_none (by rw [hf'.tms.size]; omega)]
          rfl
        rw [e1] at hold
        rw [e2]
        exact con_ext hadv.ext _ _ hold
  · simp at hrun
end Go.Sim
