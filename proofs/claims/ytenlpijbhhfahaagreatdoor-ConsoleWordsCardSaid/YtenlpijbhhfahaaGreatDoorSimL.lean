/- The evaluator, its soundness, tenth part: append, and all that acts. -/
import Derived.Test.YtenlpijbhhfahaaGreatDoorSimK
set_option linter.all false
set_option maxHeartbeats 2000000
namespace Go.Sim
variable [Sig]
variable {P : Program}

theorem append_ok {w₀ : World} {B : Nat} {ρ : Env} {h : AH} {w : World} (hr : Rel w₀ B ρ h w) {ts : List TypeId} (ty : TypeId) {s x : AV} {r : AV × AH} {s' x' : Value} (hu : appendAV P h ts s x = some r) (hs : con ρ s = some s') (hx : con ρ x = some x') :
    ∃ z w' ρ', (Builtin.append_ ⟨ts⟩ ty #[s', x']).run P w = .ok z w' ∧ con ρ' r.1 = some z ∧ Adv w₀ B ρ h w ρ' r.2 w' := by
  unfold appendAV at hu
  split at hu
  · rename_i st xt
    simp only [bnd, undQ_eq, infoQ_eq, funcQ_eq, grd_some, Bool.and_eq_true, nbeq, nble, nblt] at hu
    obtain ⟨sd, hsd, e, he, xd, hxd, inf, hi, a, ha, n, hn, zl, hzl, ⟨⟨⟨⟨hzn, hs0⟩, hlen⟩, hb⟩, hb'⟩, hu⟩ := hu
    have := asSlice_ok he
    subst this
    have hb2 : a.2 * inf.bytes ≤ 2 ^ 40 := Nat.le_trans (Nat.mul_le_mul_right _ (Nat.le_add_left _ _)) hb
    obtain ⟨xs, hxs, hadd⟩ := added_ok (P := P) hr hi ha hx hb2 (by omega)
    obtain ⟨new, m⟩ := a
    simp only at hlen hb hb' hu hxs hadd
    have hxl : xs.length = m * inf.size := by rw [conL_len hxs, hlen]
    have hrun := fun (z : Value) (hz : inf.zero = some z) (base : Option Addr) (sCap : Nat) (os : List Value) => run_append (ty := ty) (base := base) (sCap := sCap) (os := os) hsd hxd hi hz hs0 hadd hb hb'
    obtain ⟨i', z, hi', hz, hzc⟩ := zeroL_ok hzl ρ
    rw [hi] at hi'
    simp only [Option.some.injEq] at hi'
    subst hi'
    have hzl : z.cells.toList.length = inf.size := by rw [conL_len hzc, hzn]
    have hrun := hrun z hz
    have hge := grownCap_ge w (n + m)
    have hml : ∀ cap, (zerosV z.cells.toList (cap - (n + m))).length = (cap - (n + m)) * inf.size := fun cap => by rw [zerosV_len, hzl]
    unfold appendTo at hu
    split at hu
    · simp only [lenOf, Option.some.injEq] at hn
      subst hn
      simp only [con, Option.some.injEq] at hs
      subst hs
      split at hu
      · rename_i hm
        have := nbeq.1 hm
        subst this
        simp only [Option.some.injEq] at hu
        subst hu
        have := hrun none 0 [] (fun h => absurd (Nat.le_refl _) h)
        exact ⟨_, w, ρ, this, by simp [con], Adv.refl hr⟩
      · rename_i hm
        have hm := nbeq_f.1 hm
        simp only [Option.some.injEq] at hu
        subst hu
        have := hrun none 0 [] (fun _ => rfl)
        rw [if_neg (by omega)] at this
        simp only [List.nil_append, Nat.zero_add] at this
        have hge0 := hge 0 e
        simp only [Nat.zero_add] at hge0
        have hml := hml (grownCap w m 0 e)
        simp only [Nat.zero_add] at hml
        obtain ⟨ρ', hadv, hc⟩ := grown_adv hr (o := newRowOf new e true) (w' := w.drew.alloc _) hxl hml hs0 hge0 (newRow_open hxs e _ (0, 0) (by omega)) rfl rfl rfl rfl
        exact ⟨_, _, ρ', this, hc, hadv⟩
    · rename_i id off len cap
      simp only [lenOf, Option.some.injEq] at hn
      subst hn
      obtain ⟨l, hl, rfl⟩ := con_sl hs
      split at hu
      · rename_i hle
        have hle := nble.1 hle
        simp only [bnd, undQ_eq, infoQ_eq, funcQ_eq, Option.some.injEq] at hu
        obtain ⟨h', hw, rfl⟩ := hu
        obtain ⟨w', hst, hadv⟩ := writeRow_ok (P := P) hr hw hl hxs
        have := hrun (some ⟨l.blk, off, none⟩) cap [] (fun h => absurd hle h)
        rw [if_pos hle] at this
        simp only [add_plain, hst, Result.andThen_ok] at this
        exact ⟨_, w', ρ, this, by simp [con, hl], hadv⟩
      · rename_i hle
        have hle := nble_f.1 hle
        simp only [bnd, undQ_eq, infoQ_eq, funcQ_eq, Option.some.injEq] at hu
        obtain ⟨rw', hrow, old, hold, rfl⟩ := hu
        obtain ⟨c, fr, hra⟩ := hr.row hrow hl
        have hra' : RowAt ρ rw' l w.drew c fr := ⟨hra.heap, hra.grow, hra.fixed, hra.cells, hra.frozen⟩
        obtain ⟨os, ho1, ho2, ho3, ho4⟩ := readRow_ok (P := P) hra' hold
        have := hrun (some ⟨l.blk, off, none⟩) cap os (fun _ => ho4)
        rw [if_neg (by omega)] at this
        have hall : (os ++ xs).length = (len + m) * inf.size := by rw [List.length_append, ho2, hxl, Nat.add_mul]
        obtain ⟨ρ', hadv, hc⟩ := grown_adv hr (o := newRowOf (old ++ new) e true) (w' := w.drew.alloc _) hall (hml (grownCap w (len + m) cap e)) hs0 (hge cap e) (newRow_open (conL_append ho1 hxs) e _ (0, 0) (by omega)) rfl rfl rfl rfl
        exact ⟨_, _, ρ', this, hc, hadv⟩
    · rename_i id off len sz
      simp only [lenOf, Option.some.injEq] at hn
      subst hn
      obtain ⟨l, hl, hfit, rfl⟩ := con_slo hs
      simp only [bnd, undQ_eq, infoQ_eq, funcQ_eq, grd_some, Bool.and_eq_true, Bool.not_eq_true', nbeq] at hu
      obtain ⟨rw', hrow, ⟨⟨⟨⟨rfl, hel⟩, hg⟩, hfz⟩, h1⟩, hu⟩ := hu
      obtain ⟨c, fr, hra⟩ := hr.row hrow hl
      have hgr := hra.grow hg
      split at hu
      · rename_i hle
        have hle := nble.1 hle
        simp only [bnd, undQ_eq, infoQ_eq, funcQ_eq, Option.some.injEq] at hu
        obtain ⟨h', hw, rfl⟩ := hu
        obtain ⟨w', hst, hadv⟩ := writeRow_ok (P := P) hr hw hl hxs
        have hin : len + m ≤ (l.ce - off) / inf.size := by
          rw [Nat.le_div_iff_mul_le hs0, Nat.add_mul]
          omega
        have := hrun (some ⟨l.blk, off, none⟩) ((l.ce - off) / inf.size) [] (fun h => absurd hin h)
        rw [if_pos hin] at this
        simp only [add_plain, hst, Result.andThen_ok] at this
        refine ⟨_, w', ρ, this, ?_, hadv⟩
        simp only [con, hl, Option.bind_some, openSlice]
        rw [if_pos hin]
      · simp only [bnd, undQ_eq, infoQ_eq, funcQ_eq, grd_some, Bool.and_eq_true, nbeq, nble, Option.some.injEq] at hu
        obtain ⟨⟨rfl, hrn⟩, old, hold, rfl⟩ := hu
        have hra' : RowAt ρ rw' l w.drew c fr := ⟨hra.heap, hra.grow, hra.fixed, hra.cells, hra.frozen⟩
        obtain ⟨os, ho1, ho2, ho3, ho4⟩ := readRow_ok (P := P) hra' hold
        have hrn' : rw'.n = len * inf.size := by
          simp only [readRow, grd_some, nble] at hold
          omega
        by_cases hin : len + m ≤ (l.ce - 0) / inf.size
        · have := hrun (some ⟨l.blk, 0, none⟩) ((l.ce - 0) / inf.size) [] (fun h => absurd hin h)
          rw [if_pos hin] at this
          have hbig : len * inf.size + xs.length ≤ c.size := by
            have := (Nat.le_div_iff_mul_le hs0).1 hin
            rw [Nat.add_mul] at this
            omega
          obtain ⟨c', ht, hcs, hcg⟩ := setCells_turned xs (len * inf.size) w c hra.heap hbig
          have hst := run_store_turned (P := P) hra.heap hbig (hra.frozen hfz) (allOne_ok h1 hxs)
          simp only [add_plain, Nat.zero_add, hst, Result.andThen_ok] at this
          have hob : ObjAt ρ (.row ⟨setCells rw'.cells (len * inf.size) new, len * inf.size + new.length, rw'.elem, true, false⟩) l (.cells c' rw'.elem fr) := by
            refine ⟨c', fr, rfl, ⟨by rw [hcs]; exact hgr.1, ?_⟩, ?_, ?_⟩
            · have := conL_len hxs
              show len * inf.size + new.length ≤ l.ce
              omega
            · intro i hi' v hv
              simp only at hi' hv
              rw [setCells_get] at hv
              rw [hcg i, conL_len hxs]
              by_cases hj : len * inf.size ≤ i ∧ i < len * inf.size + new.length
              · rw [if_pos hj] at hv ⊢
                exact conL_get hxs hv
              · rw [if_neg hj] at hv ⊢
                exact hra.cells i (by omega) v hv
            · intro _ i hi'
              rw [hcs] at hi'
              exact hra.frozen hfz i hi'
          have a1 := hr.put (AH.row_ok hrow) hl hob ht
          have a2 := Adv.rename a1.rel (T.get_set_same h.objs id _) hl
          refine ⟨_, _, _, this, ?_, (a1.trans a2).same (fun i => ?_) rfl⟩
          · simp only [con, AH.put]
            rw [show ((ρ.add h.next l) h.next) = some l from add_self ρ h.next l]
            simp only [Option.bind_some, openSlice]
            rw [if_pos hin]
          · simp only [growRow, AH.put, T.get_set]
            by_cases e1 : i = h.next
            · simp [e1]
            · by_cases e2 : i = id
              · subst e2; simp [e1]
              · simp [e1, e2]
        · have := hrun (some ⟨l.blk, 0, none⟩) ((l.ce - 0) / inf.size) os (fun _ => ho4)
          rw [if_neg hin] at this
          have hall : (os ++ xs).length = (len + m) * inf.size := by rw [List.length_append, ho2, hxl, Nat.add_mul]
          have a1 := Adv.drop hr id
          have hob : ObjAt ρ (.row ⟨setCells rw'.cells (len * inf.size) new, len * inf.size + new.length, rw'.elem, true, false⟩) ⟨w.heap.size, (os ++ xs ++ zerosV z.cells.toList (grownCap w (len + m) ((l.ce - 0) / inf.size) e - (len + m))).length⟩
              (.cells ⟨os ++ xs ++ zerosV z.cells.toList (grownCap w (len + m) ((l.ce - 0) / inf.size) e - (len + m))⟩ e) := by
            refine ⟨_, (0, 0), by rw [hel], ⟨rfl, ?_⟩, ?_, fun _ i _ => by omega⟩
            · have := conL_len hxs
              simp only [List.length_append]
              omega
            · intro i hi' v hv
              simp only at hi' hv
              rw [setCells_get] at hv
              by_cases hj : len * inf.size ≤ i ∧ i < len * inf.size + new.length
              · rw [if_pos hj] at hv
                obtain ⟨y, hy, hy'⟩ := conL_get hxs hv
                refine ⟨y, hy, ?_⟩
                have hlt : i < (os ++ xs).length := by have := conL_len hxs; simp only [List.length_append]; omega
                rw [← Array.getElem?_toList]
                show (os ++ xs ++ _)[i]? = some y
                rw [List.getElem?_append_left hlt, List.getElem?_append_right (by omega), ho2]
                exact hy'
              · rw [if_neg hj] at hv
                have hlt : i < os.length := by omega
                obtain ⟨y, hy, hy'⟩ := hra.cells i (by omega) v hv
                refine ⟨y, hy, ?_⟩
                have hi2 : os[i]? = some os[i] := by simp [hlt]
                have := ho3 i _ hi2
                rw [Nat.zero_add, hy'] at this
                rw [← Array.getElem?_toList]
                show (os ++ xs ++ _)[i]? = some y
                rw [List.append_assoc, List.getElem?_append_left hlt, hi2, this]
          obtain ⟨ρ', hadv, hc⟩ := grown_adv a1.rel (w' := w.drew.alloc _) hall (hml (grownCap w (len + m) ((l.ce - 0) / inf.size) e)) hs0 (hge _ e) hob rfl rfl rfl rfl
          exact ⟨_, _, ρ', this, hc, a1.trans hadv⟩
    · simp at hu
  · simp at hu

/-- What an operation that acts comes to, at the machine. -/
def EffOk (P : Program) (w₀ : World) (B : Nat) (ρ : Env) (h : AH) (w : World) (a : Act) (o : Oper) : Eff → Prop
  | .val v h' => ∃ ρ' w' n, Adv w₀ B ρ h w ρ' h' w' ∧ (execOp a.eval o).run P w = .ok n w' ∧ ((∃ z, n = .value z ∧ con ρ' v = some z) ∨ (n = .skip ∧ v = .undef))
  | .call f args => ∃ args', conL ρ args = some args' ∧ ∀ fn, P.funcs[f]? = some fn → fn.body.isSome = true → (execOp a.eval o).run P w = .ok (.enter f ⟨args'⟩) w
  | .defer f args => ∃ first cap, conL ρ args = some (first ++ cap) ∧ (execOp a.eval o).run P w = .ok (.defer { target := .fn (.func f) ⟨cap⟩, args := ⟨first⟩ }) w
  | .recover => (execOp a.eval o).run P w = .ok .recover w

theorem callArgs_ok {ρ : Env} {g : AV} {l : List AV} {c : FuncId × List AV} {g' : Value} {l' : List Value} (h : callArgs g l = some c) (hg : con ρ g = some g') (hl : conL ρ l = some l') :
    ∃ first cap, conL ρ c.2 = some (first ++ cap) ∧ ∀ w, (Deferred.ofValue g' ⟨l'⟩).run P w = .ok { target := .fn (.func c.1) ⟨cap⟩, args := ⟨first⟩ } w := by
  unfold callArgs at h
  split at h
  · simp only [Option.some.injEq] at h
    subst h
    obtain ⟨a', c', h1, h2, rfl⟩ := con_fn hg
    exact ⟨a' ++ l', c', conL_append (conL_append h1 hl) h2, fun w => by simp [Deferred.ofValue]⟩
  · simp at h

variable {ext : Exts}

theorem eff_ok (hx : ExtOk P ext) {w₀ : World} {B : Nat} {ρ : Env} {h : AH} {w : World} (hr : Rel w₀ B ρ h w) {tm : TM} {a : Act} {o : Oper} {ef : Eff} (he : EvOk ρ tm a o.op.operands.toList) (hv : effOp P ext tm h o.op = some ef) :
    EffOk P w₀ B ρ h w a o ef := by
  obtain ⟨dst, op, type, pos, after, guard⟩ := o
  simp only at he hv
  unfold effOp at hv
  split at hv
  case h_1 t x y =>
    simp only [bnd, undQ_eq, infoQ_eq, funcQ_eq, Option.some.injEq] at hv
    obtain ⟨av, ha, xv, hxv, h', hs, rfl⟩ := hv
    obtain ⟨w', hw, hadv⟩ := store_ok (P := P) hr hs (ev_ok he (by simp [Op.operands]) ha) (ev_ok he (by simp [Op.operands]) hxv)
    exact ⟨ρ, w', .skip, hadv, by simp [execOp, hw], .inr ⟨rfl, rfl⟩⟩
  case h_2 t m k x =>
    simp only [bnd, undQ_eq, infoQ_eq, funcQ_eq, Option.some.injEq] at hv
    obtain ⟨mv, hm, kv, hk, xv, hxv, h', hs, rfl⟩ := hv
    obtain ⟨w', hw, hadv⟩ := mapUpdate_ok (P := P) hr hs (ev_ok he (by simp [Op.operands]) hm) (ev_ok he (by simp [Op.operands]) hk) (ev_ok he (by simp [Op.operands]) hxv)
    exact ⟨ρ, w', .skip, hadv, by simp [execOp, hw], .inr ⟨rfl, rfl⟩⟩
  case h_3 t m k =>
    simp only [bnd, undQ_eq, infoQ_eq, funcQ_eq, Option.some.injEq] at hv
    obtain ⟨mv, hm, kv, hk, r, hs, rfl⟩ := hv
    obtain ⟨z, w', hw, hz, hadv⟩ := mapEntry_ok (P := P) hr hs (ev_ok he (by simp [Op.operands]) hm) (ev_ok he (by simp [Op.operands]) hk)
    exact ⟨ρ, w', .value z, hadv, by simp [execOp, hw], .inl ⟨z, rfl, hz⟩⟩
  case h_4 t m s x =>
    simp only [bnd, undQ_eq, infoQ_eq, funcQ_eq, Option.some.injEq] at hv
    obtain ⟨mv, hm, sv, hs, xv, hxv, h', hes, rfl⟩ := hv
    obtain ⟨w', hw, hadv⟩ := entryStore_ok (P := P) hr t hes (ev_ok he (by simp [Op.operands]) hm) (ev_ok he (by simp [Op.operands]) hs) (ev_ok he (by simp [Op.operands]) hxv)
    exact ⟨ρ, w', .skip, hadv, by simp [execOp, hw], .inr ⟨rfl, rfl⟩⟩
  case h_5 it =>
    simp only [bnd, undQ_eq, infoQ_eq, funcQ_eq, grd_some, nbeq, Option.some.injEq] at hv
    obtain ⟨v, hv, p, hp, h0, r, hn, rfl⟩ := hv
    have := asPtr_ok hp
    subst this
    rw [h0] at hv
    obtain ⟨z, w', hw, hz, hadv⟩ := nextStr_ok (P := P) hr type hn (ev_ok he (by simp [Op.operands]) hv)
    exact ⟨ρ, w', .value z, hadv, by simp [execOp, hw], .inl ⟨z, rfl, hz⟩⟩
  case h_6 b as ts =>
    split at hv
    · simp only [bnd, undQ_eq, infoQ_eq, funcQ_eq, Option.some.injEq] at hv
      obtain ⟨sv, hs, xv, hxv, r, ha, rfl⟩ := hv
      obtain ⟨z, w', ρ', hw, hz, hadv⟩ := append_ok (P := P) hr type ha (ev_ok he (by simp [Op.operands, Call.operands]) hs) (ev_ok he (by simp [Op.operands, Call.operands]) hxv)
      exact ⟨ρ', w', .value z, hadv, by simp [execOp, resolve, invoke, builtin, hw], .inl ⟨z, rfl, hz⟩⟩
    · simp only [bnd, undQ_eq, infoQ_eq, funcQ_eq, Option.some.injEq] at hv
      obtain ⟨sv, hs, xv, hxv, r, ha, rfl⟩ := hv
      obtain ⟨z, w', hw, hz, hadv⟩ := copy_ok (P := P) hr type ha (ev_ok he (by simp [Op.operands, Call.operands]) hs) (ev_ok he (by simp [Op.operands, Call.operands]) hxv)
      exact ⟨ρ, w', .value z, hadv, by simp [execOp, resolve, invoke, builtin, hw], .inl ⟨z, rfl, hz⟩⟩
    · simp only [bnd, undQ_eq, infoQ_eq, funcQ_eq, Option.some.injEq] at hv
      obtain ⟨xv, hxv, h', hc, rfl⟩ := hv
      obtain ⟨w', hw, hadv⟩ := clear_ok (P := P) hr type hc (ev_ok he (by simp [Op.operands, Call.operands]) hxv)
      exact ⟨ρ, w', .value (.tuple #[]), hadv, by simp [execOp, resolve, invoke, builtin, hw], .inl ⟨_, rfl, by simp only [con]⟩⟩
    · simp only [bnd, undQ_eq, infoQ_eq, funcQ_eq, Option.some.injEq] at hv
      obtain ⟨pv, hp, nv, hn, n, hn', r, hs, rfl⟩ := hv
      obtain ⟨k, hk⟩ := asNat_ok hn' (ev_ok he (by simp [Op.operands, Call.operands]) hn)
      obtain ⟨z, w', hw, hz, hadv⟩ := unsafeStr_ok (P := P) hr type hs (ev_ok he (by simp [Op.operands, Call.operands]) hp) (k := k)
      exact ⟨ρ, w', .value z, hadv, by simp [execOp, resolve, invoke, builtin, hk, hw], .inl ⟨z, rfl, hz⟩⟩
    · simp only [Option.some.injEq] at hv
      subst hv
      show (execOp a.eval _).run P w = _
      simp [execOp, resolve, invoke, builtin]
    · simp at hv
  case h_7 f as ts =>
    simp only [bnd, undQ_eq, infoQ_eq, funcQ_eq] at hv
    obtain ⟨g, hg, l, hl, c, hc, hv⟩ := hv
    have h1 := ev_ok he (by simp [Op.operands, Call.operands]) hg
    have h2 := evL_ok he (fun x hx => by simp [Op.operands, Call.operands, hx]) hl
    obtain ⟨first, cap, h3, h4⟩ := callArgs_ok (P := P) hc h1 h2
    have hrun : (execOp a.eval ⟨dst, .call ⟨.value f, ⟨as⟩, ts⟩, type, pos, after, guard⟩).run P w = (callFunc c.1 ⟨first ++ cap⟩).run P w := by
      simp [execOp, resolve, h4, invoke]
    split at hv
    · simp only [Option.some.injEq] at hv
      subst hv
      refine ⟨_, h3, fun fn hf hb => ?_⟩
      rw [hrun]
      have hn := hx.body _ _ hf hb
      have hn' : ¬ fn.name = "runtime.NumGoroutine" := by simpa using hn
      have hnb : ¬ fn.body = none := fun e => by rw [e] at hb; simp at hb
      simp [callFunc, hf, hn', hnb]
    · rename_i e hee
      simp only [bnd, undQ_eq, infoQ_eq, funcQ_eq, Option.some.injEq] at hv
      obtain ⟨r, hr', rfl⟩ := hv
      obtain ⟨fn, d, hf, hd, hcall⟩ := run_ext hx hee
      obtain ⟨z, w', hz, hw, hadv⟩ := extEff_ok (P := P) hr hr' h3 hd
      refine ⟨ρ, w', .value z, hadv, ?_, .inl ⟨z, rfl, hz⟩⟩
      rw [hrun, hcall, hw]
      rfl
  case h_8 f as ts =>
    simp only [bnd, undQ_eq, infoQ_eq, funcQ_eq] at hv
    obtain ⟨g, hg, l, hl, c, hc, hv⟩ := hv
    have h1 := ev_ok he (by simp [Op.operands, Call.operands]) hg
    have h2 := evL_ok he (fun x hx => by simp [Op.operands, Call.operands, hx]) hl
    obtain ⟨first, cap, h3, h4⟩ := callArgs_ok (P := P) hc h1 h2
    split at hv
    · simp only [Option.some.injEq] at hv
      subst hv
      refine ⟨first, cap, h3, ?_⟩
      simp [execOp, resolve, h4]
    · simp at hv
  case h_9 => simp at hv

end Go.Sim
