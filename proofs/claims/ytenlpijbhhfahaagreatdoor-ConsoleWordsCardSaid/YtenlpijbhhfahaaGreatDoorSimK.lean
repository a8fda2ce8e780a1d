/- The evaluator, its soundness, ninth part: append. -/
import Derived.Test.YtenlpijbhhfahaaGreatDoorSimJ
set_option linter.all false
set_option maxHeartbeats 2000000
namespace Go.Sim
variable [Sig]
variable {P : Program}

/-- What append adds, and how many elements. -/
def Adds (P : Program) (xd : TypeDesc) (inf : TypeInfo) (x' : Value) (n : Nat) (xs : List Value) (w : World) : Prop :=
  (∃ k k', xd = .int k ∧ x' = .int k' (n : Int) ∧ n ≤ 2 ^ 40 ∧ n * inf.bytes ≤ 2 ^ 40 ∧ ∃ z, inf.zero = some z ∧ z.cells.toList.length = inf.size ∧ xs = zerosV z.cells.toList n) ∨
  ((∀ k, xd ≠ .int k) ∧ (∀ v, (Builtin.lenOf x').run P v = .ok n v) ∧ ∀ d, (Builtin.firstCells inf.size n x').run P { w with drawn := d } = .ok ⟨xs⟩ { w with drawn := d })

theorem added_ok {w₀ : World} {B : Nat} {ρ : Env} {h : AH} {w : World} (hr : Rel w₀ B ρ h w) {e : TypeId} {inf : TypeInfo} {xd : TypeDesc} {x : AV} {x' : Value} {a : List AV × Nat} (hi : P.info? e = some inf)
    (ha : added P h e inf.size xd x = some a) (hx : con ρ x = some x') (hb : a.2 * inf.bytes ≤ 2 ^ 40) (hb' : a.2 ≤ 2 ^ 40) : ∃ xs, conL ρ a.1 = some xs ∧ Adds P xd inf x' a.2 xs w := by
  unfold added at ha
  split at ha
  · simp only [bnd, undQ_eq, infoQ_eq, funcQ_eq, grd_some, nbeq, Option.some.injEq] at ha
    obtain ⟨n, hn, z, hz, hzl, rfl⟩ := ha
    obtain ⟨k', rfl⟩ := asNat_ok hn hx
    obtain ⟨i, zv, hi', hzv, hc⟩ := zeroL_ok hz ρ
    rw [hi] at hi'
    simp only [Option.some.injEq] at hi'
    subst hi'
    exact ⟨_, conL_zeros hc n, .inl ⟨_, k', rfl, rfl, hb', hb, zv, hzv, by rw [conL_len hc, hzl], rfl⟩⟩
  · rename_i hne
    simp only [bnd, undQ_eq, infoQ_eq, funcQ_eq, Option.some.injEq] at ha
    obtain ⟨n, hn, l, hl, rfl⟩ := ha
    obtain ⟨xs, hxs, hf⟩ := firstCells_ok (P := P) hr hl hn (Nat.le_refl _) hx
    exact ⟨xs, hxs, .inr ⟨fun k hk => hne k hk, lenOf_ok hn hx, hf⟩⟩

theorem run_append {st xt ty e : TypeId} {xd : TypeDesc} {inf : TypeInfo} {z : Value} {base : Option Addr} {sLen sCap n : Nat} {x' : Value} {xs : List Value} {w : World} (ht : P.underlying st = some (.slice e)) (hxt : P.underlying xt = some xd)
    (hi : P.info? e = some inf) (hz : inf.zero = some z) (hs0 : 0 < inf.size) (ha : Adds P xd inf x' n xs w) (hb : (sLen + n) * inf.bytes ≤ 2 ^ 40) (hb' : sLen + n ≤ 2 ^ 40) {os : List Value} (ho : ¬ sLen + n ≤ sCap → (Builtin.firstCells inf.size sLen (.slice base sLen sCap)).run P w.drew = .ok ⟨os⟩ w.drew) :
    (Builtin.append_ #[st, xt] ty #[.slice base sLen sCap, x']).run P w =
      if sLen + n ≤ sCap then
        ((match base with | some a => storeCells (a.add (sLen * inf.size)) xs | none => pure () : Sem Unit).run P w).andThen fun _ w => .ok (.slice base (sLen + n) sCap) w
      else
        .ok (.slice (some ⟨w.heap.size, 0, none⟩) (sLen + n) (grownCap w (sLen + n) sCap e)) (w.drew.alloc (.cells ⟨os ++ xs ++ zerosV z.cells.toList (grownCap w (sLen + n) sCap e - (sLen + n))⟩ e)) := by
  have hrest : ∀ k, (Builtin.zeroCells z.cells k).toList = zerosV z.cells.toList k := fun k => congrArg Array.toList (run_zeroCells z.cells.toList k)
  have hcapfit : ∀ (c : Nat), c < sLen + n → ¬ (281474976710656 < Builtin.nextslicecap (sLen + n) c * inf.bytes) := fun c hc => by
    have := growslice_fits (bytes := inf.bytes) hc (by omega)
    omega
  have h63 : ¬ (9223372036854775807 < ((sLen : Int) + (n : Int))) := by omega
  have hmax : IntKind.i64.max = 9223372036854775807 := rfl
  rcases ha with ⟨k, k', rfl, rfl, hn, hnb, z', hz', hzl, rfl⟩ | ⟨hne, hlen, hf⟩
  · rw [hz] at hz'
    simp only [Option.some.injEq] at hz'
    subst hz'
    have hw : IntKind.i64.wrap (n : Int) = n := by rw [IntKind.wrap_i64]; omega
    have hneg : ¬ ((n : Int) < 0) := by omega
    have hnb' : ¬ ((281474976710656 : Int) < (n : Int) * (inf.bytes : Int)) := by
      have : ((n * inf.bytes : Nat) : Int) ≤ 1099511627776 := by omega
      rw [Int.natCast_mul] at this
      omega
    have hzc : Builtin.zeroCells z.cells n = ⟨zerosV z.cells.toList n⟩ := run_zeroCells z.cells.toList n
    have hsz := run_sizeOf' (show sizeT P e = some inf.size by simp [sizeT, infoQ_eq, hi])
    by_cases h0 : n * inf.size = 0
    · have : n = 0 := by
        rcases Nat.eq_zero_or_pos n with h | h
        · exact h
        · have := Nat.mul_pos h hs0; omega
      subst this
      by_cases hle : sLen + 0 ≤ sCap
      · rw [if_pos hle]
        simp only [Nat.add_zero] at hle
        cases base <;> simp [Builtin.append_, run_underlying ht, run_underlying hxt, hsz, asInt, asIntOf, run_typeInfo' hi, hle, hmax, zerosV, IntKind.wrap_i64]
      · rw [if_neg hle]
        have hfit := hcapfit sCap (by omega)
        have ho := ho hle
        simp only [Nat.add_zero] at hle hfit
        have h63' : ¬ (9223372036854775807 < (sLen : Int)) := by omega
        simp [Builtin.append_, run_underlying ht, run_underlying hxt, hsz, asInt, asIntOf, run_typeInfo' hi, hle, hmax, zerosV, IntKind.wrap_i64, h63', hfit, Question.forced, zeroValue, hz, newRow, grownCap, ho]
        congr 2
        apply Array.ext'
        simp [hrest]
    · by_cases hle : sLen + n ≤ sCap
      · rw [if_pos hle]
        cases base <;> simp [Builtin.append_, run_underlying ht, run_underlying hxt, hsz, asInt, asIntOf, hw, hneg, run_typeInfo' hi, hnb', hle, hmax, h0, zeroValue, hz, hzc]
      · rw [if_neg hle]
        have hfit := hcapfit sCap (by omega)
        have ho := ho hle
        simp [Builtin.append_, run_underlying ht, run_underlying hxt, hsz, asInt, asIntOf, hw, hneg, run_typeInfo' hi, hnb', hle, hmax, h0, zeroValue, hz, hzc, h63, hfit, Question.forced, newRow, grownCap, ho]
        congr 2
        apply Array.ext'
        simp [hrest, List.append_assoc]
  · have hsz := run_sizeOf' (show sizeT P e = some inf.size by simp [sizeT, infoQ_eq, hi])
    have hz' : ∀ w : World, (match xd with | .int _ => (pure true : Sem Bool) | _ => pure false).run P w = .ok false w := fun w => by
      cases xd <;> first | rfl | exact absurd rfl (hne _)
    have hf0 := hf w.drawn
    have hf1 := hf (w.drawn + 1)
    have hf1' : (Builtin.firstCells inf.size n x').run P w.drew = .ok ⟨xs⟩ w.drew := hf1
    have hint : (match xd with | .int _ => true | _ => false) = false := by
      cases xd <;> first | rfl | exact absurd rfl (hne _)
    by_cases hle : sLen + n ≤ sCap
    · rw [if_pos hle]
      cases base <;> simp [Builtin.append_, run_underlying ht, run_underlying hxt, hsz, hlen, hint, hle, hf0]
    · rw [if_neg hle]
      have hfit := hcapfit sCap (by omega)
      have ho := ho hle
      have hneq : ¬ (xd = .int .i64) := hne _
      simp [Builtin.append_, run_underlying ht, run_underlying hxt, hsz, hlen, hle, hmax, run_typeInfo' hi, h63, hfit, Question.forced, zeroValue, hz, newRow, grownCap, ho, hf1']
      congr 2
      apply Array.ext'
      simp [hrest, List.append_assoc]
/-- An object is given up. -/
theorem Adv.drop {w₀ : World} {B : Nat} {ρ : Env} {h : AH} {w : World} (hr : Rel w₀ B ρ h w) (id : Nat) : Adv w₀ B ρ h w ρ { objs := h.objs.set id none, next := h.next } w := by
  have hex : ∀ j q, (h.objs.set id none).get j = some q → h.objs.get j = some q := fun j q hq => by
    rw [T.get_set] at hq
    split at hq
    · simp at hq
    · exact hq
  refine ⟨Ext'.refl ρ, ⟨fun j q hq => hr.obj j q (hex j q hq), fun j k q q' l l' hq hq' => hr.inj j k q q' l l' (hex j q hq) (hex k q' hq'), hr.dom, hr.low, hr.size, hr.base⟩, Nat.le_refl _, fun _ _ _ => rfl, ?_, Nat.le_refl _, fun _ _ h => .inl h, ?_, rfl, rfl, rfl⟩
  · rintro b ⟨j, q, l, hq, hl, hb⟩
    exact .inr ⟨j, q, l, hex j q hq, hl, hb⟩
  · intro j _ hn
    cases e : (h.objs.set id none).get j with
    | none => exact absurd e hn
    | some q => rw [hex j q e]; simp

/-- An object has another name from now on. -/
theorem Adv.rename {w₀ : World} {B : Nat} {ρ : Env} {h : AH} {w : World} (hr : Rel w₀ B ρ h w) {id : Nat} {o : AObj} {l : Loc} (ho : h.objs.get id = some o) (hl : ρ id = some l) :
    Adv w₀ B ρ h w (ρ.add h.next l) { objs := (h.objs.set id none).set h.next (some o), next := h.next + 1 } w := by
  have hid : id < h.next := hr.dom id l hl
  have hfree := hr.free (Nat.le_refl h.next)
  have he := Env.add_ext (id := h.next) l hfree
  have hother : ∀ j q m, ((h.objs.set id none).set h.next (some o)).get j = some q → (ρ.add h.next l) j = some m → ∃ j', h.objs.get j' = some q ∧ ρ j' = some m ∧ (j' = j ∧ j ≠ id ∧ j ≠ h.next ∨ j' = id ∧ j = h.next) := fun j q m hq hm => by
    by_cases e : j = h.next
    · subst e
      rw [T.get_set_same] at hq
      simp only [Option.some.injEq] at hq
      subst hq
      rw [add_self] at hm
      exact ⟨id, ho, by rw [hl, hm], .inr ⟨rfl, rfl⟩⟩
    · rw [T.get_set_other _ _ e] at hq
      by_cases e' : j = id
      · subst e'; rw [T.get_set_same] at hq; simp at hq
      · rw [T.get_set_other _ _ e'] at hq
        refine ⟨j, hq, by simpa [Env.add, e] using hm, .inl ⟨rfl, e', e⟩⟩
  refine ⟨he, ⟨?_, ?_, ?_, ?_, hr.size, hr.base⟩, Nat.le_refl _, fun _ _ _ => rfl, ?_, Nat.le_succ _, ?_, ?_, rfl, rfl, rfl⟩
  · intro j q hq
    have : ∃ m, (ρ.add h.next l) j = some m := by
      by_cases e : j = h.next
      · exact ⟨l, by rw [e, add_self]⟩
      · simp only [T.get_set_other _ _ e] at hq
        by_cases e' : j = id
        · subst e'; rw [T.get_set_same] at hq; simp at hq
        · rw [T.get_set_other _ _ e'] at hq
          obtain ⟨m, _, hm, _⟩ := hr.obj j q hq
          exact ⟨m, by simpa [Env.add, e] using hm⟩
    obtain ⟨m, hm⟩ := this
    obtain ⟨j', h1, h2, _⟩ := hother j q m hq hm
    obtain ⟨m', y, g1, g2, g3⟩ := hr.obj j' q h1
    rw [h2] at g1
    simp only [Option.some.injEq] at g1
    subst g1
    exact ⟨m, y, hm, g2, g3.ext he⟩
  · intro j k q q' m m' hq hq' hm hm' hb
    obtain ⟨j', h1, h2, h3⟩ := hother j q m hq hm
    obtain ⟨k', g1, g2, g3⟩ := hother k q' m' hq' hm'
    have := hr.inj j' k' q q' m m' h1 g1 h2 g2 hb
    omega
  · intro j m hm
    by_cases e : j = h.next
    · show j < h.next + 1; omega
    · have := hr.dom j m (by simpa [Env.add, e] using hm)
      show j < h.next + 1; omega
  · intro j m hm
    by_cases e : j = h.next
    · subst e
      rw [add_self] at hm
      simp only [Option.some.injEq] at hm
      subst hm
      exact hr.low id l hl
    · exact hr.low j m (by simpa [Env.add, e] using hm)
  · rintro b ⟨j, q, m, hq, hm, hb⟩
    obtain ⟨j', h1, h2, _⟩ := hother j q m hq hm
    exact .inr ⟨j', q, m, h1, h2, hb⟩
  · intro j m hm
    by_cases e : j = h.next
    · exact .inr (by omega)
    · exact .inl (by simpa [Env.add, e] using hm)
  · intro j hj hn
    have e : j ≠ h.next := by omega
    simp only [T.get_set_other _ _ e] at hn
    by_cases e' : j = id
    · subst e'; rw [ho]; simp
    · rwa [T.get_set_other _ _ e'] at hn

/-- A new row of open capacity: what append makes. -/
theorem grown_adv {w₀ : World} {B : Nat} {ρ : Env} {h : AH} {w w' : World} (hr : Rel w₀ B ρ h w) {o : AObj} {e : TypeId} {all more : List Value} {need cap size : Nat} (hlen : all.length = need * size) (hm : more.length = (cap - need) * size) (hs : 0 < size)
    (hcap : need ≤ cap) (hx : ObjAt ρ o ⟨w.heap.size, (all ++ more).length⟩ (.cells ⟨all ++ more⟩ e)) (hw : w'.heap = w.heap.push (.cells ⟨all ++ more⟩ e)) (hos : w'.os = w.os) (hout : w'.output = w.output) (htape : w'.tape = w.tape) :
    ∃ ρ', Adv w₀ B ρ h w ρ' (h.new o) w' ∧ con ρ' (.slo h.next 0 need size) = some (.slice (some ⟨w.heap.size, 0, none⟩) need cap) := by
  have hce : (all ++ more).length = cap * size := by
    rw [List.length_append, hlen, hm, ← Nat.add_mul]
    congr 1
    omega
  have hd : (cap * size - 0) / size = cap := by rw [Nat.sub_zero, Nat.mul_div_cancel _ hs]
  refine Made.adv hr (o := o) ⟨⟨_, _, hx, hw, ?_⟩, hos, hout, htape⟩
  simp only [con, add_self, Option.bind_some, openSlice, hce, hd]
  rw [if_pos hcap]

end Go.Sim
