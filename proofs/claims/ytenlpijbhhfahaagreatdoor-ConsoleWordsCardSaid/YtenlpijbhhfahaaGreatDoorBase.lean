/- The evaluator at this program: its functions without a body, strings.Index by its contract, and a call of lives: it returns true, and leaves alone what was there. -/
import Derived.Test.YtenlpijbhhfahaaGreatDoorSimZ
import Derived.Test.YtenlpijbhhfahaaGreatDoorLib
import Derived.Below
import Derived.KernelRfl
import Derived.Lib.IndexLaws
set_option linter.all false
namespace Go.Proofs.YtenlpijbhhfahaaGreatDoor
open Go Go.Sim Go.RowKit

-- functions without a body

noncomputable def findE (l : List (Nat × Ext)) (f : Nat) : Option Ext :=
  List.rec (motive := fun _ => Option Ext) none (fun p _ ih => Prod.rec (motive := fun _ => Option Ext) (fun k e => Bool.rec (motive := fun _ => Option Ext) ih (some e) (Nat.beq f k)) p) l

theorem findE_mem : ∀ {l : List (Nat × Ext)} {f : Nat} {e : Ext}, findE l f = some e → (f, e) ∈ l
  | [], f, e, h => by simp [findE] at h
  | (k, e') :: l, f, e, h => by
    have h' : findE ((k, e') :: l) f = Bool.rec (motive := fun _ => Option Ext) (findE l f) (some e') (Nat.beq f k) := rfl
    rw [h'] at h
    cases hb : Nat.beq f k with
    | false => rw [hb] at h; exact List.mem_cons_of_mem _ (findE_mem h)
    | true =>
      rw [hb] at h
      simp only [Option.some.injEq] at h
      have := nbeq.1 hb
      subst this
      subst h
      exact List.mem_cons_self

noncomputable def extL : List (Nat × Ext) := [(152, .same), (367, .mark0), (369, .mark0), (370, .mark1), (372, .mark1), (226, .cmp), (268, .find), (215, .count), (153, .noZero), (293, .load32), (335, .store32), (368, .cas32), (373, .add32), (249, .add64)]

noncomputable def extF (f : FuncId) : Option Ext := findE extL f

theorem ext_no : ∀ f e, extF f = some e → ∃ fn d, Tryz.prog.funcs[f]? = some fn ∧ (fn.name == "runtime.NumGoroutine") = false ∧ fn.body.isNone = true ∧ Extern.findNext fn = none ∧ Extern.find fn = some d ∧ e.does fn d := by
  intro f e h
  have hm := findE_mem h
  simp only [extL, List.mem_cons, List.not_mem_nil, or_false, Prod.mk.injEq] at hm
  rcases hm with ⟨rfl, rfl⟩ | ⟨rfl, rfl⟩ | ⟨rfl, rfl⟩ | ⟨rfl, rfl⟩ | ⟨rfl, rfl⟩ | ⟨rfl, rfl⟩ | ⟨rfl, rfl⟩ | ⟨rfl, rfl⟩ | ⟨rfl, rfl⟩ | ⟨rfl, rfl⟩ | ⟨rfl, rfl⟩ | ⟨rfl, rfl⟩ | ⟨rfl, rfl⟩ | ⟨rfl, rfl⟩
  · exact ⟨_, _, Tryz.func152, by kernel_rfl, by kernel_rfl, by kernel_rfl, by kernel_rfl, rfl⟩
  · exact ⟨_, fun _ => do mark .disable; pure Extern.Race.none_, Tryz.func367, by kernel_rfl, by kernel_rfl, by kernel_rfl, by kernel_rfl, ⟨.disable, rfl⟩⟩
  · exact ⟨_, fun _ => do mark .enable; pure Extern.Race.none_, Tryz.func369, by kernel_rfl, by kernel_rfl, by kernel_rfl, by kernel_rfl, ⟨.enable, rfl⟩⟩
  · exact ⟨_, Extern.Race.marked .acquire, Tryz.func370, by kernel_rfl, by kernel_rfl, by kernel_rfl, by kernel_rfl, ⟨.acquire, rfl⟩⟩
  · exact ⟨_, Extern.Race.marked .releaseMerge, Tryz.func372, by kernel_rfl, by kernel_rfl, by kernel_rfl, by kernel_rfl, ⟨.releaseMerge, rfl⟩⟩
  · exact ⟨_, _, Tryz.func226, by kernel_rfl, by kernel_rfl, by kernel_rfl, by kernel_rfl, rfl⟩
  · exact ⟨_, _, Tryz.func268, by kernel_rfl, by kernel_rfl, by kernel_rfl, by kernel_rfl, rfl⟩
  · exact ⟨_, _, Tryz.func215, by kernel_rfl, by kernel_rfl, by kernel_rfl, by kernel_rfl, rfl⟩
  · exact ⟨_, _, Tryz.func153, by kernel_rfl, by kernel_rfl, by kernel_rfl, by kernel_rfl, rfl⟩
  · exact ⟨_, _, Tryz.func293, by kernel_rfl, by kernel_rfl, by kernel_rfl, by kernel_rfl, rfl⟩
  · exact ⟨_, _, Tryz.func335, by kernel_rfl, by kernel_rfl, by kernel_rfl, by kernel_rfl, rfl⟩
  · exact ⟨_, _, Tryz.func368, by kernel_rfl, by kernel_rfl, by kernel_rfl, by kernel_rfl, rfl⟩
  · exact ⟨_, _, Tryz.func373, by kernel_rfl, by kernel_rfl, by kernel_rfl, by kernel_rfl, rfl⟩
  · exact ⟨_, _, Tryz.func249, by kernel_rfl, by kernel_rfl, by kernel_rfl, by kernel_rfl, rfl⟩

theorem no_count : (Tryz.prog.funcs.toList.all fun fn => !(fn.name == "runtime.NumGoroutine")) = true := by kernel_rfl

theorem ext_body : ∀ (f : FuncId) (fn : Func), Tryz.prog.funcs[f]? = some fn → fn.body.isSome = true → (fn.name == "runtime.NumGoroutine") = false := by
  intro f fn h _
  have hm : fn ∈ Tryz.prog.funcs.toList := by
    rw [← Array.getElem?_toList] at h
    exact List.mem_of_getElem? h
  have := List.all_eq_true.1 no_count fn hm
  simpa using this

theorem extOk [Sig] {o : Ora} (ho : OraOk o) : ExtOk Tryz.prog ⟨extF, o⟩ := ⟨ext_no, ext_body, ho⟩

theorem follows : Tryz.prog.follows .mixedOrders = true := by kernel_rfl

-- what leaves alone all that was there

theorem below_adv [Sig] {w₀ : World} {B : Nat} {ρ : Env} {h : AH} {w w' : World} (hr : Rel w₀ B ρ h w) (hb : Below w.heap.size w w') : Adv w₀ B ρ h w ρ h w' where
  ext := Ext'.refl ρ
  rel := {
    obj := fun id o ho => by
      obtain ⟨l, x, h1, h2, h3⟩ := hr.obj id o ho
      have hl : l.blk < w.heap.size := by
        obtain ⟨hl, _⟩ := Array.getElem?_eq_some_iff.1 h2
        exact hl
      exact ⟨l, x, h1, by rw [hb.block _ hl]; exact h2, h3⟩
    inj := hr.inj
    dom := hr.dom
    low := hr.low
    size := Nat.le_trans hr.size hb.size
    base := fun b hb' => by rw [hb.block _ (Nat.lt_of_lt_of_le hb' hr.size)]; exact hr.base b hb' }
  size := hb.size
  frame := fun b h1 _ => hb.block b h1
  own := fun b h1 => .inr h1
  next := Nat.le_refl _
  fresh := fun _ _ h1 => .inl h1
  keep := fun _ _ h1 => h1
  os := hb.os
  output := hb.output
  tape := hb.tape

theorem adv_below [Sig] {w w' : World} {ρ ρ' : Env} {h h' : AH} (ho : ∀ id, h.objs.get id = none) (ha : Adv w w.heap.size ρ h w ρ' h' w') : Below w.heap.size w w' :=
  ⟨ha.os, ha.tape, ha.output, ha.size, fun k hk => ha.frame k hk fun ⟨id, o, _, h1, _⟩ => by rw [ho id] at h1; simp at h1⟩

theorem rel_empty [Sig] (w : World) : Rel w w.heap.size (fun _ => none) ⟨.nil, 0⟩ w where
  obj := fun id o h => by simp at h
  inj := fun id id' o o' l l' h => by simp at h
  dom := fun id l h => by simp at h
  low := fun id l h => by simp at h
  size := Nat.le_refl _
  base := fun _ _ => rfl

-- strings.Index

noncomputable def idxF (l2 c2 n : Nat) : Nat → Nat → Int :=
  Nat.rec (motive := fun _ => Nat → Nat → Int) (fun _ i => Bool.rec (motive := fun _ => Int) (.negSucc 0) (.ofNat i) (Nat.beq l2 0))
    (fun n ih c i => Bool.rec (motive := fun _ => Int) (ih (Nat.div c 256) (Nat.succ i)) (Bool.rec (motive := fun _ => Int) (ih (Nat.div c 256) (Nat.succ i)) (.ofNat i) (strEq l2 c l2 c2)) (Nat.ble l2 (Nat.succ n))) n

theorem prefix_iff [Sig] (l2 c2 n c : Nat) : (bytesN l2 c2).isPrefixOf (bytesN n c) = (Nat.ble l2 n && strEq l2 c l2 c2) := by
  cases hb : Nat.ble l2 n with
  | false =>
    have := nble_f.1 hb
    simp only [Bool.false_and]
    rw [← Bool.not_eq_true]
    intro h
    have := (List.isPrefixOf_iff_prefix.1 h).length_le
    rw [bytesN_len, bytesN_len] at this
    omega
  | true =>
    have hle := nble.1 hb
    simp only [Bool.true_and]
    have ht : (bytesN n c).take l2 = bytesN l2 c := by rw [bytesN_take, Nat.min_eq_left hle]
    cases hs : strEq l2 c l2 c2 with
    | true =>
      have := (strEq_iff _ _ _ _).1 hs
      have h' : bytesN l2 c = bytesN l2 c2 := by simpa [bytesOf] using this
      rw [List.isPrefixOf_iff_prefix, List.prefix_iff_eq_take, bytesN_len, ht, h']
    | false =>
      rw [← Bool.not_eq_true]
      intro h
      rw [List.isPrefixOf_iff_prefix, List.prefix_iff_eq_take, bytesN_len, ht] at h
      have : strEq l2 c l2 c2 = true := (strEq_iff _ _ _ _).2 (by simp [bytesOf, h])
      rw [hs] at this
      simp at this

theorem idxF_ok [Sig] (l2 c2 : Nat) : ∀ (n c i : Nat), idxF l2 c2 n c i = if Lib.index (bytesN n c) (bytesN l2 c2) = -1 then -1 else Lib.index (bytesN n c) (bytesN l2 c2) + i
  | 0, c, i => by
    show Bool.rec (motive := fun _ => Int) (.negSucc 0) (.ofNat i) (Nat.beq l2 0) = _
    cases l2 with
    | zero => simp [bytesN, Lib.index]
    | succ l =>
      show (-1 : Int) = _
      simp [bytesN, Lib.index]
  | n + 1, c, i => by
    have hp := prefix_iff l2 c2 (n + 1) c
    have h1 : idxF l2 c2 (n + 1) c i = Bool.rec (motive := fun _ => Int) (idxF l2 c2 n (c / 256) (i + 1)) (Bool.rec (motive := fun _ => Int) (idxF l2 c2 n (c / 256) (i + 1)) (.ofNat i) (strEq l2 c l2 c2)) (Nat.ble l2 (n + 1)) := rfl
    have h2 : Lib.index (bytesN (n + 1) c) (bytesN l2 c2) = if (Nat.ble l2 (n + 1) && strEq l2 c l2 c2) then 0 else if Lib.index (bytesN n (c / 256)) (bytesN l2 c2) == -1 then -1 else Lib.index (bytesN n (c / 256)) (bytesN l2 c2) + 1 := by
      rw [← hp]; rfl
    have ih := idxF_ok l2 c2 n (c / 256) (i + 1)
    have hge := Lib.index_ge (bytesN n (c / 256)) (bytesN l2 c2)
    rw [h1, h2]
    have hno : ∀ b, b = false → (if b = true then (0 : Int) else if Lib.index (bytesN n (c / 256)) (bytesN l2 c2) == -1 then -1 else Lib.index (bytesN n (c / 256)) (bytesN l2 c2) + 1) = if Lib.index (bytesN n (c / 256)) (bytesN l2 c2) = -1 then -1 else Lib.index (bytesN n (c / 256)) (bytesN l2 c2) + 1 := fun b hb => by
      subst hb
      by_cases e : Lib.index (bytesN n (c / 256)) (bytesN l2 c2) = -1 <;> simp [e]
    cases hb : Nat.ble l2 (n + 1) with
    | false =>
      simp only [Bool.false_and]
      rw [hno false rfl, ih]
      by_cases e : Lib.index (bytesN n (c / 256)) (bytesN l2 c2) = -1
      · simp [e]
      · simp only [e, if_false]
        rw [if_neg (by omega)]
        omega
    | true =>
      simp only [Bool.true_and]
      cases hs : strEq l2 c l2 c2 with
      | true => simp
      | false =>
        rw [hno false rfl]
        simp only
        rw [ih]
        by_cases e : Lib.index (bytesN n (c / 256)) (bytesN l2 c2) = -1
        · simp [e]
        · simp only [e, if_false]
          rw [if_neg (by omega)]
          omega

noncomputable def idxV (args : List AV) (h : AH) : Option (AV × AH) :=
  match args with
  | [.str a b, .str c d] => grd (Nat.ble a 4294967280) (some (.int .i64 (idxF c d a b 0), h))
  | _ => none

noncomputable def idxK (f : FuncId) (args : List AV) (h : AH) : Option (AV × AH) :=
  Bool.rec (motive := fun _ => Option (AV × AH)) none (idxV args h) (Nat.beq f 106)

theorem idxK_ok [Sig] {w₀ : World} {B : Nat} {m : Int} (hB : 0 < B) (hm : w₀.cell? ⟨0, 0, none⟩ = some (.int .i64 m)) : CallOk Tryz.prog w₀ B idxK := by
  intro ρ h w f args args' v h' hr hargs hcall
  unfold idxK at hcall
  cases hf : Nat.beq f 106 with
  | false => rw [hf] at hcall; simp at hcall
  | true =>
    rw [hf] at hcall
    have := nbeq.1 hf
    subst this
    simp only at hcall
    unfold idxV at hcall
    split at hcall
    · rename_i a b c d
      simp only [grd_some, nble, Option.some.injEq, Prod.mk.injEq] at hcall
      obtain ⟨hle, rfl, rfl⟩ := hcall
      obtain ⟨x, y, hx, hy, rfl⟩ := conL2 hargs
      rw [con_str hx, con_str hy]
      refine ⟨⟨Tryz.f106, Tryz.func106, by kernel_rfl⟩, ?_⟩
      have hcell : w.cell? ⟨0, 0, none⟩ = some (.int .i64 m) := by
        rw [← hm]
        unfold World.cell?
        rw [hr.base 0 hB]
      refine (Tryz.strings_Index (bytesOf a b) (bytesOf c d) m w (by rw [bytesOf_size]; omega) hcell).mono fun e w' he => ?_
      obtain ⟨rfl, rfl⟩ := he
      refine ⟨ρ, _, rfl, Adv.refl hr, ?_⟩
      have e1 : (bytesOf a b).data.toList = bytesN a b := rfl
      have e2 : (bytesOf c d).data.toList = bytesN c d := rfl
      rw [e1, e2, idxF_ok, con_i]
      have hge := Lib.index_ge (bytesN a b) (bytesN c d)
      by_cases e : Lib.index (bytesN a b) (bytesN c d) = -1
      · simp [e]
      · simp [e]
    · simp at hcall

-- nothing that is not known

noncomputable def noOra : Ora := ⟨fun _ _ _ => none, fun _ _ => none, fun _ => none, fun _ => none, fun _ => false, fun _ => false⟩

theorem noOra_ok [Sig] : OraOk noOra where
  bin := fun _ _ _ _ h => by simp [noOra] at h
  conv := fun _ _ _ h => by simp [noOra] at h
  len := fun _ _ h => by simp [noOra] at h
  bytes := fun _ _ h => by simp [noOra] at h
  isInt := fun _ h => by simp [noOra] at h
  isStr := fun _ h => by simp [noOra] at h

@[reducible] noncomputable def noSig : Sig := ⟨fun _ => none, fun _ _ h => by simp at h⟩

end Go.Proofs.YtenlpijbhhfahaaGreatDoor
