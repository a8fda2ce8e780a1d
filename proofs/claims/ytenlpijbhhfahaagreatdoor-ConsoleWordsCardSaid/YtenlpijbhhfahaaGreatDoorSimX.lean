/- The evaluator for the kernel is sound, second part: its fast operations. -/
import Derived.Test.YtenlpijbhhfahaaGreatDoorSimW
set_option linter.all false
set_option maxHeartbeats 2000000
namespace Go.Sim
variable {P : Program} {ext : Exts}

theorem wrap_small {k : IntKind} {m : Nat} (h : m < limOf k) : k.wrap (Int.ofNat m) = Int.ofNat m := by
  have h' : (m : Int) < (limOf k : Int) := by omega
  cases k <;> simp only [limOf] at h' <;> simp [IntKind.wrap, IntKind.bits, IntKind.signed] <;> omega

theorem wrapN_eq (k : IntKind) (m : Nat) : wrapN k m = some (.int k (k.wrap (Int.ofNat m))) := by
  cases m with
  | zero => cases k <;> rfl
  | succ p =>
    show Bool.rec (motive := fun _ => Option AV) (some (.int k (k.wrap (.ofNat (Nat.succ p))))) (some (.int k (.ofNat (Nat.succ p)))) (Nat.ble (Nat.succ (Nat.succ p)) (limOf k)) = _
    cases e : Nat.ble (Nat.succ (Nat.succ p)) (limOf k) with
    | false => rfl
    | true =>
      have := nble.1 e
      show some (AV.int k (.ofNat (Nat.succ p))) = _
      rw [wrap_small (by omega)]

theorem boolV_eq (b : Bool) : boolV b = some (.bool b) := by cases b <;> rfl

theorem nats_some {x y : AV} {f : IntKind → Nat → Nat → Option AV} {v : AV} (h : nats x y f = some v) : ∃ k m n, x = .int k (.ofNat m) ∧ y = .int k (.ofNat n) ∧ f k m n = some v := by
  simp only [nats, onInt_eq] at h
  cases x with
  | int k a =>
    cases y with
    | int k' b =>
      simp only at h
      cases e : Nat.beq (kindNo k) (kindNo k') with
      | false => rw [e] at h; simp at h
      | true =>
        rw [e] at h
        have := kindNo_inj e
        subst this
        cases a with
        | ofNat m =>
          cases b with
          | ofNat n => exact ⟨k, m, n, rfl, rfl, h⟩
          | negSucc n => simp at h
        | negSucc m => simp at h
    | _ => simp at h
  | _ => simp at h

theorem ofNat_beq (m n : Nat) : ((Int.ofNat m : Int) == Int.ofNat n) = Nat.beq m n := by
  cases e : Nat.beq m n with
  | true =>
    have := nbeq.1 e
    subst this
    simp
  | false =>
    have := nbeq_f.1 e
    simp; omega

theorem natOp_ok {op : BinOp} {f : IntKind → Nat → Nat → Option AV} (hf : natOp op = some f) {k : IntKind} {m n : Nat} {v : AV} (h : f k m n = some v) (t : TypeId) (c : Bool) :
    binAV P op t c (.int k (.ofNat m)) (.int k (.ofNat n)) = some v := by
  have hb : binAV P op t c (.int k (.ofNat m)) (.int k (.ofNat n)) = ofPure (binOp op t (.int k (.ofNat m)) (.int k (.ofNat n))) := rfl
  rw [hb]
  cases op <;> simp only [natOp, Option.some.injEq, reduceCtorEq] at hf <;> subst hf
  · simp only [wrapN_eq] at h
    simp only [binOp, ne_eq, not_true_eq_false, if_false, Op.intArith]
    exact h
  · simp only at h
    cases e : Nat.ble n m with
    | false => rw [e] at h; simp at h
    | true =>
      rw [e] at h
      simp only [wrapN_eq] at h
      have hle := nble.1 e
      simp only [binOp, ne_eq, not_true_eq_false, if_false, Op.intArith]
      have : (Int.ofNat m - Int.ofNat n : Int) = Int.ofNat (Nat.sub m n) := by
        show (m : Int) - (n : Int) = ((m - n : Nat) : Int)
        omega
      rw [this]
      exact h
  · simp only [wrapN_eq] at h
    simp only [binOp, ne_eq, not_true_eq_false, if_false, Op.intArith]
    exact h
  · simp only [boolV_eq] at h
    simp only [binOp, ne_eq, not_true_eq_false, if_false, Op.intCmp, ofNat_beq]
    exact h
  · simp only [boolV_eq] at h
    simp only [binOp, ne_eq, not_true_eq_false, if_false, Op.intCmp, bne, ofNat_beq]
    generalize Nat.beq m n = b at h ⊢
    cases b <;> exact h
  · simp only [boolV_eq] at h
    simp only [binOp, ne_eq, not_true_eq_false, if_false, Op.intCmp]
    rw [← h]
    show some (AV.bool (decide ((m : Int) < (n : Int)))) = _
    congr 2
    cases e : Nat.ble (Nat.succ m) n with
    | true => have := nble.1 e; simp; omega
    | false => have := nble_f.1 e; simp; omega
  · simp only [boolV_eq] at h
    simp only [binOp, ne_eq, not_true_eq_false, if_false, Op.intCmp]
    rw [← h]
    show some (AV.bool (decide ((m : Int) ≤ (n : Int)))) = _
    congr 2
    cases e : Nat.ble m n with
    | true => have := nble.1 e; simp; omega
    | false => have := nble_f.1 e; simp; omega
  · simp only [boolV_eq] at h
    simp only [binOp, ne_eq, not_true_eq_false, if_false, Op.intCmp]
    rw [← h]
    show some (AV.bool (decide ((m : Int) > (n : Int)))) = _
    congr 2
    cases e : Nat.ble (Nat.succ n) m with
    | true => have := nble.1 e; simp; omega
    | false => have := nble_f.1 e; simp; omega
  · simp only [boolV_eq] at h
    simp only [binOp, ne_eq, not_true_eq_false, if_false, Op.intCmp]
    rw [← h]
    show some (AV.bool (decide ((m : Int) ≥ (n : Int)))) = _
    congr 2
    cases e : Nat.ble n m with
    | true => have := nble.1 e; simp; omega
    | false => have := nble_f.1 e; simp; omega

theorem binS_eq (op : BinOp) (t : TypeId) (c : Bool) (x y : AV) : (binS P op t c).f x y = binAV P op t c x y := by
  unfold binS
  cases hf : natOp op with
  | none => rfl
  | some f =>
    show Option.rec (motive := fun _ => Option AV) (binAV P op t c x y) (fun v => some v) (nats x y f) = _
    cases e : nats x y f with
    | none => rfl
    | some v =>
      obtain ⟨k, m, n, rfl, rfl, h⟩ := nats_some e
      exact (natOp_ok hf h t c).symm

theorem nthO_eq : ∀ (l : List AV) (i : Nat), nthO l i = l[i]?
  | [], i => rfl
  | x :: l, 0 => rfl
  | x :: l, i + 1 => by
    show nthO l i = _
    rw [nthO_eq l i]; rfl

theorem nilFast_eq (v : AV) : nilFast v = nilF v := by cases v <;> rfl

theorem fieldAddrS_eq (s : TypeId) (i : Nat) (v : AV) : (fieldAddrS P s i).f v = (asPtr v).bind fun p => (fieldOff P s i).bind fun k => some (.ptr p.1 (p.2 + k)) := by
  unfold fieldAddrS
  cases fieldOff P s i with
  | none => cases v <;> rfl
  | some k => cases v <;> rfl

theorem indexS_eq (t : TypeId) (x ix : AV) : (indexS P t).f x ix = indexAV P t x ix := by
  unfold indexS
  split
  · rename_i hu
    simp only [indexAV, hu, onInt_eq, onStr_eq]
    cases ix with
    | int k n =>
      cases n with
      | ofNat i =>
        simp only [asNat, natOf, Option.bind_some]
        cases x with
        | str len code =>
          simp only
          unfold Nat.blt grd
          cases Nat.ble (Nat.succ i) len <;> rfl
        | _ => rfl
      | negSucc i => simp [asNat, natOf]
    | _ => simp [asNat]
  · rfl

theorem lenS_eq {t : TypeId} {f : AV → Option AV} (h : lenS P t = some f) (x : AV) : f x = lenAV P t x := by
  unfold lenS at h
  split at h
  · rename_i hu
    simp only [Option.some.injEq] at h
    subst h
    simp only [lenAV, hu, Option.bind_some, onStr_eq]
    cases x <;> rfl
  · rename_i hu
    simp only [Option.some.injEq] at h
    subst h
    simp only [lenAV, hu, Option.bind_some]
    cases x <;> rfl
  · simp at h

theorem lenS_noMap {t : TypeId} {f : AV → Option AV} (h : lenS P t = some f) : ((undQ P t).bind fun d => asMap d) = none := by
  unfold lenS at h
  split at h
  · rename_i hu; rw [hu]; rfl
  · rename_i hu; rw [hu]; rfl
  · simp at h

theorem rowGet (h : AH) (id : Nat) {β : Type} (k : Row → Option β) : Option.rec (motive := fun _ => Option β) none (fun o => AObj.rec (motive := fun _ => Option β) (fun r => k r) (fun _ _ => none) (fun _ _ _ => none) o) (T.get h.objs id) = (h.row id).bind k := by
  unfold AH.row
  cases T.get h.objs id with
  | none => rfl
  | some o => cases o <;> rfl

theorem loadS_eq (t : TypeId) (a : AV) (h : AH) : (loadS P t).f a h = loadAV P h t a := by
  unfold loadS loadAV
  cases hd : undQ P t with
  | none => cases a <;> simp [asPtr]
  | some d =>
    simp only [Option.bind_some]
    cases isAggD d with
    | true =>
      simp only
      cases hs : sizeT P t with
      | none => cases a <;> simp [asPtr]
      | some k =>
        simp only [onPtr_eq, Option.bind_some]
        cases a with
        | ptr id off =>
          simp only [asPtr, Option.bind_some]
          rw [rowGet h id (fun r => Option.rec (motive := fun _ => Option AV) none (fun l => some (.agg l)) (readRow r off k))]
          congr 1
          funext r
          cases readRow r off k <;> rfl
        | _ => rfl
    | false =>
      simp only [onPtr_eq]
      cases a with
      | ptr id off =>
        simp only [asPtr, Option.bind_some]
        rw [rowGet h id (fun r => Row.rec (motive := fun _ => Option AV) (fun cells n _ _ _ => Bool.rec (motive := fun _ => Option AV) none (T.get cells off) (Nat.ble (Nat.succ off) n)) r)]
        congr 1
        funext r
        cases r with
        | mk cells n elem grow frz =>
          unfold Nat.blt grd
          simp only
          cases Nat.ble (off + 1) n <;> rfl
      | _ => rfl

theorem oneV_eq (v : AV) : oneV v = v.one := by cases v <;> rfl

theorem store1_ok {t : TypeId} {a v : AV} {h h' : AH} (hs : sizeT P t = some 1) (e : store1 a v h = some h') : storeAV P h t a v = some h' := by
  unfold store1 at e
  rw [oneV_eq, onPtrH_eq] at e
  cases ho : v.one with
  | false => rw [ho] at e; simp at e
  | true =>
    rw [ho] at e
    have hc : v.cells = [v] := by
      cases v <;> first | rfl | simp [AV.one] at ho
    cases a with
    | ptr id off =>
      simp only at e
      rw [rowGet h id (fun r => Row.rec (motive := fun _ => Option AH)
        (fun cells n elem grow frz => Bool.rec (motive := fun _ => Option AH)
          (Bool.rec (motive := fun _ => Option AH) none (some ⟨T.set h.objs id (some (.row ⟨T.set cells off (some v), n, elem, grow, false⟩)), h.next⟩) (Nat.ble (Nat.succ off) n)) none frz) r)] at e
      simp only [storeAV, asPtr, Option.bind_some, hs, hc, List.length_singleton, writeRow]
      rw [show Nat.beq 1 1 = true from rfl]
      simp only [grd]
      cases hr : h.row id with
      | none => rw [hr] at e; simp at e
      | some r =>
        rw [hr] at e
        cases r with
        | mk cells n elem grow frz =>
          simp only [Option.bind_some] at e ⊢
          cases frz with
          | true => simp at e
          | false =>
            simp only at e
            cases hb : Nat.ble (Nat.succ off) n with
            | false => rw [hb] at e; simp at e
            | true =>
              rw [hb] at e
              have hb' : Nat.ble (off + 1) n = true := hb
              simp only [allOne, ho, hb', Bool.not_false, Bool.and_self, Bool.and_true, setCells]
              exact e
    | _ => simp at e

theorem storeS_eq (t : TypeId) (a v : AV) (h : AH) : (storeS P t).f a v h = storeAV P h t a v := by
  unfold storeS
  split
  · rename_i hs
    show Option.rec (motive := fun _ => Option AH) (storeAV P h t a v) (fun h => some h) (store1 a v h) = _
    cases e : store1 a v h with
    | none => rfl
    | some h' => exact (store1_ok hs e).symm
  · rfl
end Go.Sim
