/- A number from 0 on, told: both functions tell the same, of at most 19 bytes, and leave alone what was there. -/
import Derived.Test.YtenlpijbhhfahaaGreatDoorBase
import Derived.Test.YtenlpijbhhfahaaGreatDoorSym
set_option linter.all false
namespace Go.Sim

noncomputable def iname (v : AV) : Option Nat :=
  match v with
  | .opq i => grd (Nat.beq (i % 2) 0) (some (i / 2))
  | _ => none

noncomputable def isC (k : IntKind) (m : Nat) (v : AV) : Bool :=
  match v with
  | .int k' (.ofNat m') => Nat.beq (kindNo k) (kindNo k') && Nat.beq m m'
  | _ => false

theorem isC_ok {k : IntKind} {m : Nat} {v : AV} (h : isC k m v = true) : v = .int k (.ofNat m) := by
  unfold isC at h
  split at h
  · simp only [Bool.and_eq_true, nbeq] at h
    obtain ⟨h1, rfl⟩ := h
    rw [kindNo_inj (nbeq.2 h1)]
  · simp at h

theorem iname_ok {sv : Nat → List UInt8} {iv : Nat → Option (IntKind × Int)} {v : AV} {j : Nat} (h : iname v = some j) {k : IntKind} {m : Int} (hj : iv j = some (k, m)) : @atom (mkSig sv iv) v = some (.int k m) := by
  letI := mkSig sv iv
  unfold iname at h
  split at h
  · rename_i i
    simp only [grd_some, nbeq, Option.some.injEq] at h
    obtain ⟨h1, rfl⟩ := h
    show (if i % 2 = 1 then _ else (iv (i / 2)).map fun p => Atom.int p.1 p.2) = _
    rw [if_neg (by omega), hj]
    rfl
  · simp at h

theorem opq_even {sv : Nat → List UInt8} {iv : Nat → Option (IntKind × Int)} {j : Nat} {k : IntKind} {m : Int} (hj : iv j = some (k, m)) : @atom (mkSig sv iv) (.opq (2 * j)) = some (.int k m) := by
  letI := mkSig sv iv
  show (if 2 * j % 2 = 1 then _ else (iv (2 * j / 2)).map fun p => Atom.int p.1 p.2) = _
  rw [if_neg (by omega), show 2 * j / 2 = j from by omega, hj]
  rfl

theorem bin_rem10 {k : IntKind} (a : Nat) : Atom.bin .rem (.int k (.ofNat a)) (.int k (.ofNat 10)) (.int k (.ofNat (a % 10))) := by
  refine ⟨rfl, fun P t w => ?_⟩
  have e : ¬ ((Int.ofNat 10 : Int) = 0) := by decide
  simp only [binOp, ne_eq, not_true_eq_false, if_false, Op.intDiv, if_neg e, Sem.run_pure, Atom.val]
  rfl

theorem bin_quo10 {k : IntKind} (a : Nat) (h : a / 10 < limOf k) : Atom.bin .quo (.int k (.ofNat a)) (.int k (.ofNat 10)) (.int k (.ofNat (a / 10))) := by
  refine ⟨rfl, fun P t w => ?_⟩
  have e : ¬ ((Int.ofNat 10 : Int) = 0) := by decide
  have e2 : (Int.ofNat a).tdiv (Int.ofNat 10) = Int.ofNat (a / 10) := rfl
  simp only [binOp, ne_eq, not_true_eq_false, if_false, Op.intDiv, if_neg e, Sem.run_pure, Atom.val, e2, wrap_small h]

theorem bin_add {k : IntKind} (a b : Nat) (h : a + b < limOf k) : Atom.bin .add (.int k (.ofNat a)) (.int k (.ofNat b)) (.int k (.ofNat (a + b))) := by
  refine ⟨rfl, fun P t w => ?_⟩
  have e2 : (Int.ofNat a) + (Int.ofNat b) = Int.ofNat (a + b) := rfl
  simp only [binOp, ne_eq, not_true_eq_false, if_false, Op.intArith, Sem.run_pure, Atom.val, e2, wrap_small h]

theorem bin_geq {k : IntKind} (a b : Nat) : Atom.bin .geq (.int k (.ofNat a)) (.int k (.ofNat b)) (.bool (Nat.ble b a)) := by
  refine ⟨rfl, fun P t w => ?_⟩
  simp only [binOp, ne_eq, not_true_eq_false, if_false, Op.intCmp, Sem.run_pure, Atom.val]
  congr 2
  cases e : Nat.ble b a with
  | true => have := nble.1 e; simp; omega
  | false => have := nble_f.1 e; simp; omega

theorem bin_lss0 {k : IntKind} (a : Nat) : Atom.bin .lss (.int k (.ofNat a)) (.int k (.ofNat 0)) (.bool false) := by
  refine ⟨rfl, fun P t w => ?_⟩
  simp only [binOp, ne_eq, not_true_eq_false, if_false, Op.intCmp, Sem.run_pure, Atom.val]
  congr 2

-- what is told of a number of d digits

noncomputable def dBin (d : Nat) (op : BinOp) (x y : AV) : Option AV :=
  match op with
  | .rem => (iname x).bind fun j => grd ((Nat.blt j 100 && isC .u64 10 y) || (Nat.ble 400 j && Nat.blt j 500 && isC .i64 10 y)) (some (.opq (2 * (j + 100))))
  | .quo => (iname x).bind fun j => grd ((Nat.blt j 99 && isC .u64 10 y) || (Nat.ble 400 j && Nat.blt j 499 && isC .i64 10 y)) (some (.opq (2 * (j + 1))))
  | .geq => (iname x).bind fun j =>
    match Nat.blt j 100 && isC .u64 10 y with
    | true => some (.bool (Nat.blt (j + 1) d))
    | false => grd (Nat.ble 400 j && Nat.blt j 500 && isC .i64 10 y) (some (.bool (Nat.blt (j - 400 + 1) d)))
  | .lss => (iname x).bind fun j => grd (Nat.ble 400 j && Nat.blt j 500 && isC .i64 0 y) (some (.bool false))
  | .add =>
    match catAV x y with
    | some v => some v
    | none => (iname y).bind fun j =>
      match isC .u8 48 x with
      | true => grd (Nat.ble 200 j && Nat.blt j 300) (some (.opq (2 * (j + 100))))
      | false => grd (isC .i64 48 x)
        (match Nat.ble 500 j && Nat.blt j 600 with
        | true => some (.opq (2 * (j + 100)))
        | false => grd (Nat.beq (j + 1) (400 + d)) (some (.opq (2 * (j + 200)))))
  | _ => none

noncomputable def dConv (k : IntKind) (x : AV) : Option AV :=
  (iname x).bind fun j =>
    match k with
    | .u8 =>
      match Nat.ble 100 j && Nat.blt j 200 with
      | true => some (.opq (2 * (j + 100)))
      | false => grd (Nat.ble 600 j && Nat.blt j 700) (some (.opq (2 * (j - 300))))
    | .u64 => grd (Nat.ble 400 j && Nat.blt j 500) (some (.opq (2 * (j - 400))))
    | _ => none

noncomputable def dLetters : List AV → Option (Nat × Nat)
  | [] => some (0, 0)
  | x :: r => (iname x).bind fun j => grd (Nat.ble 300 j && Nat.blt j 400) ((dLetters r).bind fun q => some (catName (1, 256 + (j - 300)) q))

noncomputable def dOra (d : Nat) : Ora := ⟨dBin d, dConv, fun _ => none, fun l => (dLetters l).bind mkName, fun _ => false, fun _ => false⟩

def dsv (n i : Nat) : List UInt8 := [UInt8.ofNat (48 + n / 10 ^ i % 10)]

def div (n j : Nat) : Option (IntKind × Int) :=
  if j < 100 then some (.u64, .ofNat (n / 10 ^ j))
  else if j < 200 then some (.u64, .ofNat (n / 10 ^ (j - 100) % 10))
  else if j < 300 then some (.u8, .ofNat (n / 10 ^ (j - 200) % 10))
  else if j < 400 then some (.u8, .ofNat (48 + n / 10 ^ (j - 300) % 10))
  else if j < 500 then some (.i64, .ofNat (n / 10 ^ (j - 400)))
  else if j < 600 then some (.i64, .ofNat (n / 10 ^ (j - 500) % 10))
  else if j < 700 then some (.i64, .ofNat (48 + n / 10 ^ (j - 600) % 10))
  else none

section
variable {n d : Nat}

theorem div0 {j : Nat} (h : j < 100) : div n j = some (.u64, .ofNat (n / 10 ^ j)) := by simp [div, h]
theorem div1 {j : Nat} (h : 100 ≤ j) (h' : j < 200) : div n j = some (.u64, .ofNat (n / 10 ^ (j - 100) % 10)) := by
  unfold div; rw [if_neg (by omega), if_pos h']
theorem div2 {j : Nat} (h : 200 ≤ j) (h' : j < 300) : div n j = some (.u8, .ofNat (n / 10 ^ (j - 200) % 10)) := by
  unfold div; rw [if_neg (by omega), if_neg (by omega), if_pos h']
theorem div3 {j : Nat} (h : 300 ≤ j) (h' : j < 400) : div n j = some (.u8, .ofNat (48 + n / 10 ^ (j - 300) % 10)) := by
  unfold div; rw [if_neg (by omega), if_neg (by omega), if_neg (by omega), if_pos h']
theorem div4 {j : Nat} (h : 400 ≤ j) (h' : j < 500) : div n j = some (.i64, .ofNat (n / 10 ^ (j - 400))) := by
  unfold div; rw [if_neg (by omega), if_neg (by omega), if_neg (by omega), if_neg (by omega), if_pos h']
theorem div5 {j : Nat} (h : 500 ≤ j) (h' : j < 600) : div n j = some (.i64, .ofNat (n / 10 ^ (j - 500) % 10)) := by
  unfold div; rw [if_neg (by omega), if_neg (by omega), if_neg (by omega), if_neg (by omega), if_neg (by omega), if_pos h']
theorem div6 {j : Nat} (h : 600 ≤ j) (h' : j < 700) : div n j = some (.i64, .ofNat (48 + n / 10 ^ (j - 600) % 10)) := by
  unfold div; rw [if_neg (by omega), if_neg (by omega), if_neg (by omega), if_neg (by omega), if_neg (by omega), if_neg (by omega), if_pos h']

theorem pow_split (j : Nat) : n / 10 ^ j / 10 = n / 10 ^ (j + 1) := by rw [Nat.div_div_eq_div_mul, Nat.pow_succ]

theorem digits_ge (hd : n < 10 ^ d) (hl : d = 1 ∨ 10 ^ (d - 1) ≤ n) (h1 : 1 ≤ d) (j : Nat) : Nat.ble 10 (n / 10 ^ j) = Nat.blt (j + 1) d := by
  have hp : 0 < 10 ^ j := Nat.pow_pos (by omega)
  rw [Bool.eq_iff_iff, nble, nblt, Nat.le_div_iff_mul_le hp, ← Nat.pow_succ']
  constructor
  · intro h
    have : 10 ^ (j + 1) < 10 ^ d := Nat.lt_of_le_of_lt h hd
    exact (Nat.pow_lt_pow_iff_right (by omega)).1 this
  · intro h
    rcases hl with rfl | hl
    · omega
    · exact Nat.le_trans (Nat.pow_le_pow_right (by omega) (by omega)) hl

theorem small (hn : n < 9223372036854775808) (j : Nat) : n / 10 ^ j < 9223372036854775808 := Nat.lt_of_le_of_lt (Nat.div_le_self _ _) hn

theorem dOra_ok (hn : n < 9223372036854775808) (hd : n < 10 ^ d) (hl : d = 1 ∨ 10 ^ (d - 1) ≤ n) (h1 : 1 ≤ d) (h2 : d ≤ 19) : @OraOk (mkSig (dsv n) (div n)) (dOra d) := by
  letI := mkSig (dsv n) (div n)
  have hge := digits_ge hd hl h1
  refine { bin := ?_, conv := ?_, len := ?_, bytes := ?_, isInt := ?_, isStr := ?_ }
  · intro op x y v h
    change dBin d op x y = some v at h
    cases op <;> simp only [dBin, reduceCtorEq] at h
    case add =>
      split at h
      · rename_i u hc
        simp only [Option.some.injEq] at h
        subst h
        exact cat_ok hc (M := 1) (Nat.le_refl _) (by decide) (fun i => by simp [dsv])
      · simp only [bnd] at h
        obtain ⟨j, hj, h⟩ := h
        split at h
        · rename_i hx
          simp only [grd_some, Bool.and_eq_true, nble, nblt, Option.some.injEq] at h
          obtain ⟨⟨a, b⟩, rfl⟩ := h
          have := isC_ok hx
          subst this
          refine ⟨_, _, _, rfl, iname_ok hj (div2 a b), opq_even (div3 (j := j + 100) (by omega) (by omega)), ?_⟩
          rw [show j + 100 - 300 = j - 200 from by omega]
          exact bin_add _ _ (by simp only [limOf]; omega)
        · simp only [grd_some] at h
          obtain ⟨hx, h⟩ := h
          have := isC_ok hx
          subst this
          split at h
          · rename_i hb
            simp only [Bool.and_eq_true, nble, nblt] at hb
            simp only [Option.some.injEq] at h
            subst h
            refine ⟨_, _, _, rfl, iname_ok hj (div5 hb.1 hb.2), opq_even (div6 (j := j + 100) (by omega) (by omega)), ?_⟩
            rw [show j + 100 - 600 = j - 500 from by omega]
            exact bin_add _ _ (by simp only [limOf]; omega)
          · simp only [grd_some, nbeq, Option.some.injEq] at h
            obtain ⟨hb, rfl⟩ := h
            refine ⟨_, _, _, rfl, iname_ok hj (div4 (j := j) (by omega) (by omega)), opq_even (div6 (j := j + 200) (by omega) (by omega)), ?_⟩
            rw [show j + 200 - 600 = j - 400 from by omega]
            have hlt : n / 10 ^ (j - 400) < 10 := by
              have := hge (j - 400)
              rw [show Nat.blt (j - 400 + 1) d = false from nblt_f.2 (by omega)] at this
              exact nble_f.1 this
            rw [Nat.mod_eq_of_lt hlt]
            exact bin_add _ _ (by simp only [limOf]; omega)
    case quo =>
      simp only [bnd] at h
      obtain ⟨j, hj, h⟩ := h
      simp only [grd_some, Bool.or_eq_true, Bool.and_eq_true, nble, nblt, Option.some.injEq] at h
      obtain ⟨hc, rfl⟩ := h
      have hs := small hn (j + 1)
      have hs' := small hn (j - 400 + 1)
      rcases hc with ⟨a, hy⟩ | ⟨⟨a, b⟩, hy⟩
      · have := isC_ok hy
        subst this
        refine ⟨_, _, _, iname_ok hj (div0 (by omega)), rfl, opq_even (div0 (j := j + 1) (by omega)), ?_⟩
        rw [← pow_split]
        exact bin_quo10 _ (by rw [pow_split]; simp only [limOf]; omega)
      · have := isC_ok hy
        subst this
        refine ⟨_, _, _, iname_ok hj (div4 a (by omega)), rfl, opq_even (div4 (j := j + 1) (by omega) (by omega)), ?_⟩
        rw [show j + 1 - 400 = j - 400 + 1 from by omega, ← pow_split]
        exact bin_quo10 _ (by rw [pow_split]; simp only [limOf]; omega)
    case rem =>
      simp only [bnd] at h
      obtain ⟨j, hj, h⟩ := h
      simp only [grd_some, Bool.or_eq_true, Bool.and_eq_true, nble, nblt, Option.some.injEq] at h
      obtain ⟨hc, rfl⟩ := h
      rcases hc with ⟨a, hy⟩ | ⟨⟨a, b⟩, hy⟩
      · have := isC_ok hy
        subst this
        refine ⟨_, _, _, iname_ok hj (div0 a), rfl, opq_even (div1 (j := j + 100) (by omega) (by omega)), ?_⟩
        rw [show j + 100 - 100 = j from by omega]
        exact bin_rem10 _
      · have := isC_ok hy
        subst this
        refine ⟨_, _, _, iname_ok hj (div4 a b), rfl, opq_even (div5 (j := j + 100) (by omega) (by omega)), ?_⟩
        rw [show j + 100 - 500 = j - 400 from by omega]
        exact bin_rem10 _
    case lss =>
      simp only [bnd] at h
      obtain ⟨j, hj, h⟩ := h
      simp only [grd_some, Bool.and_eq_true, nble, nblt, Option.some.injEq] at h
      obtain ⟨⟨⟨a, b⟩, hy⟩, rfl⟩ := h
      have := isC_ok hy
      subst this
      exact ⟨_, _, _, iname_ok hj (div4 a b), rfl, rfl, bin_lss0 _⟩
    case geq =>
      simp only [bnd] at h
      obtain ⟨j, hj, h⟩ := h
      split at h
      · rename_i hb
        simp only [Bool.and_eq_true, nblt] at hb
        simp only [Option.some.injEq] at h
        subst h
        have := isC_ok hb.2
        subst this
        refine ⟨_, _, _, iname_ok hj (div0 hb.1), rfl, rfl, ?_⟩
        rw [← hge]
        exact bin_geq _ _
      · simp only [grd_some, Bool.and_eq_true, nble, nblt, Option.some.injEq] at h
        obtain ⟨⟨⟨a, b⟩, hy⟩, rfl⟩ := h
        have := isC_ok hy
        subst this
        refine ⟨_, _, _, iname_ok hj (div4 a b), rfl, rfl, ?_⟩
        rw [← hge]
        exact bin_geq _ _
  · intro k x v h
    change dConv k x = some v at h
    simp only [dConv, bnd] at h
    obtain ⟨j, hj, h⟩ := h
    cases k <;> simp only [reduceCtorEq] at h
    case u8 =>
      split at h
      · rename_i hb
        simp only [Bool.and_eq_true, nble, nblt] at hb
        simp only [Option.some.injEq] at h
        subst h
        refine ⟨_, _, iname_ok hj (div1 hb.1 hb.2), ?_⟩
        rw [opq_even (div2 (j := j + 100) (by omega) (by omega)), show j + 100 - 200 = j - 100 from by omega, wrap_small (by simp only [limOf]; omega)]
      · simp only [grd_some, Bool.and_eq_true, nble, nblt, Option.some.injEq] at h
        obtain ⟨⟨a, b⟩, rfl⟩ := h
        refine ⟨_, _, iname_ok hj (div6 a b), ?_⟩
        rw [opq_even (div3 (j := j - 300) (by omega) (by omega)), show j - 300 - 300 = j - 600 from by omega, wrap_small (by simp only [limOf]; omega)]
    case u64 =>
      simp only [grd_some, Bool.and_eq_true, nble, nblt, Option.some.injEq] at h
      obtain ⟨⟨a, b⟩, rfl⟩ := h
      have hs := small hn (j - 400)
      refine ⟨_, _, iname_ok hj (div4 a b), ?_⟩
      rw [opq_even (div0 (j := j - 400) (by omega)), wrap_small (by simp only [limOf]; omega)]
  · intro x v h
    simp [dOra] at h
  · intro l v h
    change (dLetters l).bind mkName = some v at h
    simp only [bnd] at h
    obtain ⟨p, hp, h⟩ := h
    refine ⟨nameVal (dsv n) p, ?_, (mkName_ok h).1⟩
    clear h
    induction l generalizing p with
    | nil =>
      simp only [dLetters, Option.some.injEq] at hp
      subst hp
      rfl
    | cons x l ih =>
      simp only [dLetters, bnd, grd_some, Bool.and_eq_true, nble, nblt, Option.some.injEq] at hp
      obtain ⟨j, hj, ⟨a, b⟩, q, hq, rfl⟩ := hp
      rw [nameVal_cat, List.map_cons, iname_ok hj (div3 a b), ih q hq]
      have e : nameVal (dsv n) (1, 256 + (j - 300)) = [UInt8.ofNat (48 + n / 10 ^ (j - 300) % 10)] := by
        have e1 : (256 + (j - 300)) % 512 = 256 + (j - 300) := Nat.mod_eq_of_lt (by omega)
        simp only [nameVal, lets, List.flatMap_cons, List.flatMap_nil, List.append_nil, e1]
        unfold letVal
        rw [if_neg (by omega), show 256 + (j - 300) - 256 = j - 300 from by omega]
        rfl
      rw [e, List.singleton_append, List.map_cons]
      have hlt : 48 + n / 10 ^ (j - 300) % 10 < 256 := by omega
      have e2 : (UInt8.ofNat (48 + n / 10 ^ (j - 300) % 10)).toNat = 48 + n / 10 ^ (j - 300) % 10 := by
        rw [UInt8.toNat_ofNat']; exact Nat.mod_eq_of_lt hlt
      rw [e2]
      rfl
  · intro x h; simp [dOra] at h
  · intro x h; simp [dOra] at h

end
end Go.Sim
