/- A problem that is told: what the evaluator is told of it. -/
import Derived.Test.YtenlpijbhhfahaaGreatDoorNum2
set_option linter.all false
namespace Go.Sim

/-- A problem: the error, the project's three texts, the place's three numbers, the text of where; and its numbers told. -/
structure Prb where
  err : Int
  g : List UInt8
  a : List UInt8
  v : List UInt8
  off : Int
  line : Int
  col : Int
  wh : List UInt8
  te : List UInt8
  tl : List UInt8
  tc : List UInt8

/-- What is asked of a problem. -/
structure Asks where
  c0 : Bool
  c1 : Bool
  c2 : Bool
  c3 : Bool
  c4 : Bool
  z0 : Bool
  zg : Bool
  za : Bool
  zv : Bool
  zo : Bool
  zl : Bool
  zc : Bool
  zw : Bool

def Prb.sum1 (p : Prb) : Int := IntKind.i64.wrap (p.g.length + p.a.length)
def Prb.sum2 (p : Prb) : Int := IntKind.i64.wrap (p.sum1 + p.v.length)

def Prb.asks (p : Prb) : Asks where
  c0 := decide (p.err < 0)
  c1 := decide (p.line < 0)
  c2 := decide (p.col < 0)
  c3 := decide ((p.wh.length : Int) > 2000)
  c4 := decide (p.sum2 > 2000)
  z0 := p.err == 0
  zg := p.g == []
  za := p.a == []
  zv := p.v == []
  zo := p.off == 0
  zl := p.line == 0
  zc := p.col == 0
  zw := p.wh == []

def Prb.sv (p : Prb) (i : Nat) : List UInt8 :=
  match i with
  | 0 => p.g | 1 => p.a | 2 => p.v | 3 => p.wh | 4 => p.te | 5 => p.tl | 6 => p.tc
  | _ => []

def Prb.iv (p : Prb) (j : Nat) : Option (IntKind × Int) :=
  match j with
  | 0 => some (.i64, p.err) | 1 => some (.i64, p.off) | 2 => some (.i64, p.line) | 3 => some (.i64, p.col)
  | 4 => some (.i64, p.wh.length) | 5 => some (.i64, p.g.length) | 6 => some (.i64, p.a.length) | 7 => some (.i64, p.v.length)
  | 8 => some (.i64, p.sum1) | 9 => some (.i64, p.sum2)
  | _ => none

noncomputable section

/-- The one letter of a text that is one that is not known. -/
def oneLet (x : AV) : Option Nat :=
  (nameOf x).bind fun p => grd (Nat.beq p.1 1 && Nat.ble 256 (p.2 % 512)) (some (p.2 % 512 - 256))

def isEmpty (x : AV) : Bool :=
  match x with
  | .str n _ => Nat.beq n 0
  | _ => false

def zInt (t : Asks) (j : Nat) : Option Bool :=
  match j with
  | 0 => some t.z0 | 1 => some t.zo | 2 => some t.zl | 3 => some t.zc
  | _ => none

def zStr (t : Asks) (i : Nat) : Option Bool :=
  match i with
  | 0 => some t.zg | 1 => some t.za | 2 => some t.zv | 3 => some t.zw
  | _ => none

def sameName (x y : AV) : Bool :=
  match x, y with
  | .opq i, .opq j => Nat.beq i j && Nat.beq (i % 2) 1
  | _, _ => false

def tBin (t : Asks) (op : BinOp) (x y : AV) : Option AV :=
  match op with
  | .lss => (iname x).bind fun j => grd (isC .i64 0 y)
    (match j with
    | 0 => some (.bool t.c0) | 2 => some (.bool t.c1) | 3 => some (.bool t.c2)
    | _ => none)
  | .gtr => (iname x).bind fun j => grd (isC .i64 2000 y)
    (match j with
    | 4 => some (.bool t.c3) | 9 => some (.bool t.c4)
    | _ => none)
  | .add =>
    match catAV x y with
    | some v => some v
    | none => (iname x).bind fun i => (iname y).bind fun j =>
      match i, j with
      | 5, 6 => some (.opq 16) | 8, 7 => some (.opq 18)
      | _, _ => none
  | .eql =>
    match sameName x y with
    | true => some (.bool true)
    | false =>
      match iname x with
      | some j => grd (isC .i64 0 y) ((zInt t j).bind fun b => some (.bool b))
      | none => (oneLet x).bind fun i => grd (isEmpty y) ((zStr t i).bind fun b => some (.bool b))
  | .neq => (oneLet x).bind fun i => grd (isEmpty y) ((zStr t i).bind fun b => some (.bool (!b)))
  | _ => none

def tLen (x : AV) : Option AV :=
  (oneLet x).bind fun i =>
    match i with
    | 3 => some (.opq 8) | 0 => some (.opq 10) | 1 => some (.opq 12) | 2 => some (.opq 14)
    | _ => none

def tIsInt (x : AV) : Bool :=
  match iname x with
  | some j => Nat.blt j 10
  | none => false

def tOra (t : Asks) : Ora := ⟨tBin t, fun _ _ => none, tLen, fun _ => none, tIsInt, fun x => (nameOf x).isSome⟩

end

theorem oneLet_ok {sv : Nat → List UInt8} {iv : Nat → Option (IntKind × Int)} {x : AV} {i : Nat} (h : oneLet x = some i) : @atom (mkSig sv iv) x = some (.str ⟨⟨sv i⟩⟩) := by
  simp only [oneLet, bnd, grd_some, Bool.and_eq_true, nbeq, nble, Option.some.injEq] at h
  obtain ⟨⟨n, c⟩, hp, ⟨h1, h2⟩, rfl⟩ := h
  simp only at h1 h2
  subst h1
  rw [nameOf_ok hp]
  have e : nameVal sv (1, c) = sv (c % 512 - 256) := by
    simp only [nameVal, lets, List.flatMap_cons, List.flatMap_nil, List.append_nil]
    unfold letVal
    rw [if_neg (by omega)]
  rw [e]

theorem isEmpty_ok {x : AV} (h : isEmpty x = true) : ∃ c, x = .str 0 c := by
  unfold isEmpty at h
  split at h
  · rename_i n c
    have := nbeq.1 h
    subst this
    exact ⟨c, rfl⟩
  · simp at h

theorem iname_in {sv : Nat → List UInt8} {iv : Nat → Option (IntKind × Int)} {v : AV} {j : Nat} (h : iname v = some j) {p : IntKind × Int} (hj : iv j = some p) : @atom (mkSig sv iv) v = some (.int p.1 p.2) := iname_ok h (by rw [hj])

theorem bin_lss {k : IntKind} (m n : Int) : Atom.bin .lss (.int k m) (.int k n) (.bool (decide (m < n))) := by
  refine ⟨rfl, fun P t w => ?_⟩
  simp only [binOp, ne_eq, not_true_eq_false, if_false, Op.intCmp, Sem.run_pure, Atom.val]

theorem bin_gtr {k : IntKind} (m n : Int) : Atom.bin .gtr (.int k m) (.int k n) (.bool (decide (m > n))) := by
  refine ⟨rfl, fun P t w => ?_⟩
  simp only [binOp, ne_eq, not_true_eq_false, if_false, Op.intCmp, Sem.run_pure, Atom.val]

theorem bin_eqi {k : IntKind} (m n : Int) : Atom.bin .eql (.int k m) (.int k n) (.bool (m == n)) := by
  refine ⟨rfl, fun P t w => ?_⟩
  simp only [binOp, ne_eq, not_true_eq_false, if_false, Op.intCmp, Sem.run_pure, Atom.val]

theorem bin_addw {k : IntKind} (m n : Int) : Atom.bin .add (.int k m) (.int k n) (.int k (k.wrap (m + n))) := by
  refine ⟨rfl, fun P t w => ?_⟩
  simp only [binOp, ne_eq, not_true_eq_false, if_false, Op.intArith, Sem.run_pure, Atom.val]

theorem bin_eqs (s t : List UInt8) : Atom.bin .eql (.str ⟨⟨s⟩⟩) (.str ⟨⟨t⟩⟩) (.bool (s == t)) := by
  intro P ty w
  simp only [binOp, Op.stringOp, Sem.run_pure, Atom.val, ByteArray.toList_eq]

theorem bin_nes (s t : List UInt8) : Atom.bin .neq (.str ⟨⟨s⟩⟩) (.str ⟨⟨t⟩⟩) (.bool (!(s == t))) := by
  intro P ty w
  simp only [binOp, Op.stringOp, Sem.run_pure, Atom.val, ByteArray.toList_eq, bne]

theorem zInt_ok {p : Prb} {j : Nat} {b : Bool} (h : zInt p.asks j = some b) : ∃ m, p.iv j = some (.i64, m) ∧ b = (m == 0) := by
  unfold zInt at h
  split at h <;> simp only [Option.some.injEq, reduceCtorEq] at h <;> subst h <;> exact ⟨_, rfl, rfl⟩

theorem zStr_ok {p : Prb} {i : Nat} {b : Bool} (h : zStr p.asks i = some b) : b = (p.sv i == []) := by
  unfold zStr at h
  split at h <;> simp only [Option.some.injEq, reduceCtorEq] at h <;> subst h <;> rfl

theorem tOra_ok (p : Prb) {M : Nat} (hM : 1 ≤ M) (hM' : M ≤ 2 ^ 50) (hs : ∀ i, (p.sv i).length ≤ M) : @OraOk (mkSig p.sv p.iv) (tOra p.asks) := by
  letI := mkSig p.sv p.iv
  refine { bin := ?_, conv := ?_, len := ?_, bytes := ?_, isInt := ?_, isStr := ?_ }
  · intro op x y v h
    change tBin p.asks op x y = some v at h
    cases op <;> simp only [tBin, reduceCtorEq] at h
    case add =>
      split at h
      · rename_i u hc
        simp only [Option.some.injEq] at h
        subst h
        exact cat_ok hc hM hM' hs
      · simp only [bnd] at h
        obtain ⟨i, hi, j, hj, h⟩ := h
        split at h
        · simp only [Option.some.injEq] at h
          subst h
          exact ⟨_, _, _, iname_in hi rfl, iname_in hj rfl, opq_even (j := 8) (k := .i64) (m := p.sum1) rfl, bin_addw _ _⟩
        · simp only [Option.some.injEq] at h
          subst h
          exact ⟨_, _, _, iname_in hi rfl, iname_in hj rfl, opq_even (j := 9) (k := .i64) (m := p.sum2) rfl, bin_addw _ _⟩
        · simp at h
    case eql =>
      split at h
      · rename_i hsm
        simp only [Option.some.injEq] at h
        subst h
        unfold sameName at hsm
        split at hsm
        · rename_i i j
          simp only [Bool.and_eq_true, nbeq] at hsm
          obtain ⟨rfl, ho⟩ := hsm
          have e : atom (.opq i) = some (.str ⟨⟨nameVal p.sv (nameAt i)⟩⟩) := by
            show (if i % 2 = 1 then some (Atom.str ⟨⟨nameVal p.sv (nameAt i)⟩⟩) else _) = _
            rw [if_pos ho]
          refine ⟨_, _, _, e, e, rfl, ?_⟩
          have := bin_eqs (nameVal p.sv (nameAt i)) (nameVal p.sv (nameAt i))
          rw [beq_self_eq_true] at this
          exact this
        · simp at hsm
      · split at h
        · rename_i j hj
          simp only [grd_some, bnd, Option.some.injEq] at h
          obtain ⟨hy, b, hb, rfl⟩ := h
          obtain ⟨m, hm, rfl⟩ := zInt_ok hb
          have := isC_ok hy
          subst this
          exact ⟨_, _, _, iname_ok hj hm, rfl, rfl, bin_eqi _ _⟩
        · simp only [grd_some, bnd, Option.some.injEq] at h
          obtain ⟨i, hi, hy, b, hb, rfl⟩ := h
          have := zStr_ok hb
          subst this
          obtain ⟨c, rfl⟩ := isEmpty_ok hy
          exact ⟨_, _, _, oneLet_ok hi, rfl, rfl, bin_eqs _ _⟩
    case neq =>
      simp only [grd_some, bnd, Option.some.injEq] at h
      obtain ⟨i, hi, hy, b, hb, rfl⟩ := h
      have := zStr_ok hb
      subst this
      obtain ⟨c, rfl⟩ := isEmpty_ok hy
      exact ⟨_, _, _, oneLet_ok hi, rfl, rfl, bin_nes _ _⟩
    case lss =>
      simp only [grd_some, bnd] at h
      obtain ⟨j, hj, hy, h⟩ := h
      have := isC_ok hy
      subst this
      split at h <;> simp only [Option.some.injEq, reduceCtorEq] at h <;> subst h
      · exact ⟨_, _, _, iname_in hj rfl, rfl, rfl, bin_lss _ _⟩
      · exact ⟨_, _, _, iname_in hj rfl, rfl, rfl, bin_lss _ _⟩
      · exact ⟨_, _, _, iname_in hj rfl, rfl, rfl, bin_lss _ _⟩
    case gtr =>
      simp only [grd_some, bnd] at h
      obtain ⟨j, hj, hy, h⟩ := h
      have := isC_ok hy
      subst this
      split at h <;> simp only [Option.some.injEq, reduceCtorEq] at h <;> subst h
      · exact ⟨_, _, _, iname_in hj rfl, rfl, rfl, bin_gtr _ _⟩
      · exact ⟨_, _, _, iname_in hj rfl, rfl, rfl, bin_gtr _ _⟩
  · intro k x v h; simp [tOra] at h
  · intro x v h
    change tLen x = some v at h
    simp only [tLen, bnd] at h
    obtain ⟨i, hi, h⟩ := h
    split at h <;> simp only [Option.some.injEq, reduceCtorEq] at h <;> subst h
    · exact ⟨_, oneLet_ok hi, opq_even (j := 4) (k := .i64) (m := p.wh.length) rfl⟩
    · exact ⟨_, oneLet_ok hi, opq_even (j := 5) (k := .i64) (m := p.g.length) rfl⟩
    · exact ⟨_, oneLet_ok hi, opq_even (j := 6) (k := .i64) (m := p.a.length) rfl⟩
    · exact ⟨_, oneLet_ok hi, opq_even (j := 7) (k := .i64) (m := p.v.length) rfl⟩
  · intro l v h; simp [tOra] at h
  · intro x h
    change tIsInt x = true at h
    unfold tIsInt at h
    split at h
    · rename_i j hj
      have hlt := nblt.1 h
      have : ∃ m, p.iv j = some (.i64, m) := by
        have : j = 0 ∨ j = 1 ∨ j = 2 ∨ j = 3 ∨ j = 4 ∨ j = 5 ∨ j = 6 ∨ j = 7 ∨ j = 8 ∨ j = 9 := by omega
        rcases this with rfl | rfl | rfl | rfl | rfl | rfl | rfl | rfl | rfl | rfl <;> exact ⟨_, rfl⟩
      obtain ⟨m, hm⟩ := this
      exact ⟨_, _, iname_ok hj hm⟩
    · simp at h
  · intro x h
    change (nameOf x).isSome = true at h
    obtain ⟨q, hq⟩ := Option.isSome_iff_exists.1 h
    exact ⟨_, nameOf_ok hq⟩
end Go.Sim
