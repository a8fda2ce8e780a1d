/- A small evaluator for closed runs of a Go program: values whose addresses are names of objects of its own, and whose spare capacities are left open. This file holds its data and functions, no proof. -/
import GoSem.Step
set_option linter.all false
set_option maxHeartbeats 2000000
namespace Go.Sim
noncomputable section
/-- Something worked out ahead. -/
structure Stg (α : Type) where
  f : α

noncomputable def Stg.ap {α β : Type} (s : Stg (α → β)) (x : α) : β := Stg.rec (motive := fun _ => β) (fun f => f x) s

noncomputable def Stg.ap2 {α β γ : Type} (s : Stg (α → β → γ)) (x : α) (y : β) : γ := Stg.rec (motive := fun _ => γ) (fun f => f x y) s

/-- A tree of numbered places: 0 is the root's, the others go by their rest by four. By plain recursors: the kernel works them out fast. -/
inductive T (α : Type) where
  | nil
  | node (v : Option α) (a b c d : T α)

namespace T
variable {α : Type}

/-- The way to a place. -/
noncomputable def getP (n : Nat) : Nat → Stg (T α → Option α) :=
  Nat.rec (motive := fun _ => Nat → Stg (T α → Option α)) (fun _ => ⟨fun _ => none⟩)
   (fun _ ih i => Nat.rec (motive := fun _ => Stg (T α → Option α)) ⟨fun t => T.rec (motive := fun _ => Option α) none (fun v _ _ _ _ _ _ _ _ => v) t⟩
     (fun i _ => Stg.rec (motive := fun _ => Stg (T α → Option α)) (fun f => Nat.rec (motive := fun _ => Stg (T α → Option α)) (⟨fun t => T.rec (motive := fun _ => Option α) none (fun _ a _ _ _ _ _ _ _ => f a) t⟩) (fun d0 _ => Nat.rec (motive := fun _ => Stg (T α → Option α)) (⟨fun t => T.rec (motive := fun _ => Option α) none (fun _ _ b _ _ _ _ _ _ => f b) t⟩) (fun d1 _ => Nat.rec (motive := fun _ => Stg (T α → Option α)) (⟨fun t => T.rec (motive := fun _ => Option α) none (fun _ _ _ c _ _ _ _ _ => f c) t⟩) (fun _ _ => ⟨fun t => T.rec (motive := fun _ => Option α) none (fun _ _ _ _ d _ _ _ _ => f d) t⟩) (d1)) (d0)) (Nat.mod i 4)) (ih (Nat.div i 4))) i) n

noncomputable def setP (n : Nat) : Nat → Stg (T α → Option α → T α) :=
  Nat.rec (motive := fun _ => Nat → Stg (T α → Option α → T α)) (fun _ => ⟨fun t _ => t⟩)
   (fun _ ih i => Nat.rec (motive := fun _ => Stg (T α → Option α → T α)) ⟨fun t x => T.rec (motive := fun _ => T α) (.node x .nil .nil .nil .nil) (fun _ a b c d _ _ _ _ => .node x a b c d) t⟩
     (fun i _ => Stg.rec (motive := fun _ => Stg (T α → Option α → T α)) (fun f => Nat.rec (motive := fun _ => Stg (T α → Option α → T α)) (⟨fun t x => T.rec (motive := fun _ => T α) (.node none (f .nil x) .nil .nil .nil) (fun v a b c d _ _ _ _ => .node v (f a x) b c d) t⟩) (fun d0 _ => Nat.rec (motive := fun _ => Stg (T α → Option α → T α)) (⟨fun t x => T.rec (motive := fun _ => T α) (.node none .nil (f .nil x) .nil .nil) (fun v a b c d _ _ _ _ => .node v a (f b x) c d) t⟩) (fun d1 _ => Nat.rec (motive := fun _ => Stg (T α → Option α → T α)) (⟨fun t x => T.rec (motive := fun _ => T α) (.node none .nil .nil (f .nil x) .nil) (fun v a b c d _ _ _ _ => .node v a b (f c x) d) t⟩) (fun _ _ => ⟨fun t x => T.rec (motive := fun _ => T α) (.node none .nil .nil .nil (f .nil x)) (fun v a b c d _ _ _ _ => .node v a b c (f d x)) t⟩) (d1)) (d0)) (Nat.mod i 4)) (ih (Nat.div i 4))) i) n

noncomputable def get (t : T α) (i : Nat) : Option α := Nat.rec (motive := fun _ => Option α) (Stg.ap (getP 1 0) t) (fun n _ => Stg.ap (getP (Nat.succ (Nat.succ n)) (Nat.succ n)) t) i

/-- With a place's value set (or taken away). -/
noncomputable def set (t : T α) (i : Nat) (x : Option α) : T α := Nat.rec (motive := fun _ => T α) (Stg.ap2 (setP 1 0) t x) (fun n _ => Stg.ap2 (setP (Nat.succ (Nat.succ n)) (Nat.succ n)) t x) i

end T

namespace T

/-- A list, as a tree. -/
noncomputable def ofL {α : Type} (l : List α) : T α :=
  List.rec (motive := fun _ => Nat → T α → T α) (fun _ t => t) (fun x _ ih i t => ih (Nat.succ i) (t.set i (some x))) l 0 .nil

end T

/-- The program's tables, as trees: the kernel finds its way in them fast. -/
noncomputable def infoQ (P : Program) (t : TypeId) : Option TypeInfo :=
  Option.rec (motive := fun _ => Option TypeInfo) (P.info? t) (fun i => some i) ((T.ofL P.types.toList).get t)

noncomputable def undQ (P : Program) (t : TypeId) : Option TypeDesc :=
  match infoQ P t with
  | some { desc := .named _ u, .. } => (infoQ P u).map (·.desc)
  | some i => some i.desc
  | none => none

noncomputable def funcQ (P : Program) (f : FuncId) : Option Func := (T.ofL P.funcs.toList).get f

/-- A value: addresses are names of objects; a slice's capacity may be open. -/
inductive AV where
  | bool (b : Bool)
  | int (k : IntKind) (n : Int)
  | str (len code : Nat)
  | nilp
  | ptr (id off : Nat)
  | nils
  | sl (id off len cap : Nat)
  | slo (id off len sz : Nat)   -- of open capacity; sz: how many cells an element has
  | sle (id off l sz : Nat)   -- behind the l elements of a slice of open capacity: none
  | nilm
  | map (id : Nat)
  | nilf
  | fn (f : FuncId) (first captured : List AV)
  | nili
  | ifc (t : TypeId) (v : AV)
  | agg (cs : List AV)
  | tup (vs : List AV)
  | undef
  | opq (i : Nat)   -- a number, a text, a bool that is not known here

def AV.cells : AV → List AV
  | .agg cs => cs
  | v => [v]

/-- May a cell hold it? -/
def AV.one : AV → Bool
  | .agg _ | .tup _ | .undef => false
  | _ => true

/-- A row of cells. grow: its capacity is open, and may be above what is known; frz: a string shares it. -/
structure Row where
  cells : T AV
  n : Nat
  elem : TypeId
  grow : Bool
  frz : Bool

structure Entry where
  key : AV
  val : AV
  born : Nat

/-- An object: a row, a map, a string that is ranged over. -/
inductive AObj where
  | row (r : Row)
  | map (es : List Entry) (clock : Nat)
  | siter (len code pos : Nat)

structure AH where
  objs : T AObj
  next : Nat

/-- Functions without a body. -/
inductive Ext where
  | same | mark0 | mark1 | cmp | find | count | noZero | load32 | store32 | cas32 | add32 | add64

/-- What is told of values that are not known here. -/
structure Ora where
  bin : BinOp → AV → AV → Option AV
  conv : IntKind → AV → Option AV
  len : AV → Option AV
  bytes : List AV → Option AV
  isInt : AV → Bool
  isStr : AV → Bool

/-- The functions without a body by their kinds; what is told of values that are not known. -/
structure Exts where
  fn : FuncId → Option Ext
  ora : Ora

instance : CoeFun Exts fun _ => FuncId → Option Ext := ⟨Exts.fn⟩

def grd {α : Type} (b : Bool) (x : Option α) : Option α :=
  match b with
  | true => x
  | false => none

def AH.row (h : AH) (id : Nat) : Option Row :=
  match h.objs.get id with
  | some (.row r) => some r
  | _ => none

def AH.mapOf (h : AH) (id : Nat) : Option (List Entry × Nat) :=
  match h.objs.get id with
  | some (.map es c) => some (es, c)
  | _ => none

def AH.put (h : AH) (id : Nat) (o : AObj) : AH := { objs := h.objs.set id (some o), next := h.next }

/-- With an object under the next name. -/
def AH.new (h : AH) (o : AObj) : AH := { objs := h.objs.set h.next (some o), next := h.next + 1 }

-- strings: byte i of (len, code) is code / 256 ^ i % 256

def byteAt (code i : Nat) : Nat := (code >>> (8 * i)) % 256

def encL : List UInt8 → Nat
  | [] => 0
  | b :: bs => b.toNat + 256 * encL bs

def lowBytes (len code : Nat) : Nat := code % 2 ^ (8 * len)

def strEq (l1 c1 l2 c2 : Nat) : Bool :=
  match Nat.beq l1 l2 with
  | true => Nat.beq (lowBytes l1 c1) (lowBytes l1 c2)
  | false => false

def strCat (l1 c1 l2 c2 : Nat) : AV := .str (l1 + l2) (lowBytes l1 c1 + c2 <<< (8 * l1))

/-- 0, 1, 2 (below, the same, above) by the bytes; the first number: the fuel, the lengths' sum. -/
def strCmp : Nat → Nat → Nat → Nat → Nat
  | 0, _, 0, _ => 1
  | 0, _, _ + 1, _ => 0
  | _ + 1, _, 0, _ => 2
  | n + 1, c, m + 1, d =>
    match Nat.beq (c % 256) (d % 256) with
    | true => strCmp n (c / 256) m (d / 256)
    | false => match Nat.blt (c % 256) (d % 256) with
      | true => 0
      | false => 2

/-- A closed value of the model. -/
def ofValD : Nat → Value → Option AV
  | 0, _ => none
  | d + 1, v =>
    match v with
    | .bool b => some (.bool b)
    | .int k n => some (.int k n)
    | .string s => some (.str s.data.toList.length (encL s.data.toList))
    | .pointer none => some .nilp
    | .slice none 0 0 => some .nils
    | .map none => some .nilm
    | .nilFunc => some .nilf
    | .func (.func f) ⟨[]⟩ ⟨[]⟩ => some (.fn f [] [])
    | .nilIface => some .nili
    | .agg ⟨cs⟩ => (ofL (ofValD d) cs).map .agg
    | .tuple ⟨[]⟩ => some .undef
    | .tuple ⟨c :: cs⟩ => (ofL (ofValD d) (c :: cs)).map .tup
    | _ => none
where
  ofL (f : Value → Option AV) : List Value → Option (List AV)
    | [] => some []
    | v :: vs => (f v).bind fun x => (ofL f vs).bind fun xs => some (x :: xs)

def ofVal (v : Value) : Option AV := ofValD 4 v

abbrev TM := T AV

def tmv (tm : TM) (t : Nat) : AV :=
  match tm.get t with
  | some v => v
  | none => .undef

def ev (tm : TM) : Operand → Option AV
  | .tmp t => some (tmv tm t)
  | .const v => ofVal v
  | .global _ => none
  | .func f => some (.fn f [] [])

def evL (tm : TM) : List Operand → Option (List AV)
  | [] => some []
  | x :: rest => (ev tm x).bind fun v => (evL tm rest).bind fun l => some (v :: l)

def evParts (tm : TM) : List (Nat × Operand) → Option (List (Nat × AV))
  | [] => some []
  | (i, x) :: rest => (ev tm x).bind fun v => (evParts tm rest).bind fun l => some ((i, v) :: l)

def evOpt (tm : TM) : Option Operand → Option (Option AV)
  | none => some none
  | some x => (ev tm x).bind fun v => some (some v)

def natOf : Int → Option Nat
  | .ofNat m => some m
  | .negSucc _ => none

/-- An int that isn't below 0. -/
def asNat : AV → Option Nat
  | .int _ n => natOf n
  | _ => none

def asPtr : AV → Option (Nat × Nat)
  | .ptr id off => some (id, off)
  | _ => none

/-- A slice that isn't nil. -/
def asSl : AV → Option (Nat × Nat × Nat)
  | .sl id off len _ => some (id, off, len)
  | .slo id off len _ => some (id, off, len)
  | _ => none

def asAgg : AV → Option (List AV)
  | .agg cs => some cs
  | _ => none

def isAggD : TypeDesc → Bool
  | .struct _ | .array _ _ => true
  | _ => false

def asSlice : TypeDesc → Option TypeId
  | .slice e => some e
  | _ => none

def asStruct : TypeDesc → Option (List Field)
  | .struct ⟨fs⟩ => some fs
  | _ => none

def asMap : TypeDesc → Option (TypeId × TypeId)
  | .map k e => some (k, e)
  | _ => none

def isU8 : TypeDesc → Bool
  | .int .u8 => true
  | _ => false

section
variable (P : Program)

def sizeT (t : TypeId) : Option Nat := (infoQ P t).bind fun i => some i.size

/-- Cells of a value of a type at a place of a list of cells. -/
def partL (t : TypeId) (cs : List AV) (off : Nat) : Option AV :=
  (undQ P t).bind fun d =>
    match isAggD d with
    | true => (sizeT P t).bind fun n => some (.agg ((cs.drop off).take n))
    | false => cs[off]?

def eqFields (eq : TypeId → AV → AV → Option Bool) : List Field → List AV → List AV → Option Bool
  | [], _, _ => some true
  | f :: fs, xs, ys =>
    match decide (f.name = "_") with
    | true => eqFields eq fs xs ys
    | false =>
      (partL P f.type xs f.offset).bind fun a => (partL P f.type ys f.offset).bind fun b => (eq f.type a b).bind fun r =>
        match r with
        | true => eqFields eq fs xs ys
        | false => some false

/-- Are two values of a type the same? None: not to be said. -/
def eqT : Nat → TypeId → AV → AV → Option Bool
  | 0, _, _, _ => none
  | d + 1, t, x, y =>
    (undQ P t).bind fun u =>
    match u, x, y with
    | .bool, .bool a, .bool b => some (a == b)
    | .int _, .int k a, .int k' b => grd (decide (k = k')) (some (a == b))
    | .string, .str a b, .str c e => some (strEq a b c e)
    | .pointer _, .nilp, .nilp => some true
    | .pointer _, .nilp, .ptr _ _ => some false
    | .pointer _, .ptr _ _, .nilp => some false
    | .pointer e, .ptr i o, .ptr j q => (sizeT P e).bind fun n => grd (Nat.blt 0 n && Nat.beq i j) (some (Nat.beq o q))
    | .interface _, .nili, .nili => some true
    | .interface _, .nili, .ifc _ _ => some false
    | .interface _, .ifc _ _, .nili => some false
    | .slice _, .nils, .nils => some true
    | .slice _, .nils, .sl _ _ _ _ => some false
    | .slice _, .sl _ _ _ _, .nils => some false
    | .slice _, .nils, .slo _ _ _ _ => some false
    | .slice _, .slo _ _ _ _, .nils => some false
    | .map _ _, .nilm, .nilm => some true
    | .map _ _, .nilm, .map _ => some false
    | .map _ _, .map _, .nilm => some false
    | .func _ _ _, .nilf, .nilf => some true
    | .func _ _ _, .nilf, .fn _ _ _ => some false
    | .func _ _ _, .fn _ _ _, .nilf => some false
    | .struct ⟨fs⟩, .agg xs, .agg ys => grd (!P.stoodInHeld t) (eqFields P (eqT d) fs xs ys)
    | _, _, _ => none

/-- Does a comparison need no look at nil interfaces? c: is one a constant? -/
def plainEq (c : Bool) (t : TypeId) (x y : AV) : Bool :=
  match x, y with
  | .nili, .nili => c
  | .agg _, .agg _ => !P.eqGuardType P.depth t
  | _, _ => true

def ofPure : Sem Value → Option AV
  | .pure (.int k n) => some (.int k n)
  | .pure (.bool b) => some (.bool b)
  | _ => none

def binAV (op : BinOp) (t : TypeId) (c : Bool) (x y : AV) : Option AV :=
  match x, y with
  | .int k a, .int k' b => ofPure (binOp op t (.int k a) (.int k' b))
  | .str a b, .str l d =>
    match op with
    | .add => grd (Nat.ble (a + l) (2 ^ 62)) (some (strCat a b l d))
    | .eql => some (.bool (strEq a b l d))
    | .neq => some (.bool (!strEq a b l d))
    | .lss => some (.bool (Nat.beq (strCmp a b l d) 0))
    | .gtr => some (.bool (Nat.beq (strCmp a b l d) 2))
    | .leq => some (.bool (!Nat.beq (strCmp a b l d) 2))
    | .geq => some (.bool (!Nat.beq (strCmp a b l d) 0))
    | _ => none
  | x, y =>
    match op with
    | .eql => grd (plainEq P c t x y) ((eqT P 20 t x y).bind fun b => some (.bool b))
    | .neq => grd (plainEq P c t x y) ((eqT P 20 t x y).bind fun b => some (.bool (!b)))
    | _ => none

def isConstOp : Operand → Bool
  | .const _ => true
  | _ => false

def unAV (op : UnOp) (x : AV) : Option AV :=
  match op, x with
  | .not, .bool b => some (.bool (!b))
  | .neg, .int k n => some (.int k (k.wrap (0 - n)))
  | _, _ => none

/-- The cells with others laid over them from a place on. -/
def overlay (cs : List AV) (off : Nat) (xs : List AV) : List AV := cs.take off ++ xs ++ cs.drop (off + xs.length)

def fillL (place : Nat → Option (Nat × Nat)) (cells : List AV) : List (Nat × AV) → Option (List AV)
  | [] => some cells
  | (i, v) :: rest =>
    (place i).bind fun p => grd (Nat.beq v.cells.length p.2 && Nat.ble (p.1 + p.2) cells.length) (fillL place (overlay cells p.1 v.cells) rest)

def zeroAV (t : TypeId) : Option AV := (infoQ P t).bind fun i => i.zero.bind ofVal

def zeroL (t : TypeId) : Option (List AV) := (zeroAV P t).bind fun z => some z.cells

def structPlace (fs : List Field) (i : Nat) : Option (Nat × Nat) := fs[i]?.bind fun f => (sizeT P f.type).bind fun n => some (f.offset, n)

/-- Have all fields' types a size? -/
def allSized : List Field → Bool
  | [] => true
  | f :: fs => (sizeT P f.type).isSome && allSized fs

def buildAV (t : TypeId) (parts : List (Nat × AV)) : Option AV :=
  (undQ P t).bind fun d => (asStruct d).bind fun fs => (zeroL P t).bind fun z =>
    grd (allSized P fs) ((fillL (structPlace P fs) z parts).bind fun cs => some (.agg cs))

/-- The zero cells of a number of elements. -/
def zerosN (z : List AV) : Nat → List AV
  | 0 => []
  | n + 1 => z ++ zerosN z n

def fieldOff (s : TypeId) (i : Nat) : Option Nat :=
  (undQ P s).bind fun d => (asStruct d).bind fun fs => fs[i]?.bind fun f => (sizeT P f.type).bind fun n => grd (Nat.blt 0 n) (some f.offset)

def indexAddrAV (t : TypeId) (x ix : AV) : Option AV :=
  (asNat ix).bind fun i => (undQ P t).bind fun d =>
    match d, x with
    | .slice e, .sl id off len _ => (sizeT P e).bind fun n => grd (Nat.blt i len) (some (.ptr id (off + i * n)))
    | .slice e, .slo id off len _ => (sizeT P e).bind fun n => grd (Nat.blt i len) (some (.ptr id (off + i * n)))
    | .array len e, .ptr id off => (sizeT P e).bind fun n => grd (Nat.blt i len) (some (.ptr id (off + i * n)))
    | _, _ => none

def indexAV (t : TypeId) (x ix : AV) : Option AV :=
  (asNat ix).bind fun i => (undQ P t).bind fun d =>
    match d, x with
    | .string, .str len code => grd (Nat.blt i len) (some (.int .u8 ((byteAt code i : Nat) : Int)))
    | .array len e, .agg cs => (sizeT P e).bind fun n => grd (Nat.blt i len) (partL P e cs (i * n))
    | _, _ => none

/-- A bound of a slice expression. -/
def boundAV (x : Option AV) (dflt y : Nat) : Option Nat :=
  match x with
  | none => some dflt
  | some v => (asNat v).bind fun i => grd (Nat.ble i y) (some i)

def sliceAV (t : TypeId) (x : AV) (lo hi mx : Option AV) : Option AV :=
  (undQ P t).bind fun d =>
  match d, x with
  | .string, .str len code =>
    grd mx.isNone ((boundAV hi len len).bind fun h => (boundAV lo 0 h).bind fun l => some (.str (h - l) (code >>> (8 * l))))
  | .slice e, .nils => (sizeT P e).bind fun _ => (boundAV mx 0 0).bind fun _ => (boundAV hi 0 0).bind fun _ => (boundAV lo 0 0).bind fun _ => grd (mx.isNone || hi.isSome) (some .nils)
  | .slice e, .sl id off len cap =>
    (boundAV mx cap cap).bind fun m => (boundAV hi len m).bind fun h => (boundAV lo 0 h).bind fun l => (sizeT P e).bind fun n =>
      grd (mx.isNone || hi.isSome) (some (.sl id (match Nat.beq m l with | true => off | false => off + l * n) (h - l) (m - l)))
  | .slice e, .slo id off len sz =>
    (sizeT P e).bind fun n => grd (Nat.beq n sz && Nat.blt 0 n)
    (match mx with
    | some v =>
      (boundAV (some v) 0 len).bind fun m => (boundAV hi len m).bind fun h => (boundAV lo 0 h).bind fun l =>
        grd hi.isSome (some (.sl id (match Nat.beq m l with | true => off | false => off + l * n) (h - l) (m - l)))
    | none =>
      (boundAV hi len len).bind fun h => (boundAV lo 0 h).bind fun l =>
        match Nat.blt l len || Nat.beq l 0 with
        | true => some (.slo id (off + l * n) (h - l) sz)
        | false => some (.sle id off l sz))
  | .array n e, .ptr id off =>
    (boundAV mx n n).bind fun m => (boundAV hi n m).bind fun h => (boundAV lo 0 h).bind fun l => (sizeT P e).bind fun k =>
      grd (mx.isNone || hi.isSome) (some (.sl id (match Nat.beq m l with | true => off | false => off + l * k) (h - l) (m - l)))
  | _, _ => none

def convAV (src dst : TypeId) (x : AV) : Option AV :=
  (undQ P src).bind fun s => (undQ P dst).bind fun d =>
    match s, d, x with
    | .int _, .int k, .int _ n => some (.int k (k.wrap n))
    | .string, .string, .str n c => some (.str n c)
    | _, _, _ => none

def lenAV (t : TypeId) (x : AV) : Option AV :=
  (undQ P t).bind fun d =>
    match d, x with
    | .string, .str n _ => some (.int .i64 n)
    | .slice _, .nils => some (.int .i64 0)
    | .slice _, .sl _ _ n _ => some (.int .i64 n)
    | .slice _, .slo _ _ n _ => some (.int .i64 n)
    | .slice _, .sle _ _ _ _ => some (.int .i64 0)
    | .map _ _, .nilm => some (.int .i64 0)
    | .array n _, _ => some (.int .i64 n)
    | _, _ => none

def capAV (t : TypeId) (x : AV) : Option AV :=
  (undQ P t).bind fun d =>
    match d, x with
    | .slice _, .nils => some (.int .i64 0)
    | .slice _, .sl _ _ _ c => some (.int .i64 c)
    | _, _ => none

def maxAV (x y : AV) : Option AV :=
  match x, y with
  | .int k a, .int _ b => some (.int k (if b > a then b else a))
  | _, _ => none

def minAV (x y : AV) : Option AV :=
  match x, y with
  | .int k a, .int _ b => some (.int k (if b < a then b else a))
  | _, _ => none

/-- The first place of a byte, counted from i on. -/
def findByte : Nat → Nat → Nat → Nat → Int
  | 0, _, _, _ => -1
  | n + 1, code, c, i =>
    match Nat.beq (code % 256) c with
    | true => i
    | false => findByte n (code / 256) c (i + 1)

def countByte : Nat → Nat → Nat → Nat → Nat
  | 0, _, _, acc => acc
  | n + 1, code, c, acc =>
    match Nat.beq (code % 256) c with
    | true => countByte n (code / 256) c (acc + 1)
    | false => countByte n (code / 256) c acc

def sliceData (x : AV) : Option AV :=
  match x with
  | .nils => some .nilp
  | .sl id off _ (_ + 1) => some (.ptr id off)
  | .slo id off (_ + 1) _ => some (.ptr id off)
  | _ => none

variable (ext : Exts)

/-- Functions without a body that look at no memory. -/
def extPure (e : Ext) (args : List AV) : Option AV :=
  match e, args with
  | .same, [x] => some x
  | .mark0, _ => some .undef
  | .mark1, [.ptr _ _] => some .undef
  | .cmp, [.str l1 c1, .str l2 c2] => some (.int .i64 ((strCmp l1 c1 l2 c2 : Nat) - 1))
  | .find, [.str l c, .int .u8 b] => (natOf b).bind fun b => some (.int .i64 (findByte l c (b % 256) 0))
  | .count, [.str l c, .int .u8 b] => (natOf b).bind fun b => some (.int .i64 (countByte l c (b % 256) 0))
  | _, _ => none

/-- What an operation gives that looks at no memory; none: it is no such one, or it is not known here. -/
def pureOp0 (tm : TM) (o : Op) : Option AV :=
  match o with
  | .move x | .assign x => ev tm x
  | .pick c a b => (ev tm c).bind fun c => (ev tm a).bind fun a => (ev tm b).bind fun b =>
    match c with
    | .bool true => some a
    | .bool false => some b
    | _ => none
  | .build t ⟨ps⟩ => (evParts tm ps).bind fun l => buildAV P t l
  | .nilCheck x => (ev tm x).bind fun v =>
    match v with
    | .ptr i o => some (.ptr i o)
    | .fn f a b => some (.fn f a b)
    | _ => none
  | .binOp op t x y _ => (ev tm x).bind fun a => (ev tm y).bind fun b => binAV P op t (isConstOp x || isConstOp y) a b
  | .unOp op _ x => (ev tm x).bind fun a => unAV op a
  | .convert s d x => (ev tm x).bind fun a => convAV P s d a
  | .makeInterface t x => (undQ P t).bind fun d =>
    match d with
    | .interface _ => none
    | _ => (ev tm x).bind fun v => some (.ifc t v)
  | .makeFunc (.func f) ⟨a⟩ ⟨c⟩ => (evL tm a).bind fun a => (evL tm c).bind fun c => some (.fn f a c)
  | .slice t x lo hi mx => (ev tm x).bind fun v => (evOpt tm lo).bind fun l => (evOpt tm hi).bind fun h => (evOpt tm mx).bind fun m => sliceAV P t v l h m
  | .fieldAddr s x i => (ev tm x).bind fun v => (asPtr v).bind fun p => (fieldOff P s i).bind fun k => some (.ptr p.1 (p.2 + k))
  | .field t x i => (ev tm x).bind fun v => (asAgg v).bind fun cs => (undQ P t).bind fun d => (asStruct d).bind fun fs => fs[i]?.bind fun f =>
    partL P f.type cs f.offset
  | .indexAddr t x ix => (ev tm x).bind fun a => (ev tm ix).bind fun b => indexAddrAV P t a b
  | .index t x ix => (ev tm x).bind fun a => (ev tm ix).bind fun b => indexAV P t a b
  | .extract x i => (ev tm x).bind fun v =>
    match v with
    | .tup vs => vs[i]?
    | _ => none
  | .call ⟨.builtin b, ⟨as⟩, ⟨ts⟩⟩ =>
    match b, as, ts with
    | .len, [x], t :: _ => (ev tm x).bind fun v => lenAV P t v
    | .cap, [x], t :: _ => (ev tm x).bind fun v => capAV P t v
    | .max, [x, y], _ => (ev tm x).bind fun v => (ev tm y).bind fun w => maxAV v w
    | .min, [x, y], _ => (ev tm x).bind fun v => (ev tm y).bind fun w => minAV v w
    | .unsafeSliceData, [x], _ => (ev tm x).bind fun v => sliceData v
    | _, _, _ => none
  | .call ⟨.value (.func f), ⟨as⟩, _⟩ => (ext f).bind fun e => (evL tm as).bind fun l => extPure e l
  | _ => none

def oraEq (x y : AV) : Option Bool :=
  match ext.ora.bin .eql x y with
  | some (.bool b) => some b
  | _ => none

/-- Are two values the same, of which some are not known here? -/
def eqS : Nat → TypeId → AV → AV → Option Bool
  | 0, _, _, _ => none
  | d + 1, t, x, y =>
    match eqT P 20 t x y with
    | some b => some b
    | none => (undQ P t).bind fun u =>
      match u, x, y with
      | .struct ⟨fs⟩, .agg xs, .agg ys => grd (!P.stoodInHeld t) (eqFields P (eqS d) fs xs ys)
      | .int _, x, y => grd (ext.ora.isInt x) (oraEq ext x y)
      | .string, x, y => grd (ext.ora.isStr x) (oraEq ext x y)
      | _, _, _ => none

/-- What an operation gives by what is told of values that are not known here. -/
def oraBin (op : BinOp) (t : TypeId) (c : Bool) (x y : AV) : Option AV :=
  match x, y with
  | .agg xs, .agg ys =>
    match op with
    | .eql => grd (plainEq P c t (.agg xs) (.agg ys)) ((eqS P ext 20 t (.agg xs) (.agg ys)).bind fun b => some (.bool b))
    | .neq => grd (plainEq P c t (.agg xs) (.agg ys)) ((eqS P ext 20 t (.agg xs) (.agg ys)).bind fun b => some (.bool (!b)))
    | _ => none
  | x, y => ext.ora.bin op x y

def oraConv (s d : TypeId) (x : AV) : Option AV :=
  (undQ P s).bind fun a => (undQ P d).bind fun b =>
    match a, b with
    | .int _, .int k => ext.ora.conv k x
    | _, _ => none

def oraLen (t : TypeId) (x : AV) : Option AV :=
  (undQ P t).bind fun d =>
    match d with
    | .string => ext.ora.len x
    | _ => none

def oraOp (tm : TM) (o : Op) : Option AV :=
  match o with
  | .binOp op t x y _ => (ev tm x).bind fun a => (ev tm y).bind fun b => oraBin P ext op t (isConstOp x || isConstOp y) a b
  | .convert s d x => (ev tm x).bind fun a => oraConv P ext s d a
  | .call ⟨.builtin .len, ⟨[x]⟩, ⟨t :: _⟩⟩ => (ev tm x).bind fun v => oraLen P ext t v
  | _ => none

def orV (x y : Option AV) : Option AV := Option.rec (motive := fun _ => Option AV) y (fun v => some v) x

/-- What an operation gives that looks at no memory. -/
def pureOp (tm : TM) (o : Op) : Option AV := orV (pureOp0 P ext tm o) (oraOp P ext tm o)

/-- The cells from a place on. -/
def readCells (cells : T AV) : Nat → Nat → Option (List AV)
  | _, 0 => some []
  | off, k + 1 => (cells.get off).bind fun v => (readCells cells (off + 1) k).bind fun l => some (v :: l)

def readRow (r : Row) (off k : Nat) : Option (List AV) := grd (Nat.ble (off + k) r.n) (readCells r.cells off k)

def loadAV (h : AH) (t : TypeId) (a : AV) : Option AV :=
  (asPtr a).bind fun p => (h.row p.1).bind fun r => (undQ P t).bind fun d =>
    match isAggD d with
    | true => (sizeT P t).bind fun k => (readRow r p.2 k).bind fun l => some (.agg l)
    | false => grd (Nat.blt p.2 r.n) (r.cells.get p.2)

def keyFields (ok : TypeId → AV → Bool) (cs : List AV) : List Field → Bool
  | [] => true
  | f :: fs =>
    match decide (f.name = "_") with
    | true => keyFields ok cs fs
    | false =>
      match partL P f.type cs f.offset with
      | some x => ok f.type x && keyFields ok cs fs
      | none => false

/-- A key of a map that may be looked for. -/
def keyOk : Nat → TypeId → AV → Bool
  | 0, _, _ => false
  | d + 1, t, v =>
    match undQ P t, v with
    | some (.struct ⟨fs⟩), .agg cs => keyFields P (keyOk d) cs fs
    | some .string, .str _ _ => true
    | some (.int _), .int _ _ => true
    | _, _ => false

/-- The first entry of a key, and its number: some none: there is none. -/
def findK (t : TypeId) (k : AV) : List Entry → Nat → Option (Option (Nat × Entry))
  | [], _ => some none
  | e :: es, i => (eqT P 20 t k e.key).bind fun b =>
    match b with
    | true => some (some (i, e))
    | false => findK t k es (i + 1)

def entriesOf (h : AH) (m : AV) : Option (List Entry) :=
  match m with
  | .nilm => some []
  | .map id => (h.mapOf id).bind fun x => some x.1
  | _ => none

def lookupAV (h : AH) (t : TypeId) (m k : AV) (ok : Bool) : Option AV :=
  (undQ P t).bind fun d => (asMap d).bind fun ke => (entriesOf h m).bind fun es => grd (keyOk P 20 ke.1 k) ((findK P ke.1 k es 0).bind fun r =>
    match r with
    | some e => some (match ok with | true => .tup [e.2.val, .bool true] | false => e.2.val)
    | none => (zeroAV P ke.2).bind fun z => some (match ok with | true => .tup [z, .bool false] | false => z))

def bytesCode : List AV → Option (Nat × Nat)
  | [] => some (0, 0)
  | .int .u8 b :: rest => (natOf b).bind fun b => (bytesCode rest).bind fun x => some (x.1 + 1, b % 256 + 256 * x.2)
  | _ => none

def convRead (h : AH) (s d : TypeId) (v : AV) : Option AV :=
  (undQ P s).bind fun a => (undQ P d).bind fun b =>
    match a, b, v with
    | .slice e, .string, .nils => (undQ P e).bind fun u => grd (isU8 u) (some (.str 0 0))
    | .slice e, .string, v => (undQ P e).bind fun u => grd (isU8 u) ((asSl v).bind fun p => (h.row p.1).bind fun r => (readRow r p.2.1 p.2.2).bind fun l =>
        (bytesCode l).bind fun x => some (.str x.1 x.2))
    | .pointer t, .unsafePointer, .ptr id off => (h.row id).bind fun r => (sizeT P t).bind fun n =>
        grd (!r.grow && Nat.blt 0 n && Nat.blt off r.n) (some (.ptr id off))
    | .unsafePointer, .pointer u, .ptr id off => (h.row id).bind fun r => (sizeT P u).bind fun _ =>
        grd (!r.grow && liesAt P P.depth r.elem (r.n / P.cellsOf r.elem) off u 1) (some (.ptr id off))
    | _, _, _ => none

def extRead (h : AH) (e : Ext) (args : List AV) : Option AV :=
  match e, args with
  | .load32, [.ptr id off] => (h.row id).bind fun r => grd (Nat.blt off r.n) ((r.cells.get off).bind fun v =>
      match v with
      | .int .u32 x => some (.int .u32 x)
      | _ => none)
  | _, _ => none

/-- A slice of a slice of open capacity, above its length. -/
def sliceRead (h : AH) (t : TypeId) (x : AV) (lo : Option AV) (hi : AV) : Option AV :=
  (undQ P t).bind fun d => (asSlice d).bind fun e =>
    match x with
    | .slo id off _ sz => (h.row id).bind fun r => (sizeT P e).bind fun n =>
      (asNat hi).bind fun hi => (boundAV lo 0 hi).bind fun l =>
        grd (r.grow && Nat.beq n sz && Nat.blt 0 n && Nat.ble (off + hi * n) r.n && Nat.blt l hi) (some (.slo id (off + l * n) (hi - l) sz))
    | _ => none

/-- What an operation gives that only looks at memory. -/
def readOp0 (tm : TM) (h : AH) (o : Op) : Option AV :=
  match o with
  | .load t x => (ev tm x).bind fun a => loadAV P h t a
  | .lookup t m k ok => (ev tm m).bind fun m => (ev tm k).bind fun k => lookupAV P h t m k ok
  | .slice t x lo (some hi) none => (ev tm x).bind fun v => (evOpt tm lo).bind fun lo => (ev tm hi).bind fun hi => sliceRead P h t v lo hi
  | .convert s d x => (ev tm x).bind fun v => convRead P h s d v
  | .call ⟨.builtin .len, ⟨[x]⟩, ⟨t :: _⟩⟩ => (undQ P t).bind fun d => (asMap d).bind fun _ => (ev tm x).bind fun v =>
    match v with
    | .map id => (h.mapOf id).bind fun es => some (.int .i64 es.1.length)
    | _ => none
  | .call ⟨.value (.func f), ⟨as⟩, _⟩ => (ext f).bind fun e => (evL tm as).bind fun l => extRead h e l
  | _ => none

/-- The text of bytes that are not all known here. -/
def oraBytes (h : AH) (s d : TypeId) (v : AV) : Option AV :=
  (undQ P s).bind fun a => (undQ P d).bind fun b => (asSlice a).bind fun e => (undQ P e).bind fun u =>
    match b with
    | .string => grd (isU8 u) ((asSl v).bind fun p => (h.row p.1).bind fun r => (readRow r p.2.1 p.2.2).bind fun l => ext.ora.bytes l)
    | _ => none

def oraRead (tm : TM) (h : AH) (o : Op) : Option AV :=
  match o with
  | .convert s d x => (ev tm x).bind fun v => oraBytes P ext h s d v
  | _ => none

/-- What an operation gives that only looks at memory. -/
def readOp (tm : TM) (h : AH) (o : Op) : Option AV := orV (readOp0 P ext tm h o) (oraRead P ext tm h o)

def setCells (cells : T AV) : Nat → List AV → T AV
  | _, [] => cells
  | off, v :: vs => setCells (cells.set off (some v)) (off + 1) vs

def newRowOf (l : List AV) (elem : TypeId) (grow : Bool) : AObj := .row ⟨setCells .nil 0 l, l.length, elem, grow, false⟩

def bytesL : Nat → Nat → List AV
  | 0, _ => []
  | n + 1, code => .int .u8 ((code % 256 : Nat) : Int) :: bytesL n (code / 256)

def slicePlace (n i : Nat) : Option (Nat × Nat) := some (i * n, n)

/-- An operation that makes an object: it, and the value, the object's name being id. -/
def allocOp (tm : TM) (o : Op) (id : Nat) : Option (AObj × AV) :=
  match o with
  | .alloc e => (zeroL P e).bind fun z => some (newRowOf z e false, .ptr id 0)
  | .box e x => (ev tm x).bind fun v => some (newRowOf v.cells e false, .ptr id 0)
  | .buildSlice t len ⟨ps⟩ =>
    (undQ P t).bind fun d => (asSlice d).bind fun e => (evParts tm ps).bind fun l => (sizeT P e).bind fun n => (zeroL P e).bind fun z =>
      grd (Nat.ble (len * n) (2 ^ 20) && Nat.blt 0 n && Nat.beq z.length n) ((fillL (slicePlace n) (zerosN z len) l).bind fun cs =>
        some (newRowOf cs e false, .sl id 0 len len))
  | .makeMap _ none => some (.map [] 0, .map id)
  | .makeSlice t x y =>
    (undQ P t).bind fun d => (asSlice d).bind fun e => (ev tm x).bind fun l => (asNat l).bind fun l => (ev tm y).bind fun c => (asNat c).bind fun c =>
      (infoQ P e).bind fun i => (zeroL P e).bind fun z =>
        grd (Nat.ble l c && Nat.ble c (2 ^ 30) && Nat.ble (i.bytes * c) (2 ^ 40) && Nat.blt 0 i.size && Nat.beq z.length i.size)
          (some (newRowOf (zerosN z c) e false, .sl id 0 l c))
  | .convert s d x =>
    (undQ P s).bind fun a => (undQ P d).bind fun b => (asSlice b).bind fun e => (undQ P e).bind fun u => (sizeT P e).bind fun n => (ev tm x).bind fun v =>
      match a, v with
      | .string, .str len code => grd (isU8 u && Nat.beq n 1) (some (newRowOf (bytesL len code) e true, .slo id 0 len 1))
      | _, _ => none
  | .range t x => (undQ P t).bind fun d => (ev tm x).bind fun v =>
    match d, v with
    | .string, .str n c => some (.siter n c 0, .ptr id 0)
    | _, _ => none
  | .call ⟨.value (.func f), ⟨as⟩, _⟩ =>
    (ext f).bind fun e => (evL tm as).bind fun l =>
      match e, l with
      | .noZero, [.int .i64 n] => (natOf n).bind fun n => (funcQ P f).bind fun fn => fn.resultTypes[0]?.bind fun t => (undQ P t).bind fun d => (asSlice d).bind fun e =>
          (sizeT P e).bind fun k => grd (Nat.ble n (2 ^ 40) && Nat.beq k 1) (some (.row ⟨.nil, 0, e, true, false⟩, .slo id 0 n 1))
      | _, _ => none
  | _ => none

/-- What an operation comes to that acts: a value and memory; a call; a call that is put off; recover. -/
inductive Eff where
  | val (v : AV) (h : AH)
  | call (f : FuncId) (args : List AV)
  | defer (f : FuncId) (args : List AV)
  | recover

def allOne : List AV → Bool
  | [] => true
  | v :: vs => v.one && allOne vs

/-- With cells of a row written. -/
def writeRow (h : AH) (id off : Nat) (vs : List AV) : Option AH :=
  (h.row id).bind fun r => grd (!r.frz && allOne vs && Nat.ble (off + vs.length) r.n)
    (some (h.put id (.row ⟨setCells r.cells off vs, r.n, r.elem, r.grow, false⟩)))

def storeAV (h : AH) (t : TypeId) (a v : AV) : Option AH :=
  (asPtr a).bind fun p => (sizeT P t).bind fun k => grd (Nat.beq v.cells.length k) (writeRow h p.1 p.2 v.cells)

/-- Are two keys the same in every bit? -/
def sameCell (x y : AV) : Bool :=
  match x, y with
  | .str n c, .str m d => strEq n c m d
  | .int j a, .int k b => decide (j = k) && decide (a = b)
  | .bool a, .bool b => a == b
  | _, _ => false

def sameCells : List AV → List AV → Bool
  | [], [] => true
  | x :: xs, y :: ys => sameCell x y && sameCells xs ys
  | _, _ => false

def sameKey (x y : AV) : Bool :=
  match x, y with
  | .agg l, .agg m => sameCells l m
  | _, _ => sameCell x y

def mapUpdateAV (h : AH) (t : TypeId) (m k v : AV) : Option AH :=
  (undQ P t).bind fun d => (asMap d).bind fun ke =>
    match m with
    | .map id => (h.mapOf id).bind fun es => grd (keyOk P 20 ke.1 k) ((findK P ke.1 k es.1 0).bind fun r =>
      match r with
      | some e => grd (sameKey k e.2.key) (some (h.put id (.map (es.1.set e.1 ⟨e.2.key, v, e.2.born⟩) es.2)))
      | none => some (h.put id (.map (es.1 ++ [⟨k, v, es.2⟩]) (es.2 + 1))))
    | _ => none

def mapEntryAV (h : AH) (t : TypeId) (m k : AV) : Option (AV × AH) :=
  (undQ P t).bind fun d => (asMap d).bind fun ke =>
    match m with
    | .map id => (h.mapOf id).bind fun es => grd (keyOk P 20 ke.1 k) ((findK P ke.1 k es.1 0).bind fun r =>
      match r with
      | some e => grd (sameKey k e.2.key) (some (.tup [e.2.val, .int .i64 e.2.born], h))
      | none => (zeroAV P ke.2).bind fun z => some (.tup [z, .int .i64 es.2], h.put id (.map (es.1 ++ [⟨k, z, es.2⟩]) (es.2 + 1))))
    | _ => none

def findBorn (b : Nat) : List Entry → Nat → Option (Nat × Entry)
  | [], _ => none
  | e :: es, i =>
    match Nat.beq e.born b with
    | true => some (i, e)
    | false => findBorn b es (i + 1)

def entryStoreAV (h : AH) (m s v : AV) : Option AH :=
  match m with
  | .map id => (asNat s).bind fun b => (h.mapOf id).bind fun es => (findBorn b es.1 0).bind fun e => some (h.put id (.map (es.1.set e.1 ⟨e.2.key, v, e.2.born⟩) es.2))
  | _ => none

/-- What is appended or copied: the cells of the first elements of it. -/
def firstCells (h : AH) (size n : Nat) (x : AV) : Option (List AV) :=
  match x with
  | .nils => some []
  | .sle _ _ _ _ => some []
  | .str _ code => grd (Nat.beq size 1) (some (bytesL n code))
  | x => (asSl x).bind fun p => (h.row p.1).bind fun r => readRow r p.2.1 (n * size)

def lenOf (x : AV) : Option Nat :=
  match x with
  | .nils => some 0
  | .sle _ _ _ _ => some 0
  | .sl _ _ n _ => some n
  | .slo _ _ n _ => some n
  | .str n _ => some n
  | _ => none

/-- What append adds: its cells, and how many elements. -/
def added (h : AH) (e : TypeId) (size : Nat) (xd : TypeDesc) (x : AV) : Option (List AV × Nat) :=
  match xd with
  | .int _ => (asNat x).bind fun n => (zeroL P e).bind fun z => grd (Nat.beq z.length size) (some (zerosN z n, n))
  | _ => (lenOf x).bind fun n => (firstCells h size n x).bind fun l => some (l, n)

/-- A slice whose row is given up for one that may be it, grown. -/
def growRow (h : AH) (id : Nat) (r : Row) (stop : Nat) (new : List AV) : AH :=
  { objs := (h.objs.set id none).set h.next (some (.row ⟨setCells r.cells stop new, stop + new.length, r.elem, true, false⟩)), next := h.next + 1 }

def appendTo (h : AH) (e : TypeId) (size : Nat) (s : AV) (new : List AV) (m : Nat) : Option (AV × AH) :=
  match s with
  | .nils =>
    match Nat.beq m 0 with
    | true => some (.nils, h)
    | false => some (.slo h.next 0 m size, h.new (newRowOf new e true))
  | .sl id off len cap =>
    match Nat.ble (len + m) cap with
    | true => (writeRow h id (off + len * size) new).bind fun h => some (.sl id off (len + m) cap, h)
    | false => (h.row id).bind fun r => (readRow r off (len * size)).bind fun old => some (.slo h.next 0 (len + m) size, h.new (newRowOf (old ++ new) e true))
  | .slo id off len sz =>
    (h.row id).bind fun r => grd (Nat.beq sz size && Nat.beq r.elem e && r.grow && !r.frz && allOne new)
      (match Nat.ble (off + len * size + m * size) r.n with
      | true => (writeRow h id (off + len * size) new).bind fun h => some (.slo id off (len + m) size, h)
      | false => grd (Nat.beq off 0 && Nat.ble r.n (len * size))
        ((readRow r 0 (len * size)).bind fun _ => some (.slo h.next 0 (len + m) size, growRow h id r (len * size) new)))
  | _ => none

def appendAV (h : AH) (ts : List TypeId) (s x : AV) : Option (AV × AH) :=
  match ts with
  | [st, xt] =>
    (undQ P st).bind fun sd => (asSlice sd).bind fun e => (undQ P xt).bind fun xd => (infoQ P e).bind fun inf =>
      (added P h e inf.size xd x).bind fun a =>
        (lenOf s).bind fun n => (zeroL P e).bind fun z =>
        grd (Nat.beq z.length inf.size && Nat.blt 0 inf.size && Nat.beq a.1.length (a.2 * inf.size) && Nat.ble ((n + a.2) * inf.bytes) (2 ^ 40) && Nat.ble (n + a.2) (2 ^ 40))
          (appendTo h e inf.size s a.1 a.2)
  | _ => none

def copyAV (h : AH) (ts : List TypeId) (d s : AV) : Option (AV × AH) :=
  match ts with
  | t :: _ =>
    (undQ P t).bind fun td => (asSlice td).bind fun e => (sizeT P e).bind fun size => (lenOf s).bind fun sl => (lenOf d).bind fun dl =>
      (firstCells h size (min sl dl) s).bind fun new => grd (Nat.beq new.length (min sl dl * size))
        (match d with
        | .nils => some (.int .i64 0, h)
        | d => (asSl d).bind fun p => (writeRow h p.1 p.2.1 new).bind fun h => some (.int .i64 ((min sl dl : Nat) : Int), h))
  | _ => none

def clearAV (h : AH) (ts : List TypeId) (x : AV) : Option AH :=
  match ts with
  | t :: _ =>
    (undQ P t).bind fun td => (asSlice td).bind fun e =>
      match x with
      | .nils => some h
      | .sle _ _ _ _ => some h
      | x => (asSl x).bind fun p => (sizeT P e).bind fun size => (zeroL P e).bind fun z => grd (Nat.beq z.length size)
          (match Nat.beq p.2.2 0 with
          | true => some h
          | false => writeRow h p.1 p.2.1 (zerosN z p.2.2))
  | _ => none

def extEff (h : AH) (e : Ext) (args : List AV) : Option (AV × AH) :=
  match e, args with
  | .store32, [.ptr id off, .int .u32 y] => (writeRow h id off [.int .u32 y]).bind fun h => some (.undef, h)
  | .add32, [.ptr id off, .int _ y] => (h.row id).bind fun r => (r.cells.get off).bind fun v =>
    match v with
    | .int .i32 x => (writeRow h id off [.int .i32 (IntKind.i32.wrap (x + y))]).bind fun h => some (.int .i32 (IntKind.i32.wrap (x + y)), h)
    | _ => none
  | .add64, [.ptr id off, .int _ y] => (h.row id).bind fun r => (r.cells.get off).bind fun v =>
    match v with
    | .int .i64 x => (writeRow h id off [.int .i64 (IntKind.i64.wrap (x + y))]).bind fun h => some (.int .i64 (IntKind.i64.wrap (x + y)), h)
    | _ => none
  | .cas32, [.ptr id off, .int _ y, .int .i32 z] => (h.row id).bind fun r => (r.cells.get off).bind fun v =>
    match v with
    | .int .i32 x =>
      match decide (x = y) with
      | true => (writeRow h id off [.int .i32 z]).bind fun h => some (.bool true, h)
      | false => none
    | _ => none
  | _, _ => none

def unsafeStr (h : AH) (ts : List TypeId) (p : AV) (n : Nat) : Option (AV × AH) :=
  match ts with
  | t :: _ =>
    (undQ P t).bind fun d =>
      match d with
      | .pointer u =>
        match Nat.beq n 0 with
        | true =>
          match p with
          | .nilp => some (.str 0 0, h)
          | .ptr _ _ => some (.str 0 0, h)
          | _ => none
        | false => (asPtr p).bind fun q => (undQ P u).bind fun ud => (sizeT P u).bind fun k => (h.row q.1).bind fun r => (readRow r q.2 n).bind fun l => (bytesCode l).bind fun x =>
            grd (isU8 ud && Nat.beq k 1 && Nat.beq r.elem u && Nat.ble n (2 ^ 40)) (some (.str x.1 x.2, h.put q.1 (.row ⟨r.cells, r.n, r.elem, r.grow, true⟩)))
      | _ => none
  | _ => none

/-- The next byte of a string that is ranged over (of one byte only). -/
def nextStr (h : AH) (id : Nat) : Option (AV × AH) :=
  match h.objs.get id with
  | some (.siter n code pos) =>
    match Nat.blt pos n with
    | false => some (.tup [.bool false], h)
    | true => grd (Nat.blt (byteAt code pos) 128)
      (some (.tup [.bool true, .int .i64 pos, .int .i32 ((byteAt code pos : Nat) : Int)], h.put id (.siter n code (pos + 1))))
  | _ => none

def callArgs (f : AV) (l : List AV) : Option (FuncId × List AV) :=
  match f with
  | .fn f first cap => some (f, first ++ l ++ cap)
  | _ => none

/-- What an operation comes to that acts on memory, or calls. -/
def effOp (tm : TM) (h : AH) (o : Op) : Option Eff :=
  match o with
  | .store t a x => (ev tm a).bind fun a => (ev tm x).bind fun v => (storeAV P h t a v).bind fun h => some (.val .undef h)
  | .mapUpdate t m k x => (ev tm m).bind fun m => (ev tm k).bind fun k => (ev tm x).bind fun v => (mapUpdateAV P h t m k v).bind fun h => some (.val .undef h)
  | .mapEntry t m k => (ev tm m).bind fun m => (ev tm k).bind fun k => (mapEntryAV P h t m k).bind fun x => some (.val x.1 x.2)
  | .entryStore _ m s x => (ev tm m).bind fun m => (ev tm s).bind fun s => (ev tm x).bind fun v => (entryStoreAV h m s v).bind fun h => some (.val .undef h)
  | .next it true => (ev tm it).bind fun v => (asPtr v).bind fun p => grd (Nat.beq p.2 0) ((nextStr h p.1).bind fun x => some (.val x.1 x.2))
  | .call ⟨.builtin b, ⟨as⟩, ⟨ts⟩⟩ =>
    match b, as with
    | .append, [s, x] => (ev tm s).bind fun s => (ev tm x).bind fun x => (appendAV P h ts s x).bind fun r => some (.val r.1 r.2)
    | .copy, [d, s] => (ev tm d).bind fun d => (ev tm s).bind fun s => (copyAV P h ts d s).bind fun r => some (.val r.1 r.2)
    | .clear, [x] => (ev tm x).bind fun x => (clearAV P h ts x).bind fun h => some (.val .undef h)
    | .unsafeString, [p, n] => (ev tm p).bind fun p => (ev tm n).bind fun n => (asNat n).bind fun n => (unsafeStr P h ts p n).bind fun r => some (.val r.1 r.2)
    | .recover, [] => some .recover
    | _, _ => none
  | .call ⟨.value f, ⟨as⟩, _⟩ => (ev tm f).bind fun g => (evL tm as).bind fun l => (callArgs g l).bind fun c =>
    match ext c.1 with
    | none => some (.call c.1 c.2)
    | some e => (extEff h e c.2).bind fun x => some (.val x.1 x.2)
  | .defer ⟨.value f, ⟨as⟩, _⟩ => (ev tm f).bind fun g => (evL tm as).bind fun l => (callArgs g l).bind fun c =>
    match ext c.1 with
    | none => some (.defer c.1 c.2)
    | some _ => none
  | _ => none

end
end
end Go.Sim
