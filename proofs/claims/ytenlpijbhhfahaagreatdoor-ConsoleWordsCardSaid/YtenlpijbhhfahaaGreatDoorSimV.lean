/- The evaluator for the kernel, second part: the running of code, by plain recursors, with all that hangs on the text alone worked out ahead. -/
import Derived.Test.YtenlpijbhhfahaaGreatDoorSimU
set_option linter.all false
set_option maxHeartbeats 2000000
namespace Go.Sim
noncomputable section

abbrev Ro := Option (TM × Defs × AH)
abbrev Kont := TM → Defs → AH → Ro

def obR (o : Option AV) (k : AV → Ro) : Ro := Option.rec (motive := fun _ => Ro) none k o
def obH (o : Option AH) (k : AH → Ro) : Ro := Option.rec (motive := fun _ => Ro) none k o
def obP (o : Option (AV × AH)) (k : AV → AH → Ro) : Ro := Option.rec (motive := fun _ => Ro) none (fun r => Prod.rec (motive := fun _ => Ro) k r) o
def obV (o : Option AV) (k : AV → Option AV) : Option AV := Option.rec (motive := fun _ => Option AV) none k o
def thenKont (o : Ro) (κ : Kont) : Ro := Option.rec (motive := fun _ => Ro) none (fun r => Prod.rec (motive := fun _ => Ro) (fun tm r => Prod.rec (motive := fun _ => Ro) (fun ds h => κ tm ds h) r) r) o

theorem obR_eq (o : Option AV) (k : AV → Ro) : obR o k = o.bind k := by cases o <;> rfl
theorem obH_eq (o : Option AH) (k : AH → Ro) : obH o k = o.bind k := by cases o <;> rfl
theorem obP_eq (o : Option (AV × AH)) (k : AV → AH → Ro) : obP o k = o.bind fun r => k r.1 r.2 := by cases o <;> rfl
theorem obV_eq (o : Option AV) (k : AV → Option AV) : obV o k = o.bind k := by cases o <;> rfl
theorem thenKont_eq (o : Ro) (κ : Kont) : thenKont o κ = o.bind fun r => κ r.1 r.2.1 r.2.2 := by cases o <;> rfl

def Stg.ap3 {α β γ δ : Type} (s : Stg (α → β → γ → δ)) (x : α) (y : β) (z : γ) : δ := Stg.rec (motive := fun _ => δ) (fun f => f x y z) s
def Stg.ap5 {α β γ δ ε ζ : Type} (s : Stg (α → β → γ → δ → ε → ζ)) (x : α) (y : β) (z : γ) (u : δ) (v : ε) : ζ := Stg.rec (motive := fun _ => ζ) (fun f => f x y z u v) s

theorem Stg.ap3_eq {α β γ δ : Type} (s : Stg (α → β → γ → δ)) (x : α) (y : β) (z : γ) : s.ap3 x y z = s.f x y z := by cases s; rfl
theorem Stg.ap5_eq {α β γ δ ε ζ : Type} (s : Stg (α → β → γ → δ → ε → ζ)) (x : α) (y : β) (z : γ) (u : δ) (v : ε) : s.ap5 x y z u v = s.f x y z u v := by cases s; rfl

-- values, looked into

def onInt (v : AV) (k : IntKind → Int → Option AV) : Option AV :=
  AV.rec (motive_1 := fun _ => Option AV) (motive_2 := fun _ => Unit) (fun _ => none) k (fun _ _ => none) none (fun _ _ => none) none (fun _ _ _ _ => none) (fun _ _ _ _ => none) (fun _ _ _ _ => none) none (fun _ => none) none (fun _ _ _ _ _ => none) none (fun _ _ _ => none) (fun _ _ => none) (fun _ _ => none) none (fun _ => none) () (fun _ _ _ _ => ()) v

def onStr (v : AV) (k : Nat → Nat → Option AV) : Option AV :=
  AV.rec (motive_1 := fun _ => Option AV) (motive_2 := fun _ => Unit) (fun _ => none) (fun _ _ => none) k none (fun _ _ => none) none (fun _ _ _ _ => none) (fun _ _ _ _ => none) (fun _ _ _ _ => none) none (fun _ => none) none (fun _ _ _ _ _ => none) none (fun _ _ _ => none) (fun _ _ => none) (fun _ _ => none) none (fun _ => none) () (fun _ _ _ _ => ()) v

def onPtr (v : AV) (k : Nat → Nat → Option AV) : Option AV :=
  AV.rec (motive_1 := fun _ => Option AV) (motive_2 := fun _ => Unit) (fun _ => none) (fun _ _ => none) (fun _ _ => none) none k none (fun _ _ _ _ => none) (fun _ _ _ _ => none) (fun _ _ _ _ => none) none (fun _ => none) none (fun _ _ _ _ _ => none) none (fun _ _ _ => none) (fun _ _ => none) (fun _ _ => none) none (fun _ => none) () (fun _ _ _ _ => ()) v

def onPtrH (v : AV) (k : Nat → Nat → Option AH) : Option AH :=
  AV.rec (motive_1 := fun _ => Option AH) (motive_2 := fun _ => Unit) (fun _ => none) (fun _ _ => none) (fun _ _ => none) none k none (fun _ _ _ _ => none) (fun _ _ _ _ => none) (fun _ _ _ _ => none) none (fun _ => none) none (fun _ _ _ _ _ => none) none (fun _ _ _ => none) (fun _ _ => none) (fun _ _ => none) none (fun _ => none) () (fun _ _ _ _ => ()) v

def onSl (v : AV) (k : Nat → Nat → Nat → Option AV) : Option AV :=
  AV.rec (motive_1 := fun _ => Option AV) (motive_2 := fun _ => Unit) (fun _ => none) (fun _ _ => none) (fun _ _ => none) none (fun _ _ => none) none (fun id off len _ => k id off len) (fun id off len _ => k id off len) (fun _ _ _ _ => none) none (fun _ => none) none (fun _ _ _ _ _ => none) none (fun _ _ _ => none) (fun _ _ => none) (fun _ _ => none) none (fun _ => none) () (fun _ _ _ _ => ()) v

def onTup (v : AV) (k : List AV → Option AV) : Option AV :=
  AV.rec (motive_1 := fun _ => Option AV) (motive_2 := fun _ => Unit) (fun _ => none) (fun _ _ => none) (fun _ _ => none) none (fun _ _ => none) none (fun _ _ _ _ => none) (fun _ _ _ _ => none) (fun _ _ _ _ => none) none (fun _ => none) none (fun _ _ _ _ _ => none) none (fun _ _ _ => none) (fun _ _ => none) (fun vs _ => k vs) none (fun _ => none) () (fun _ _ _ _ => ()) v

/-- A bool: 0 and 1; 2: it is none. -/
def onBool (v : AV) (t f : Ro) : Ro :=
  AV.rec (motive_1 := fun _ => Ro) (motive_2 := fun _ => Unit) (fun b => Bool.rec (motive := fun _ => Ro) f t b) (fun _ _ => none) (fun _ _ => none) none (fun _ _ => none) none (fun _ _ _ _ => none) (fun _ _ _ _ => none) (fun _ _ _ _ => none) none (fun _ => none) none (fun _ _ _ _ _ => none) none (fun _ _ _ => none) (fun _ _ => none) (fun _ _ => none) none (fun _ => none) () (fun _ _ _ _ => ()) v

def onBoolV (v : AV) (t f : Option AV) : Option AV :=
  AV.rec (motive_1 := fun _ => Option AV) (motive_2 := fun _ => Unit) (fun b => Bool.rec (motive := fun _ => Option AV) f t b) (fun _ _ => none) (fun _ _ => none) none (fun _ _ => none) none (fun _ _ _ _ => none) (fun _ _ _ _ => none) (fun _ _ _ _ => none) none (fun _ => none) none (fun _ _ _ _ _ => none) none (fun _ _ _ => none) (fun _ _ => none) (fun _ _ => none) none (fun _ => none) () (fun _ _ _ _ => ()) v

/-- Is it this bool? -/
def isB (w : Bool) (v : AV) : Bool :=
  AV.rec (motive_1 := fun _ => Bool) (motive_2 := fun _ => Unit) (fun b => Bool.rec (motive := fun _ => Bool) (Bool.rec (motive := fun _ => Bool) true false w) w b) (fun _ _ => false) (fun _ _ => false) false (fun _ _ => false) false (fun _ _ _ _ => false) (fun _ _ _ _ => false) (fun _ _ _ _ => false) false (fun _ => false) false (fun _ _ _ _ _ => false) false (fun _ _ _ => false) (fun _ _ => false) (fun _ _ => false) false (fun _ => false) () (fun _ _ _ _ => ()) v

-- ints

def kindNo (k : IntKind) : Nat := IntKind.rec (motive := fun _ => Nat) 0 1 2 3 4 5 6 7 k
def limOf (k : IntKind) : Nat := IntKind.rec (motive := fun _ => Nat) 128 32768 2147483648 9223372036854775808 256 65536 4294967296 18446744073709551616 k

/-- An int of a kind, wrapped, its number worked out. -/
def wrapN (k : IntKind) (m : Nat) : Option AV :=
  Nat.rec (motive := fun _ => Option AV) (some (.int k (.ofNat 0)))
    (fun p _ => Bool.rec (motive := fun _ => Option AV) (some (.int k (k.wrap (.ofNat (Nat.succ p))))) (some (.int k (.ofNat (Nat.succ p)))) (Nat.ble (Nat.succ (Nat.succ p)) (limOf k))) m

def boolV (b : Bool) : Option AV := Bool.rec (motive := fun _ => Option AV) (some (.bool false)) (some (.bool true)) b

/-- Two ints of one kind that are not below 0. -/
def nats (x y : AV) (f : IntKind → Nat → Nat → Option AV) : Option AV :=
  onInt x fun k a => onInt y fun k' b => Bool.rec (motive := fun _ => Option AV) none
    (Int.rec (motive := fun _ => Option AV) (fun m => Int.rec (motive := fun _ => Option AV) (fun n => f k m n) (fun _ => none) b) (fun _ => none) a) (Nat.beq (kindNo k) (kindNo k'))

/-- What an operator gives on two ints not below 0; none: it isn't said here. -/
def natOp (op : BinOp) : Option (IntKind → Nat → Nat → Option AV) :=
  match op with
  | .add => some fun k m n => wrapN k (Nat.add m n)
  | .sub => some fun k m n => Bool.rec (motive := fun _ => Option AV) none (wrapN k (Nat.sub m n)) (Nat.ble n m)
  | .mul => some fun k m n => wrapN k (Nat.mul m n)
  | .eql => some fun _ m n => boolV (Nat.beq m n)
  | .neq => some fun _ m n => boolV (Bool.rec (motive := fun _ => Bool) true false (Nat.beq m n))
  | .lss => some fun _ m n => boolV (Nat.ble (Nat.succ m) n)
  | .leq => some fun _ m n => boolV (Nat.ble m n)
  | .gtr => some fun _ m n => boolV (Nat.ble (Nat.succ n) m)
  | .geq => some fun _ m n => boolV (Nat.ble n m)
  | _ => none

section
variable (P : Program) (ext : Exts)

/-- A binary operator, worked out ahead. -/
def binS (op : BinOp) (t : TypeId) (c : Bool) : Stg (AV → AV → Option AV) :=
  match natOp op with
  | some f => ⟨fun x y => Option.rec (motive := fun _ => Option AV) (binAV P op t c x y) (fun v => some v) (nats x y f)⟩
  | none => ⟨fun x y => binAV P op t c x y⟩
end

/-- A temporary. -/
def tmpS (t : Nat) : Stg (TM → AV) :=
  Stg.rec (motive := fun _ => Stg (TM → AV)) (fun g => ⟨fun tm => Option.rec (motive := fun _ => AV) .undef (fun v => v) (g tm)⟩) (T.getP (Nat.succ t) t)

def putS (t : Nat) : Stg (TM → AV → TM) :=
  Stg.rec (motive := fun _ => Stg (TM → AV → TM)) (fun g => ⟨fun tm v => g tm (some v)⟩) (T.setP (Nat.succ t) t)

/-- An operand. -/
def evS (x : Operand) : Option (Stg (TM → AV)) :=
  match x with
  | .tmp t => some (tmpS t)
  | .const v => Option.rec (motive := fun _ => Option (Stg (TM → AV))) none (fun a => some ⟨fun _ => a⟩) (ofVal v)
  | .global _ => none
  | .func f => some ⟨fun _ => .fn f [] []⟩

/-- A row of operands. -/
def evLS (l : List Operand) : Option (Stg (TM → List AV)) :=
  List.rec (motive := fun _ => Option (Stg (TM → List AV))) (some ⟨fun _ => []⟩)
    (fun x _ ih => Option.rec (motive := fun _ => Option (Stg (TM → List AV))) none (fun a => Option.rec (motive := fun _ => Option (Stg (TM → List AV))) none
      (fun b => some ⟨fun tm => Stg.ap a tm :: Stg.ap b tm⟩) ih) (evS x)) l

/-- With a result put. -/
def dstS (nt : Nat) (dst : Option Nat) : Option (Stg (TM → AV → TM)) :=
  match dst with
  | none => some ⟨fun tm _ => tm⟩
  | some d => match Nat.blt d nt with
    | true => some (putS d)
    | false => none

abbrev OpS := Stg (CallF → Kont → Kont)

def failS : OpS := ⟨fun _ _ _ _ _ => none⟩

/-- An operation by its value alone. -/
def pureK (d : Stg (TM → AV → TM)) (f : TM → Option AV) : OpS := ⟨fun _ κ tm ds h => obR (f tm) fun v => κ (Stg.ap2 d tm v) ds h⟩

section
variable (P : Program) (ext : Exts)

/-- A load. -/
def loadS (t : TypeId) : Stg (AV → AH → Option AV) :=
  match undQ P t with
  | none => ⟨fun _ _ => none⟩
  | some d => match isAggD d with
    | true => match sizeT P t with
      | none => ⟨fun _ _ => none⟩
      | some k => ⟨fun a h => onPtr a fun id off => Option.rec (motive := fun _ => Option AV) none
          (fun o => AObj.rec (motive := fun _ => Option AV) (fun r => Option.rec (motive := fun _ => Option AV) none (fun l => some (.agg l)) (readRow r off k)) (fun _ _ => none) (fun _ _ _ => none) o) (T.get h.objs id)⟩
    | false => ⟨fun a h => onPtr a fun id off => Option.rec (motive := fun _ => Option AV) none
          (fun o => AObj.rec (motive := fun _ => Option AV) (fun r => Row.rec (motive := fun _ => Option AV) (fun cells n _ _ _ => Bool.rec (motive := fun _ => Option AV) none (T.get cells off) (Nat.ble (Nat.succ off) n)) r) (fun _ _ => none) (fun _ _ _ => none) o) (T.get h.objs id)⟩

/-- May a cell hold it, as it stands? -/
def oneV (v : AV) : Bool :=
  AV.rec (motive_1 := fun _ => Bool) (motive_2 := fun _ => Unit) (fun _ => true) (fun _ _ => true) (fun _ _ => true) true (fun _ _ => true) true (fun _ _ _ _ => true) (fun _ _ _ _ => true) (fun _ _ _ _ => true) true (fun _ => true) true (fun _ _ _ _ _ => true) true (fun _ _ _ => true) (fun _ _ => false) (fun _ _ => false) false (fun _ => true) () (fun _ _ _ _ => ()) v

/-- A store of one cell. -/
def store1 (a v : AV) (h : AH) : Option AH :=
  Bool.rec (motive := fun _ => Option AH) none
    (onPtrH a fun id off => Option.rec (motive := fun _ => Option AH) none
      (fun o => AObj.rec (motive := fun _ => Option AH) (fun r => Row.rec (motive := fun _ => Option AH)
        (fun cells n elem grow frz => Bool.rec (motive := fun _ => Option AH)
          (Bool.rec (motive := fun _ => Option AH) none (some ⟨T.set h.objs id (some (.row ⟨T.set cells off (some v), n, elem, grow, false⟩)), h.next⟩) (Nat.ble (Nat.succ off) n)) none frz) r)
        (fun _ _ => none) (fun _ _ _ => none) o) (T.get h.objs id)) (oneV v)

/-- A store: of one cell fast. -/
def storeS (t : TypeId) : Stg (AV → AV → AH → Option AH) :=
  match sizeT P t with
  | some 1 => ⟨fun a v h => Option.rec (motive := fun _ => Option AH) (storeAV P h t a v) (fun h => some h) (store1 a v h)⟩
  | _ => ⟨fun a v h => storeAV P h t a v⟩

def indexS (t : TypeId) : Stg (AV → AV → Option AV) :=
  match undQ P t with
  | some .string => ⟨fun x ix => onInt ix fun _ n => Int.rec (motive := fun _ => Option AV) (fun i => onStr x fun len code => Bool.rec (motive := fun _ => Option AV) none (some (.int .u8 (.ofNat (byteAt code i)))) (Nat.ble (Nat.succ i) len)) (fun _ => none) n⟩
  | _ => ⟨fun x ix => indexAV P t x ix⟩

def fieldAddrS (s : TypeId) (i : Nat) : Stg (AV → Option AV) :=
  match fieldOff P s i with
  | none => ⟨fun _ => none⟩
  | some k => ⟨fun v => onPtr v fun id off => some (.ptr id (Nat.add off k))⟩

def nilFast (v : AV) : Option AV :=
  AV.rec (motive_1 := fun _ => Option AV) (motive_2 := fun _ => Unit) (fun _ => none) (fun _ _ => none) (fun _ _ => none) none (fun i o => some (.ptr i o)) none (fun _ _ _ _ => none) (fun _ _ _ _ => none) (fun _ _ _ _ => none) none (fun _ => none) none (fun f a b _ _ => some (.fn f a b)) none (fun _ _ _ => none) (fun _ _ => none) (fun _ _ => none) none (fun _ => none) () (fun _ _ _ _ => ()) v

/-- A call with what it comes to. -/
def callK (d : Stg (TM → AV → TM)) (f : FuncId) (as : Stg (TM → List AV)) : OpS :=
  ⟨fun call κ tm ds h => obP (call f (Stg.ap as tm) h) fun v h => κ (Stg.ap2 d tm v) ds h⟩

def withPure (p : Option (TM → Option AV)) (d : Stg (TM → AV → TM)) (rest : OpS) : OpS :=
  match p with
  | none => rest
  | some f => Stg.rec (motive := fun _ => OpS) (fun r => ⟨fun call κ tm ds h => Option.rec (motive := fun _ => Ro) (r call κ tm ds h) (fun v => κ (Stg.ap2 d tm v) ds h) (f tm)⟩) rest

def withRead (p : Option (TM → AH → Option AV)) (d : Stg (TM → AV → TM)) (rest : OpS) : OpS :=
  match p with
  | none => rest
  | some f => Stg.rec (motive := fun _ => OpS) (fun r => ⟨fun call κ tm ds h => Option.rec (motive := fun _ => Ro) (r call κ tm ds h) (fun v => κ (Stg.ap2 d tm v) ds h) (f tm h)⟩) rest

/-- The next name, worked out. -/
def withNext (n : Nat) (k : Nat → Ro) : Ro := Nat.rec (motive := fun _ => Ro) (k 0) (fun p _ => k (Nat.succ p)) n

def allocK (d : Stg (TM → AV → TM)) (a : Option (TM → Nat → Option (AObj × AV))) : OpS :=
  match a with
  | none => failS
  | some f => ⟨fun _ κ tm ds h => withNext h.next fun id => Option.rec (motive := fun _ => Ro) none
      (fun r => Prod.rec (motive := fun _ => Ro) (fun o v => κ (Stg.ap2 d tm v) ds ⟨T.set h.objs id (some o), Nat.succ id⟩) r) (f tm id)⟩

def effK (dk : Bool) (d : Stg (TM → AV → TM)) (e : Option (TM → AH → Option Eff)) : OpS :=
  match e with
  | none => failS
  | some f => ⟨fun call κ tm ds h => Option.rec (motive := fun _ => Ro) none
      (fun r => Eff.rec (motive := fun _ => Ro) (fun v h => κ (Stg.ap2 d tm v) ds h) (fun f args => obP (call f args h) fun v h => κ (Stg.ap2 d tm v) ds h)
        (fun f args => κ (Stg.ap2 d tm .undef) ((f, args) :: ds) h) (Bool.rec (motive := fun _ => Ro) none (κ (Stg.ap2 d tm .nili) ds h) dk) r) (f tm h)⟩

/-- Any operation, by the parts that are worked out ahead. -/
def slowK (dk : Bool) (d : Stg (TM → AV → TM)) (o : Op) : OpS :=
  withPure (pureC P ext o) d (match isEff ext o with
    | true => effK dk d (effC P ext o)
    | false => withRead (readC P ext o) d (allocK d (allocC P ext o)))

def nthO (l : List AV) (i : Nat) : Option AV :=
  List.rec (motive := fun _ => Nat → Option AV) (fun _ => none) (fun x _ ih i => Nat.rec (motive := fun _ => Option AV) (some x) (fun i _ => ih i) i) l i

def lenSl (x : AV) : Option AV :=
  AV.rec (motive_1 := fun _ => Option AV) (motive_2 := fun _ => Unit) (fun _ => none) (fun _ _ => none) (fun _ _ => none) none (fun _ _ => none) (some (.int .i64 (.ofNat 0))) (fun _ _ n _ => some (.int .i64 (.ofNat n))) (fun _ _ n _ => some (.int .i64 (.ofNat n))) (fun _ _ _ _ => some (.int .i64 (.ofNat 0))) none (fun _ => none) none (fun _ _ _ _ _ => none) none (fun _ _ _ => none) (fun _ _ => none) (fun _ _ => none) none (fun _ => none) () (fun _ _ _ _ => ()) x

/-- The length of a string or a slice; none: it is neither. -/
def lenS (t : TypeId) : Option (AV → Option AV) :=
  match undQ P t with
  | some .string => some fun x => onStr x fun n _ => some (.int .i64 (.ofNat n))
  | some (.slice _) => some fun x => lenSl x
  | _ => none

def ev1 (x : Operand) (f : Stg (TM → AV) → OpS) : OpS :=
  match evS x with
  | some a => f a
  | none => failS

def callU (dk : Bool) (d : Stg (TM → AV → TM)) (c : Call) : OpS :=
  match c with
  | ⟨.builtin .len, ⟨[x]⟩, ⟨t :: _⟩⟩ => match lenS P t with
    | some f => ev1 x fun a => pureK d fun tm => orV (f (Stg.ap a tm)) (oraLen P ext t (Stg.ap a tm))
    | none => slowK P ext dk d (.call c)
  | ⟨.value (.func f), ⟨as⟩, _⟩ => match ext f with
    | none => match evLS as with
      | some l => callK d f l
      | none => failS
    | some _ => slowK P ext dk d (.call c)
  | _ => slowK P ext dk d (.call c)

/-- An operation that is wanted. -/
def opU (dk : Bool) (d : Stg (TM → AV → TM)) (o : Op) : OpS :=
  match o with
  | .move x => ev1 x fun a => ⟨fun _ κ tm ds h => κ (Stg.ap2 d tm (Stg.ap a tm)) ds h⟩
  | .assign x => ev1 x fun a => ⟨fun _ κ tm ds h => κ (Stg.ap2 d tm (Stg.ap a tm)) ds h⟩
  | .pick c x y => ev1 c fun c => ev1 x fun a => ev1 y fun b => pureK d fun tm => onBoolV (Stg.ap c tm) (some (Stg.ap a tm)) (some (Stg.ap b tm))
  | .binOp op t x y _ => ev1 x fun a => ev1 y fun b => pureK d fun tm => orV (Stg.ap2 (binS P op t (isConstOp x || isConstOp y)) (Stg.ap a tm) (Stg.ap b tm)) (oraBin P ext op t (isConstOp x || isConstOp y) (Stg.ap a tm) (Stg.ap b tm))
  | .nilCheck x => ev1 x fun a => pureK d fun tm => nilFast (Stg.ap a tm)
  | .fieldAddr s x i => ev1 x fun a => pureK d fun tm => Stg.ap (fieldAddrS P s i) (Stg.ap a tm)
  | .index t x ix => ev1 x fun a => ev1 ix fun b => pureK d fun tm => Stg.ap2 (indexS P t) (Stg.ap a tm) (Stg.ap b tm)
  | .extract x i => ev1 x fun a => pureK d fun tm => onTup (Stg.ap a tm) fun vs => nthO vs i
  | .load t x => ev1 x fun a => ⟨fun _ κ tm ds h => obR (Stg.ap2 (loadS P t) (Stg.ap a tm) h) fun v => κ (Stg.ap2 d tm v) ds h⟩
  | .store t x y => ev1 x fun a => ev1 y fun b => ⟨fun _ κ tm ds h => obH (Stg.ap3 (storeS P t) (Stg.ap a tm) (Stg.ap b tm) h) fun h => κ (Stg.ap2 d tm .undef) ds h⟩
  | .call c => callU P ext dk d c
  | o => slowK P ext dk d o

def dstOfO (all : List Oper) (j : Nat) : Option Nat :=
  match all[j]? with
  | some p => p.dst
  | none => none

def opS (dk : Bool) (nt : Nat) (all : List Oper) (o : Oper) : OpS :=
  match dstS nt o.dst with
  | none => failS
  | some d => match o.guard with
    | none => opU P ext dk d o.op
    | some (j, w) => match dstOfO all j with
      | none => ⟨fun _ κ tm ds h => κ (Stg.ap2 d tm .undef) ds h⟩
      | some e => Stg.rec (motive := fun _ => OpS) (fun f => ⟨fun call κ tm ds h => Bool.rec (motive := fun _ => Ro) (κ (Stg.ap2 d tm .undef) ds h) (f call κ tm ds h) (isB w (Stg.ap (tmpS e) tm))⟩) (opU P ext dk d o.op)

/-- A region in the order of the text. -/
def regS (dk : Bool) (nt : Nat) (all ops : List Oper) : OpS :=
  match ops with
  | [] => ⟨fun _ κ => κ⟩
  | o :: os => Stg.rec (motive := fun _ => OpS) (fun f => ⟨fun call κ tm ds h => f call (fun tm ds h => Stg.ap5 (regS dk nt all os) call κ tm ds h) tm ds h⟩) (opS P ext dk nt all o)

def thenDraw (o : Option (TM × AH)) (k : TM → AH → Ro) : Ro := Option.rec (motive := fun _ => Ro) none (fun r => Prod.rec (motive := fun _ => Ro) k r) o

abbrev CodeS := Stg (CallF → (List Item → Kont) → Kont)

/-- One step of the code. -/
def codeH (dk : Bool) (nt : Nat) (todo : List Item) : CodeS :=
  match todo with
  | [] => ⟨fun _ _ tm ds h => some (tm, ds, h)⟩
  | .code c :: k =>
    match c with
    | .skip => ⟨fun _ rec tm ds h => rec k tm ds h⟩
    | .region _ ops false => ⟨fun call rec tm ds h => Stg.ap5 (regS P ext dk nt ops.toList ops.toList) call (rec k) tm ds h⟩
    | .region _ ops true => ⟨fun call rec tm ds h => thenDraw (drawRegion P ext call nt ops tm h) fun tm h => rec k tm ds h⟩
    | .seq x y => ⟨fun _ rec tm ds h => rec (.code x :: .code y :: k) tm ds h⟩
    | .cond c x y => match evS c with
      | some a => ⟨fun _ rec tm ds h => onBool (Stg.ap a tm) (rec (.code x :: k) tm ds h) (rec (.code y :: k) tm ds h)⟩
      | none => ⟨fun _ _ _ _ _ => none⟩
    | .block id c => ⟨fun _ rec tm ds h => rec (.code c :: .inBlock id :: k) tm ds h⟩
    | .loop c => ⟨fun _ rec tm ds h => rec (.code c :: .inLoop c :: k) tm ds h⟩
    | .exit id => match exitTo id k with
      | some k => ⟨fun _ rec tm ds h => rec k tm ds h⟩
      | none => ⟨fun _ _ _ _ _ => none⟩
    | .ret => ⟨fun _ _ tm ds h => some (tm, ds, h)⟩
    | _ => ⟨fun _ _ _ _ _ => none⟩
  | .inBlock _ :: k => ⟨fun _ rec tm ds h => rec k tm ds h⟩
  | .inLoop c :: k => ⟨fun _ rec tm ds h => rec (.code c :: .inLoop c :: k) tm ds h⟩
  | _ => ⟨fun _ _ _ _ _ => none⟩

/-- What a step comes to that does nothing but go on. -/
def goOn (todo : List Item) : Option (List Item) :=
  match todo with
  | .code c :: k =>
    match c with
    | .skip => some k
    | .seq x y => some (.code x :: .code y :: k)
    | .block id c => some (.code c :: .inBlock id :: k)
    | .loop c => some (.code c :: .inLoop c :: k)
    | .exit id => exitTo id k
    | _ => none
  | .inBlock _ :: k => some k
  | .inLoop c :: k => some (.code c :: .inLoop c :: k)
  | _ => none

def goOns : Nat → List Item → List Item
  | 0, todo => todo
  | n + 1, todo => match goOn todo with
    | some t => goOns n t
    | none => todo

def codeS (dk : Bool) (nt : Nat) (todo : List Item) : CodeS := codeH P ext dk nt (goOns 60 todo)

def resLS (l : List ResultVar) : Stg (TM → AH → Option (List AV)) :=
  match l with
  | [] => ⟨fun _ _ => some []⟩
  | .tmp t :: r => ⟨fun tm h => Option.rec (motive := fun _ => Option (List AV)) none (fun l => some (Stg.ap (tmpS t) tm :: l)) (Stg.ap2 (resLS r) tm h)⟩
  | .cell a t :: r => ⟨fun tm h => Option.rec (motive := fun _ => Option (List AV)) none (fun v => Option.rec (motive := fun _ => Option (List AV)) none (fun l => some (v :: l)) (Stg.ap2 (resLS r) tm h)) (Stg.ap2 (loadS P t) (Stg.ap (tmpS a) tm) h)⟩

/-- The result of a list of results. -/
def oneOf (l : List AV) : AV :=
  List.rec (motive := fun _ => AV) .undef (fun v r _ => List.rec (motive := fun _ => AV) v (fun _ _ _ => .tup l) r) l

abbrev CallO := Option (AV × AH)

def defsR (call : CallF) (ds : Defs) (h : AH) : Option AH :=
  List.rec (motive := fun _ => AH → Option AH) (fun h => some h) (fun d _ ih h => Prod.rec (motive := fun _ => Option AH) (fun f args => Option.rec (motive := fun _ => Option AH) none (fun r => Prod.rec (motive := fun _ => Option AH) (fun _ h => ih h) r) (call f args h)) d) ds h

def lenL (l : List AV) : Nat := List.rec (motive := fun _ => Nat) 0 (fun _ _ n => Nat.succ n) l

def argsR (l : List AV) (tm : TM) : TM :=
  List.rec (motive := fun _ => Nat → TM → TM) (fun _ tm => tm) (fun v _ ih i tm => ih (Nat.succ i) (Stg.ap2 (putS i) tm v)) l 0 tm

/-- A function's body, entered. -/
def enterS (dk : Bool) (f : FuncId) : Stg (ExF → CallF → List AV → AH → CallO) :=
  match funcQ P f with
  | none => ⟨fun _ _ _ _ => none⟩
  | some fn => match fn.body with
    | none => ⟨fun _ _ _ _ => none⟩
    | some c => ⟨fun ex defers args h => Bool.rec (motive := fun _ => CallO) none
        (Option.rec (motive := fun _ => CallO) none (fun r => Prod.rec (motive := fun _ => CallO) (fun tm r => Prod.rec (motive := fun _ => CallO) (fun ds h =>
          Option.rec (motive := fun _ => CallO) none (fun h => Option.rec (motive := fun _ => CallO) none (fun l => some (oneOf l, h)) (Stg.ap2 (resLS P fn.results.toList) tm h)) (defsR defers ds h)) r) r)
          (ex dk fn.ntmps [.code c] (argsR args .nil) [] h)) (Nat.ble (lenL args) fn.ntmps)⟩

def Stg.ap4 {α β γ δ ε : Type} (s : Stg (α → β → γ → δ → ε)) (x : α) (y : β) (z : γ) (u : δ) : ε := Stg.rec (motive := fun _ => ε) (fun f => f x y z u) s

def callFW (ex : ExF) (defers : CallF) (dk : Bool) : CallF := fun f args h => Stg.ap4 (enterS P dk f) ex defers args h

def callDefF (ex : ExF) : CallF := callFW P ex (fun _ _ _ => none) true

variable (known : CallF)

def callNext (ex : ExF) : CallF := fun f args h => Option.rec (motive := fun _ => CallO) (callFW P ex (callDefF P ex) false f args h) (fun r => some r) (known f args h)

/-- The evaluator, for the kernel. -/
def runF (n : Nat) : ExF :=
  Nat.rec (motive := fun _ => ExF) (fun _ _ _ _ _ _ => none) (fun _ ih dk nt todo tm ds h => Stg.ap5 (codeS P ext dk nt todo) (callNext P known ih) (ih dk nt) tm ds h) n

def runCallF (n : Nat) : CallF := callFW P (runF P ext known n) (callDefF P (runF P ext known n)) false

end
end
end Go.Sim
