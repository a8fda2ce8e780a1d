/- A small evaluator for closed runs, second part: regions, code and calls. No proof. -/
import Derived.Test.YtenlpijbhhfahaaGreatDoorSimA
set_option linter.all false
set_option maxHeartbeats 2000000
namespace Go.Sim
noncomputable section

/-- Structural sameness; the fuel is the depth. -/
def beqAV : Nat → AV → AV → Bool
  | 0, _, _ => false
  | d + 1, x, y =>
    match x, y with
    | .bool a, .bool b => a == b
    | .int j a, .int k b => decide (j = k) && decide (a = b)
    | .str a b, .str c e => Nat.beq a c && Nat.beq b e
    | .nilp, .nilp => true
    | .ptr a b, .ptr c e => Nat.beq a c && Nat.beq b e
    | .nils, .nils => true
    | .sl a b c o, .sl a' b' c' o' => Nat.beq a a' && Nat.beq b b' && Nat.beq c c' && Nat.beq o o'
    | .slo a b c o, .slo a' b' c' o' => Nat.beq a a' && Nat.beq b b' && Nat.beq c c' && Nat.beq o o'
    | .sle a b c o, .sle a' b' c' o' => Nat.beq a a' && Nat.beq b b' && Nat.beq c c' && Nat.beq o o'
    | .nilm, .nilm => true
    | .map a, .map b => Nat.beq a b
    | .nilf, .nilf => true
    | .fn f a c, .fn g b e => Nat.beq f g && beqL (beqAV d) a b && beqL (beqAV d) c e
    | .nili, .nili => true
    | .ifc t v, .ifc u w => Nat.beq t u && beqAV d v w
    | .agg a, .agg b => beqL (beqAV d) a b
    | .tup a, .tup b => beqL (beqAV d) a b
    | .undef, .undef => true
    | .opq a, .opq b => Nat.beq a b
    | _, _ => false
where
  beqL (f : AV → AV → Bool) : List AV → List AV → Bool
    | [], [] => true
    | x :: xs, y :: ys => f x y && beqL f xs ys
    | _, _ => false

def isStill : Ext → Bool
  | .store32 | .cas32 | .add32 | .add64 => false
  | _ => true

/-- Does an operation act (or call)? -/
def isEff (ext : Exts) : Op → Bool
  | .store .. | .mapUpdate .. | .insert .. | .mapEntry .. | .entryStore .. | .next .. | .defer _ => true
  | .call ⟨.builtin b, _, _⟩ =>
    match b with
    | .len | .cap | .max | .min | .unsafeSliceData => false
    | _ => true
  | .call ⟨.value (.func f), _, _⟩ =>
    match ext f with
    | some e => !isStill e
    | none => true
  | .call _ => true
  | _ => false

/-- Of each operation those ahead of it, as bits. -/
def befL (ops : Array Oper) : List Nat := (Region.before ops).toList

def nth (l : List Nat) (i : Nat) : Nat := l.getD i 0

/-- All bits of the edges of an operation. -/
def edgeBits (bef : List Nat) : List Edge → Nat
  | [] => 0
  | e :: es =>
    match Region.binds .any e with
    | true => edgeBits bef es ||| 2 ^ e.on ||| nth bef e.on
    | false => edgeBits bef es

/-- Is the table of what is ahead of what right? All edges lead back. -/
def befOk (bef : List Nat) : List Oper → Nat → Bool
  | [], _ => true
  | o :: os, i => Nat.beq (nth bef i) (edgeBits bef o.after.toList) && (o.after.toList.all fun e => !Region.binds .any e || Nat.blt e.on i) && befOk bef os (i + 1)

/-- Is it an order of all that stands behind what is done? -/
def topoB (n : Nat) (bef : List Nat) : Nat → List Nat → Bool
  | d, [] => Nat.beq d (2 ^ n - 1)
  | d, i :: l => Nat.blt i n && !d.testBit i && Nat.beq (nth bef i &&& d) (nth bef i) && topoB n bef (d ||| 2 ^ i) l

/-- Does y stand behind x? -/
def keepsB (x y : Nat) : Nat → List Nat → Bool
  | _, [] => true
  | d, i :: l => (!Nat.beq i y || d.testBit x) && keepsB x y (d ||| 2 ^ i) l

/-- The effects. -/
def effsFrom (ext : Exts) : List Oper → Nat → List Nat
  | [], _ => []
  | o :: os, i =>
    match isEff ext o.op with
    | true => i :: effsFrom ext os (i + 1)
    | false => effsFrom ext os (i + 1)

/-- Those of a list that have no order to one ahead of them. -/
def unordTo (bef : List Nat) (i : Nat) : List Nat → List (Nat × Nat)
  | [] => []
  | j :: js =>
    match (nth bef j).testBit i with
    | true => unordTo bef i js
    | false => (i, j) :: unordTo bef i js

/-- All pairs of effects without an order. -/
def unord (bef : List Nat) : List Nat → List (Nat × Nat)
  | [] => []
  | i :: is => unordTo bef i is ++ unord bef is

/-- With the later of two effects ahead of the other. -/
def turnedOrder (n : Nat) (bef : List Nat) (i : Nat) : List Nat :=
  (List.range n).filter (fun k => !Nat.beq k i && !(nth bef k).testBit i) ++ i :: (List.range n).filter (fun k => (nth bef k).testBit i)

/-- The temporaries that an operation looks at. -/
def tmpsOf (o : Oper) : List Nat := o.op.operands.toList.filterMap fun | .tmp t => some t | _ => none

def dstIs (ops : List Oper) (i t : Nat) : Bool :=
  match ops[i]? with
  | some o => match o.dst with
    | some d => Nat.beq d t
    | none => false
  | none => false

/-- No temporary is written twice; what an operation looks at is written ahead of it, behind it, or by itself. -/
def orderOk (ops : List Oper) (bef : List Nat) : Bool :=
  (List.range ops.length).all fun j =>
    match ops[j]? with
    | none => true
    | some o =>
      (match o.dst with
      | none => true
      | some d => (List.range ops.length).all fun i => Nat.beq i j || !dstIs ops i d) &&
      ((tmpsOf o).all fun t => (List.range ops.length).all fun i => !dstIs ops i t || Nat.beq i j || (nth bef j).testBit i || (nth bef i).testBit j) &&
      (match o.guard with
      | none => true
      | some (g, _) => (nth bef j).testBit g)

/-- What one operation of a region came to, at its turn. -/
inductive Kind where
  | skip
  | pure
  | read
  | alloc (o : AObj)
  | eff

structure Rec where
  i : Nat
  tm : TM
  kind : Kind
  val : AV

/-- A place in the row of effects: the last one (or none), those ahead of any of them as bits, the heap. -/
structure Pos where
  e : Option Nat
  m : Nat
  h : AH

structure RS where
  tm : TM
  pos : Pos
  hist : List Pos   -- backwards, without pos
  log : List Rec    -- backwards

abbrev Defs := List (FuncId × List AV)
abbrev CallF := FuncId → List AV → AH → Option (AV × AH)

/-- The heap with the objects that were made by operations ahead of one, as far as they aren't laid into it yet. -/
def view (base : Nat) (log : List Rec) (b : Nat) (p : Pos) : AH :=
  match log with
  | [] => p.h
  | r :: rest =>
    match r.kind with
    | .alloc o =>
      match b.testBit r.i && !p.m.testBit r.i with
      | true => (view base rest b p).put (base + r.i) o
      | false => view base rest b p
    | _ => view base rest b p

section
variable (P : Program) (ext : Exts)

def putT (nt : Nat) (tm : TM) (dst : Option Nat) (v : AV) : Option TM :=
  match dst with
  | none => some tm
  | some d => grd (Nat.blt d nt) (some (tm.set d (some v)))

/-- Is an operation wanted? -/
def wantedAV (ops : List Oper) (tm : TM) (o : Oper) : Bool :=
  match o.guard with
  | none => true
  | some (j, want) =>
    match ops[j]? with
    | none => false
    | some p =>
      match p.dst with
      | none => false
      | some d =>
        match tmv tm d with
        | .bool b => b == want
        | _ => false

def effRun (call : CallF) (tm : TM) (h : AH) (o : Op) : Option (AV × AH) :=
  (effOp P ext tm h o).bind fun r =>
    match r with
    | .val v h => some (v, h)
    | .call f args => call f args h
    | _ => none

def stepDraw (call : CallF) (nt : Nat) (ops : List Oper) (bef : List Nat) (base : Nat) (s : RS) (i : Nat) : Option RS :=
  ops[i]?.bind fun o =>
    match wantedAV ops s.tm o with
    | false => (putT nt s.tm o.dst .undef).bind fun tm => some { s with tm := tm, log := ⟨i, s.tm, .skip, .undef⟩ :: s.log }
    | true =>
      match pureOp P ext s.tm o.op with
      | some v => (putT nt s.tm o.dst v).bind fun tm => some { s with tm := tm, log := ⟨i, s.tm, .pure, v⟩ :: s.log }
      | none =>
        match isEff ext o.op with
        | false =>
          match readOp P ext s.tm (view base s.log (nth bef i) s.pos) o.op with
          | some v => (putT nt s.tm o.dst v).bind fun tm => some { s with tm := tm, log := ⟨i, s.tm, .read, v⟩ :: s.log }
          | none => (allocOp P ext s.tm o.op (base + i)).bind fun r => (putT nt s.tm o.dst r.2).bind fun tm =>
            some { s with tm := tm, log := ⟨i, s.tm, .alloc r.1, r.2⟩ :: s.log }
        | true =>
          (effRun P ext call s.tm (view base s.log (nth bef i) s.pos) o.op).bind fun r =>
            (putT nt s.tm o.dst r.1).bind fun tm =>
              some { tm := tm, pos := ⟨some i, s.pos.m ||| nth bef i, r.2⟩, hist := s.pos :: s.hist, log := ⟨i, s.tm, .eff, r.1⟩ :: s.log }

def runDraw (call : CallF) (nt : Nat) (ops : List Oper) (bef : List Nat) (base : Nat) : List Nat → RS → Option RS
  | [], s => some s
  | i :: is, s => (stepDraw P ext call nt ops bef base s i).bind fun s => runDraw call nt ops bef base is s

/-- Is an effect ahead of an operation among those to come? -/
def comes (b : Nat) : List Pos → Bool
  | [] => false
  | p :: ps => (match p.e with | some e => b.testBit e | none => false) || comes b ps

/-- Does a read give its value at each of these places? (Those alone at which it may stand: no effect ahead of it is yet to come, the last one isn't behind it.) -/
def sameReads (bef : List Nat) (base : Nat) (log : List Rec) (r : Rec) (o : Oper) : List Pos → Bool
  | [] => true
  | p :: ps =>
    (match (match p.e with | some e => (nth bef e).testBit r.i | none => false) || comes (nth bef r.i) ps with
    | true => true
    | false =>
      match readOp P ext r.tm (view base log (nth bef r.i) p) o.op with
      | some v => beqAV 6 r.val v
      | none => false) && sameReads bef base log r o ps

def checkReads (ops : List Oper) (bef : List Nat) (base : Nat) (log : List Rec) (ps : List Pos) : List Rec → Bool
  | [] => true
  | r :: rs =>
    (match r.kind with
    | .read => match ops[r.i]? with
      | some o => sameReads P ext bef base log r o ps
      | none => false
    | _ => true) && checkReads ops bef base log ps rs

def drawOrder (call : CallF) (nt : Nat) (ops : List Oper) (bef : List Nat) (order : List Nat) (tm : TM) (h : AH) : Option (TM × AH) :=
  (runDraw P ext call nt ops bef h.next order { tm := tm, pos := ⟨none, 0, { objs := h.objs, next := h.next + ops.length }⟩, hist := [], log := [] }).bind fun s =>
    grd (checkReads P ext ops bef h.next s.log (s.pos :: s.hist).reverse s.log) (some (s.tm, view h.next s.log (2 ^ ops.length - 1) s.pos))

def beqCells (c c' : T AV) : Nat → Bool
  | 0 => true
  | n + 1 => (match c.get n, c'.get n with
    | some x, some y => beqAV 6 x y
    | none, none => true
    | _, _ => false) && beqCells c c' n

def beqEntries : List Entry → List Entry → Bool
  | [], [] => true
  | e :: es, e' :: es' => beqAV 6 e.key e'.key && beqAV 6 e.val e'.val && Nat.beq e.born e'.born && beqEntries es es'
  | _, _ => false

/-- The same objects, as far as they are known. -/
def beqObj : AObj → AObj → Bool
  | .row r, .row s => Nat.beq r.n s.n && Nat.beq r.elem s.elem && r.grow == s.grow && r.frz == s.frz && beqCells r.cells s.cells r.n
  | .map es k, .map es' k' => Nat.beq k k' && beqEntries es es'
  | .siter a b c, .siter a' b' c' => Nat.beq a a' && Nat.beq b b' && Nat.beq c c'
  | _, _ => false

def beqHeap (a b : T AObj) : Nat → Bool
  | 0 => true
  | n + 1 => (match a.get n, b.get n with
    | some x, some y => beqObj x y
    | none, none => true
    | _, _ => false) && beqHeap a b n

def beqTM (a b : TM) : Nat → Bool
  | 0 => true
  | n + 1 => beqAV 6 (tmv a n) (tmv b n) && beqTM a b n

def drawRegion (call : CallF) (nt : Nat) (ops : Array Oper) (tm : TM) (h : AH) : Option (TM × AH) :=
  grd (orderOk ops.toList (befL ops) && befOk (befL ops) ops.toList 0 && topoB ops.toList.length (befL ops) 0 (List.range ops.toList.length))
    (match unord (befL ops) (effsFrom ext ops.toList 0) with
    | [] => drawOrder P ext call nt ops.toList (befL ops) (List.range ops.toList.length) tm h
    | [(i, j)] =>
      grd (!Nat.beq i j && topoB ops.toList.length (befL ops) 0 (turnedOrder ops.toList.length (befL ops) i) && keepsB j i 0 (turnedOrder ops.toList.length (befL ops) i) && keepsB i j 0 (List.range ops.toList.length))
      ((drawOrder P ext call nt ops.toList (befL ops) (List.range ops.toList.length) tm h).bind fun a =>
      (drawOrder P ext call nt ops.toList (befL ops) (turnedOrder ops.toList.length (befL ops) i) tm h).bind fun b =>
        grd (beqTM a.1 b.1 nt && Nat.beq a.2.next b.2.next && beqHeap a.2.objs b.2.objs a.2.next) (some a))
    | _ => none)

/-- A region in the order of the text. dk: is the frame a deferred call's? -/
def runOps (call : CallF) (dk : Bool) (nt : Nat) (all : List Oper) : List Oper → TM → Defs → AH → Option (TM × Defs × AH)
  | [], tm, ds, h => some (tm, ds, h)
  | o :: os, tm, ds, h =>
    match wantedAV all tm o with
    | false => (putT nt tm o.dst .undef).bind fun tm => runOps call dk nt all os tm ds h
    | true =>
      match pureOp P ext tm o.op with
      | some v => (putT nt tm o.dst v).bind fun tm => runOps call dk nt all os tm ds h
      | none =>
        match isEff ext o.op with
        | false =>
          match readOp P ext tm h o.op with
          | some v => (putT nt tm o.dst v).bind fun tm => runOps call dk nt all os tm ds h
          | none => (allocOp P ext tm o.op h.next).bind fun r => (putT nt tm o.dst r.2).bind fun tm => runOps call dk nt all os tm ds (h.new r.1)
        | true => (effOp P ext tm h o.op).bind fun r =>
          match r with
          | .val v h => (putT nt tm o.dst v).bind fun tm => runOps call dk nt all os tm ds h
          | .call f args => (call f args h).bind fun r => (putT nt tm o.dst r.1).bind fun tm => runOps call dk nt all os tm ds r.2
          | .defer f args => (putT nt tm o.dst .undef).bind fun tm => runOps call dk nt all os tm ((f, args) :: ds) h
          | .recover => grd dk ((putT nt tm o.dst .nili).bind fun tm => runOps call dk nt all os tm ds h)

def argTM : List AV → Nat → TM → TM
  | [], _, tm => tm
  | v :: vs, i, tm => argTM vs (i + 1) (tm.set i (some v))

def resultL (tm : TM) (h : AH) : List ResultVar → Option (List AV)
  | [] => some []
  | .tmp t :: r => (resultL tm h r).bind fun l => some (tmv tm t :: l)
  | .cell a t :: r => (loadAV P h t (tmv tm a)).bind fun v => (resultL tm h r).bind fun l => some (v :: l)

def resultsAV (fn : Func) (tm : TM) (h : AH) : Option AV :=
  (resultL P tm h fn.results.toList).bind fun l =>
    match l with
    | [v] => some v
    | [] => some .undef
    | l => some (.tup l)

abbrev ExF := Bool → Nat → List Item → TM → Defs → AH → Option (TM × Defs × AH)

/-- One step of the code; rec: the rest. -/
def execStep (call : CallF) (rec : List Item → TM → Defs → AH → Option (TM × Defs × AH)) (dk : Bool) (nt : Nat) (todo : List Item) (tm : TM) (ds : Defs) (h : AH) : Option (TM × Defs × AH) :=
  match todo with
  | [] => some (tm, ds, h)
  | .code c :: k =>
    match c with
    | .skip => rec k tm ds h
    | .region _ ops false => (runOps P ext call dk nt ops.toList ops.toList tm ds h).bind fun r => rec k r.1 r.2.1 r.2.2
    | .region _ ops true => (drawRegion P ext call nt ops tm h).bind fun r => rec k r.1 ds r.2
    | .seq x y => rec (.code x :: .code y :: k) tm ds h
    | .cond c x y => (ev tm c).bind fun v =>
      match v with
      | .bool true => rec (.code x :: k) tm ds h
      | .bool false => rec (.code y :: k) tm ds h
      | _ => none
    | .block id c => rec (.code c :: .inBlock id :: k) tm ds h
    | .loop c => rec (.code c :: .inLoop c :: k) tm ds h
    | .exit id => (exitTo id k).bind fun k => rec k tm ds h
    | .ret => some (tm, ds, h)
    | _ => none
  | .inBlock _ :: k => rec k tm ds h
  | .inLoop c :: k => rec (.code c :: .inLoop c :: k) tm ds h
  | _ => none

/-- A call's body, behind which nothing is put off any more. -/
def runDefs (call : CallF) : Defs → AH → Option AH
  | [], h => some h
  | (f, args) :: ds, h => (call f args h).bind fun r => runDefs call ds r.2

/-- A call, by what its body comes to; calls that it puts off by defers. -/
def callWith (ex : ExF) (defers : CallF) (dk : Bool) : CallF := fun f args h =>
  (funcQ P f).bind fun fn => fn.body.bind fun c => grd (Nat.ble args.length fn.ntmps)
    ((ex dk fn.ntmps [.code c] (argTM args 0 .nil) [] h).bind fun r => (runDefs defers r.2.1 r.2.2).bind fun h =>
      (resultsAV P fn r.1 h).bind fun v => some (v, h))

/-- A deferred call puts off none. -/
def callDef (ex : ExF) : CallF := callWith P ex (fun _ _ _ => none) true

variable (known : CallF)

/-- The evaluator: the code of a frame, and the calls; the fuel: the steps. -/
def run : Nat → ExF
  | 0, _, _, _, _, _, _ => none
  | n + 1, dk, nt, todo, tm, ds, h =>
    execStep P ext (fun f args h =>
        match known f args h with
        | some r => some r
        | none => callWith P (run n) (callDef P (run n)) false f args h)
      (run n dk nt) dk nt todo tm ds h

/-- A call. -/
def runCall (n : Nat) : CallF := callWith P (run P ext known n) (callDef P (run P ext known n)) false

end
end
end Go.Sim
