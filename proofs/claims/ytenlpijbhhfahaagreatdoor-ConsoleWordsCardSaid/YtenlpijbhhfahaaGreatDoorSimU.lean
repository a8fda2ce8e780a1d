/- The evaluator for the kernel: the same, with what hangs on the text alone worked out ahead, so that the kernel does it once. -/
import Derived.Test.YtenlpijbhhfahaaGreatDoorSimB
set_option linter.all false
set_option maxHeartbeats 2000000
namespace Go.Sim
noncomputable section

section
variable (P : Program) (ext : Exts)

def pickF (tm : TM) (c a b : Operand) : Option AV :=
  (ev tm c).bind fun c => (ev tm a).bind fun a => (ev tm b).bind fun b =>
    match c with
    | .bool true => some a
    | .bool false => some b
    | _ => none

def nilF (v : AV) : Option AV :=
  match v with
  | .ptr i o => some (.ptr i o)
  | .fn f a b => some (.fn f a b)
  | _ => none

def tupF (i : Nat) (v : AV) : Option AV :=
  match v with
  | .tup vs => vs[i]?
  | _ => none

def mkIfcF (tm : TM) (t : TypeId) (x : Operand) (d : TypeDesc) : Option AV :=
  match d with
  | .interface _ => none
  | _ => (ev tm x).bind fun v => some (.ifc t v)

def ptrAddF (v : AV) (k : Nat) : Option AV := (asPtr v).bind fun p => some (.ptr p.1 (p.2 + k))

/-- A call of a builtin that looks at no memory. -/
def pureCallB (b : Builtin) (as : List Operand) (ts : List TypeId) : Option (TM → Option AV) :=
  match b, as, ts with
  | .len, [x], t :: _ => some fun tm => (ev tm x).bind fun v => lenAV P t v
  | .cap, [x], t :: _ => some fun tm => (ev tm x).bind fun v => capAV P t v
  | .max, [x, y], _ => some fun tm => (ev tm x).bind fun v => (ev tm y).bind fun w => maxAV v w
  | .min, [x, y], _ => some fun tm => (ev tm x).bind fun v => (ev tm y).bind fun w => minAV v w
  | .unsafeSliceData, [x], _ => some fun tm => (ev tm x).bind fun v => sliceData v
  | _, _, _ => none

def pureCall (c : Call) : Option (TM → Option AV) :=
  match c with
  | ⟨.builtin b, ⟨as⟩, ⟨ts⟩⟩ => pureCallB P b as ts
  | ⟨.value (.func f), ⟨as⟩, _⟩ =>
    match ext f with
    | some e => some fun tm => (evL tm as).bind fun l => extPure e l
    | none => none
  | _ => none

def pureFn (f : Fn) (a c : List Operand) : Option (TM → Option AV) :=
  match f with
  | .func f => some fun tm => (evL tm a).bind fun a => (evL tm c).bind fun c => some (.fn f a c)
  | _ => none

def pureC0 (o : Op) : Option (TM → Option AV) :=
  match o with
  | .move x => some fun tm => ev tm x
  | .assign x => some fun tm => ev tm x
  | .pick c a b => some fun tm => pickF tm c a b
  | .build t ps => some fun tm => (evParts tm ps.toList).bind fun l => buildAV P t l
  | .nilCheck x => some fun tm => (ev tm x).bind nilF
  | .binOp op t x y _ => some fun tm => (ev tm x).bind fun a => (ev tm y).bind fun b => binAV P op t (isConstOp x || isConstOp y) a b
  | .unOp op _ x => some fun tm => (ev tm x).bind fun a => unAV op a
  | .convert s d x => some fun tm => (ev tm x).bind fun a => convAV P s d a
  | .makeInterface t x => some fun tm => (undQ P t).bind fun d => mkIfcF tm t x d
  | .makeFunc f a c => pureFn f a.toList c.toList
  | .slice t x lo hi mx => some fun tm => (ev tm x).bind fun v => (evOpt tm lo).bind fun l => (evOpt tm hi).bind fun h => (evOpt tm mx).bind fun m => sliceAV P t v l h m
  | .fieldAddr s x i => some fun tm => (ev tm x).bind fun v => (asPtr v).bind fun p => (fieldOff P s i).bind fun k => some (.ptr p.1 (p.2 + k))
  | .field t x i => some fun tm => (ev tm x).bind fun v => (asAgg v).bind fun cs => (undQ P t).bind fun d => (asStruct d).bind fun fs => fs[i]?.bind fun f => partL P f.type cs f.offset
  | .indexAddr t x ix => some fun tm => (ev tm x).bind fun a => (ev tm ix).bind fun b => indexAddrAV P t a b
  | .index t x ix => some fun tm => (ev tm x).bind fun a => (ev tm ix).bind fun b => indexAV P t a b
  | .extract x i => some fun tm => (ev tm x).bind (tupF i)
  | .call c => pureCall P ext c
  | _ => none

def app1 {α β : Type} (f : Option (α → Option β)) (x : α) : Option β :=
  match f with
  | some f => f x
  | none => none

theorem pureC0_eq (tm : TM) (o : Op) : app1 (pureC0 P ext o) tm = pureOp0 P ext tm o := by
  cases o
  case call c =>
    obtain ⟨cl, as, ts⟩ := c
    obtain ⟨as⟩ := as
    obtain ⟨ts⟩ := ts
    cases cl with
    | builtin b =>
      simp only [pureC0, pureCall, pureOp0, pureCallB]
      split <;> first | rfl | (split <;> first | rfl | simp_all [app1])
    | value v =>
      cases v with
      | func f =>
        simp only [pureC0, pureCall, pureOp0]
        cases ext f <;> rfl
      | _ => rfl
    | invoke r n => rfl
  case makeFunc f a c =>
    obtain ⟨a⟩ := a
    obtain ⟨c⟩ := c
    cases f <;> rfl
  case build t ps =>
    obtain ⟨ps⟩ := ps
    rfl
  all_goals rfl

/-- What is told of values that are not known, worked out ahead. -/
def oraCallC (c : Call) : Option (TM → Option AV) :=
  match c with
  | ⟨.builtin .len, ⟨[x]⟩, ⟨t :: _⟩⟩ => some fun tm => (ev tm x).bind fun v => oraLen P ext t v
  | _ => none

def oraC (o : Op) : Option (TM → Option AV) :=
  match o with
  | .binOp op t x y _ => some fun tm => (ev tm x).bind fun a => (ev tm y).bind fun b => oraBin P ext op t (isConstOp x || isConstOp y) a b
  | .convert s d x => some fun tm => (ev tm x).bind fun a => oraConv P ext s d a
  | .call c => oraCallC P ext c
  | _ => none

theorem oraC_eq (tm : TM) (o : Op) : app1 (oraC P ext o) tm = oraOp P ext tm o := by
  cases o
  case call c =>
    obtain ⟨cl, as, ts⟩ := c
    obtain ⟨as⟩ := as
    obtain ⟨ts⟩ := ts
    simp only [oraC, oraCallC, oraOp]
    split <;> first | rfl | simp_all [app1]
  all_goals rfl

/-- The one, or else the other. -/
def orC (f g : Option (TM → Option AV)) : Option (TM → Option AV) :=
  match f, g with
  | none, g => g
  | f, none => f
  | some f, some g => some fun tm => orV (f tm) (g tm)

def pureC (o : Op) : Option (TM → Option AV) := orC (pureC0 P ext o) (oraC P ext o)

theorem orV_none (x : Option AV) : orV x none = x := by cases x <;> rfl

theorem pureC_eq (tm : TM) (o : Op) : app1 (pureC P ext o) tm = pureOp P ext tm o := by
  unfold pureC pureOp
  rw [← pureC0_eq, ← oraC_eq]
  cases pureC0 P ext o with
  | none => cases oraC P ext o <;> rfl
  | some f => cases oraC P ext o with
    | none => simp only [orC, app1, orV_none]
    | some g => rfl

end

section
variable (P : Program) (ext : Exts)

def app2 {α β γ : Type} (f : Option (α → β → Option γ)) (x : α) (y : β) : Option γ :=
  match f with
  | some f => f x y
  | none => none

def lenMapF (h : AH) (v : AV) : Option AV :=
  match v with
  | .map id => (h.mapOf id).bind fun es => some (.int .i64 es.1.length)
  | _ => none

def readCall (c : Call) : Option (TM → AH → Option AV) :=
  match c with
  | ⟨.builtin .len, ⟨[x]⟩, ⟨t :: _⟩⟩ => some fun tm h => (undQ P t).bind fun d => (asMap d).bind fun _ => (ev tm x).bind fun v => lenMapF h v
  | ⟨.value (.func f), ⟨as⟩, _⟩ =>
    match ext f with
    | some e => some fun tm h => (evL tm as).bind fun l => extRead h e l
    | none => none
  | _ => none

def readSlice (t : TypeId) (x : Operand) (lo hi mx : Option Operand) : Option (TM → AH → Option AV) :=
  match hi, mx with
  | some hi, none => some fun tm h => (ev tm x).bind fun v => (evOpt tm lo).bind fun lo => (ev tm hi).bind fun hi => sliceRead P h t v lo hi
  | _, _ => none

def readC0 (o : Op) : Option (TM → AH → Option AV) :=
  match o with
  | .load t x => some fun tm h => (ev tm x).bind fun a => loadAV P h t a
  | .lookup t m k ok => some fun tm h => (ev tm m).bind fun m => (ev tm k).bind fun k => lookupAV P h t m k ok
  | .slice t x lo hi mx => readSlice P t x lo hi mx
  | .convert s d x => some fun tm h => (ev tm x).bind fun v => convRead P h s d v
  | .call c => readCall P ext c
  | _ => none

theorem readC0_eq (tm : TM) (h : AH) (o : Op) : app2 (readC0 P ext o) tm h = readOp0 P ext tm h o := by
  cases o
  case call c =>
    obtain ⟨cl, as, ts⟩ := c
    obtain ⟨as⟩ := as
    obtain ⟨ts⟩ := ts
    cases cl with
    | builtin b =>
      simp only [readC0, readCall, readOp0]
      split <;> first | rfl | (split <;> first | rfl | (simp_all; done) | (simp_all; rfl))
    | value v =>
      cases v with
      | func f =>
        simp only [readC0, readCall, readOp0]
        cases ext f <;> rfl
      | _ => rfl
    | invoke r n => rfl
  case slice t x lo hi mx =>
    cases hi <;> cases mx <;> rfl
  all_goals rfl

def oraReadC (o : Op) : Option (TM → AH → Option AV) :=
  match o with
  | .convert s d x => some fun tm h => (ev tm x).bind fun v => oraBytes P ext h s d v
  | _ => none

theorem oraReadC_eq (tm : TM) (h : AH) (o : Op) : app2 (oraReadC P ext o) tm h = oraRead P ext tm h o := by cases o <;> rfl

def orC2 (f g : Option (TM → AH → Option AV)) : Option (TM → AH → Option AV) :=
  match f, g with
  | none, g => g
  | f, none => f
  | some f, some g => some fun tm h => orV (f tm h) (g tm h)

def readC (o : Op) : Option (TM → AH → Option AV) := orC2 (readC0 P ext o) (oraReadC P ext o)

theorem readC_eq (tm : TM) (h : AH) (o : Op) : app2 (readC P ext o) tm h = readOp P ext tm h o := by
  unfold readC readOp
  rw [← readC0_eq, ← oraReadC_eq]
  cases readC0 P ext o with
  | none => cases oraReadC P ext o <;> rfl
  | some f => cases oraReadC P ext o with
    | none => simp only [orC2, app2, orV_none]
    | some g => rfl

def bytesConvF (a : TypeDesc) (v : AV) (u : TypeDesc) (e n id : Nat) : Option (AObj × AV) :=
  match a, v with
  | .string, .str len code => grd (isU8 u && Nat.beq n 1) (some (newRowOf (bytesL len code) e true, .slo id 0 len 1))
  | _, _ => none

def rangeF (d : TypeDesc) (v : AV) (id : Nat) : Option (AObj × AV) :=
  match d, v with
  | .string, .str n c => some (.siter n c 0, .ptr id 0)
  | _, _ => none

def noZeroF (f : FuncId) (e : Ext) (l : List AV) (id : Nat) : Option (AObj × AV) :=
  match e, l with
  | .noZero, [.int .i64 n] => (natOf n).bind fun n => (funcQ P f).bind fun fn => fn.resultTypes[0]?.bind fun t => (undQ P t).bind fun d => (asSlice d).bind fun e =>
      (sizeT P e).bind fun k => grd (Nat.ble n (2 ^ 40) && Nat.beq k 1) (some (.row ⟨.nil, 0, e, true, false⟩, .slo id 0 n 1))
  | _, _ => none

def allocCall (c : Call) : Option (TM → Nat → Option (AObj × AV)) :=
  match c with
  | ⟨.value (.func f), ⟨as⟩, _⟩ =>
    match ext f with
    | some e => some fun tm id => (evL tm as).bind fun l => noZeroF P f e l id
    | none => none
  | _ => none

def allocC (o : Op) : Option (TM → Nat → Option (AObj × AV)) :=
  match o with
  | .alloc e => some fun _ id => (zeroL P e).bind fun z => some (newRowOf z e false, .ptr id 0)
  | .box e x => some fun tm id => (ev tm x).bind fun v => some (newRowOf v.cells e false, .ptr id 0)
  | .buildSlice t len ps => some fun tm id =>
    (undQ P t).bind fun d => (asSlice d).bind fun e => (evParts tm ps.toList).bind fun l => (sizeT P e).bind fun n => (zeroL P e).bind fun z =>
      grd (Nat.ble (len * n) (2 ^ 20) && Nat.blt 0 n && Nat.beq z.length n) ((fillL (slicePlace n) (zerosN z len) l).bind fun cs =>
        some (newRowOf cs e false, .sl id 0 len len))
  | .makeMap _ r =>
    match r with
    | none => some fun _ id => some (.map [] 0, .map id)
    | some _ => none
  | .makeSlice t x y => some fun tm id =>
    (undQ P t).bind fun d => (asSlice d).bind fun e => (ev tm x).bind fun l => (asNat l).bind fun l => (ev tm y).bind fun c => (asNat c).bind fun c =>
      (infoQ P e).bind fun i => (zeroL P e).bind fun z =>
        grd (Nat.ble l c && Nat.ble c (2 ^ 30) && Nat.ble (i.bytes * c) (2 ^ 40) && Nat.blt 0 i.size && Nat.beq z.length i.size)
          (some (newRowOf (zerosN z c) e false, .sl id 0 l c))
  | .convert s d x => some fun tm id =>
    (undQ P s).bind fun a => (undQ P d).bind fun b => (asSlice b).bind fun e => (undQ P e).bind fun u => (sizeT P e).bind fun n => (ev tm x).bind fun v => bytesConvF a v u e n id
  | .range t x => some fun tm id => (undQ P t).bind fun d => (ev tm x).bind fun v => rangeF d v id
  | .call c => allocCall P ext c
  | _ => none

theorem allocC_eq (tm : TM) (id : Nat) (o : Op) : app2 (allocC P ext o) tm id = allocOp P ext tm o id := by
  cases o
  case call c =>
    obtain ⟨cl, as, ts⟩ := c
    obtain ⟨as⟩ := as
    cases cl with
    | builtin b => rfl
    | value v =>
      cases v with
      | func f =>
        simp only [allocC, allocCall, allocOp]
        cases ext f <;> rfl
      | _ => rfl
    | invoke r n => rfl
  case buildSlice t len ps => obtain ⟨ps⟩ := ps; rfl
  case makeMap t r => cases r <;> rfl
  all_goals rfl

def effCallB (b : Builtin) (as : List Operand) (ts : List TypeId) : Option (TM → AH → Option Eff) :=
  match b, as with
  | .append, [s, x] => some fun tm h => (ev tm s).bind fun s => (ev tm x).bind fun x => (appendAV P h ts s x).bind fun r => some (.val r.1 r.2)
  | .copy, [d, s] => some fun tm h => (ev tm d).bind fun d => (ev tm s).bind fun s => (copyAV P h ts d s).bind fun r => some (.val r.1 r.2)
  | .clear, [x] => some fun tm h => (ev tm x).bind fun x => (clearAV P h ts x).bind fun h => some (.val .undef h)
  | .unsafeString, [p, n] => some fun tm h => (ev tm p).bind fun p => (ev tm n).bind fun n => (asNat n).bind fun n => (unsafeStr P h ts p n).bind fun r => some (.val r.1 r.2)
  | .recover, [] => some fun _ _ => some .recover
  | _, _ => none

def callF (h : AH) (c : FuncId × List AV) : Option Eff :=
  match ext c.1 with
  | none => some (.call c.1 c.2)
  | some e => (extEff h e c.2).bind fun x => some (.val x.1 x.2)

def deferF (c : FuncId × List AV) : Option Eff :=
  match ext c.1 with
  | none => some (.defer c.1 c.2)
  | some _ => none

def effCall (c : Call) : Option (TM → AH → Option Eff) :=
  match c with
  | ⟨.builtin b, ⟨as⟩, ⟨ts⟩⟩ => effCallB P b as ts
  | ⟨.value f, ⟨as⟩, _⟩ => some fun tm h => (ev tm f).bind fun g => (evL tm as).bind fun l => (callArgs g l).bind fun c => callF ext h c
  | _ => none

def deferC (c : Call) : Option (TM → AH → Option Eff) :=
  match c with
  | ⟨.value f, ⟨as⟩, _⟩ => some fun tm _ => (ev tm f).bind fun g => (evL tm as).bind fun l => (callArgs g l).bind fun c => deferF ext c
  | _ => none

def effC (o : Op) : Option (TM → AH → Option Eff) :=
  match o with
  | .store t a x => some fun tm h => (ev tm a).bind fun a => (ev tm x).bind fun v => (storeAV P h t a v).bind fun h => some (.val .undef h)
  | .mapUpdate t m k x => some fun tm h => (ev tm m).bind fun m => (ev tm k).bind fun k => (ev tm x).bind fun v => (mapUpdateAV P h t m k v).bind fun h => some (.val .undef h)
  | .mapEntry t m k => some fun tm h => (ev tm m).bind fun m => (ev tm k).bind fun k => (mapEntryAV P h t m k).bind fun x => some (.val x.1 x.2)
  | .entryStore _ m s x => some fun tm h => (ev tm m).bind fun m => (ev tm s).bind fun s => (ev tm x).bind fun v => (entryStoreAV h m s v).bind fun h => some (.val .undef h)
  | .next it b =>
    match b with
    | true => some fun tm h => (ev tm it).bind fun v => (asPtr v).bind fun p => grd (Nat.beq p.2 0) ((nextStr h p.1).bind fun x => some (.val x.1 x.2))
    | false => none
  | .call c => effCall P ext c
  | .defer c => deferC ext c
  | _ => none

theorem effC_eq (tm : TM) (h : AH) (o : Op) : app2 (effC P ext o) tm h = effOp P ext tm h o := by
  cases o
  case call c =>
    obtain ⟨cl, as, ts⟩ := c
    obtain ⟨as⟩ := as
    obtain ⟨ts⟩ := ts
    cases cl with
    | builtin b =>
      simp only [effC, effCall, effOp, effCallB]
      split <;> first | rfl | (split <;> first | rfl | simp_all)
    | value v => rfl
    | invoke r n => rfl
  case defer c =>
    obtain ⟨cl, as, ts⟩ := c
    obtain ⟨as⟩ := as
    cases cl <;> rfl
  case next it b => cases b <;> rfl
  all_goals rfl
end
end
end Go.Sim
