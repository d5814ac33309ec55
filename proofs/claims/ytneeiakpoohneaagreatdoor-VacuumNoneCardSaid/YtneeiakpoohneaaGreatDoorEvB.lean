/- The evaluator over the model's Code. -/
import Derived.Test.YtneeiakpoohneaaGreatDoorEvA
import Derived.Orders
set_option linter.all false
namespace Go.Ev
noncomputable section

abbrev Env := Tmp → AV
def Env.set (env : Env) (t : Tmp) (v : AV) : Env := fun u => bif Nat.beq u t then v else env u
def mk : List (Tmp × AV) → Env
  | [] => fun _ => .undef
  | (t, v) :: l => (mk l).set t v
def restrict (L : List Tmp) (env : Env) : Env := mk (L.map fun t => (t, env t))
abbrev K := St → Env → Out

def opv (P : Program) (env : Env) : Operand → AV
  | .tmp t => env t
  | .const v => ofValue v
  | .global g => bif Nat.blt g P.globals.size then .ptr g 0 else .undef
  | .func f => .func f [] []

section
variable (P : Program) (call : Call)
def isAggT (t : TypeId) : Bool := match P.underlying t with | some (.struct _) | some (.array _ _) => true | _ => false
def tf (t : TypeId) : TF := ⟨P.cellsOf t, isAggT P t⟩
def sizeT (t : TypeId) : Nat := P.cellsOf t
def zeroT (t : TypeId) : AV := match P.info? t with
  | some i => match i.zero with
    | some z => ofValue z
    | none => .undef
  | none => .undef
def elemOk (e : TypeId) : Bool := Nat.blt 0 (sizeT P e) && Nat.beq (Row.len (cellsOf (zeroT P e))) (sizeT P e) && (match P.info? e with | some i => Nat.ble i.bytes 65536 | none => false)
def tyOk (t : TypeId) : Bool := (P.underlying t).isSome && (isAggT P t || Nat.beq (sizeT P t) 1)
def isDef : AV → Bool
  | .undef => false
  | _ => true
def und (t : TypeId) : TypeDesc := match P.underlying t with | some d => d | none => .invalid
def meth (name : String) (t : TypeId) : Option FuncId := match (P.info? t).bind fun i => i.methods.find? (·.name == name) with
  | some m => match m.path.isEmpty, m.func, P.underlying t with
    | true, some (f, true), some (.pointer _) => bif Nat.blt f 65536 then some f else none
    | _, _, _ => none
  | none => none

/-- the types of a composite's cells, if they lie one behind another -/
def leavesF (rec : TypeId → Option (List LfT)) : List Field → List LfT → Option (List LfT)
  | [], acc => some acc
  | f :: fs, acc => match rec f.type with
    | some l => bif f.name != "_" && Nat.beq f.offset acc.length && Nat.beq l.length (sizeT P f.type) && tyOk P f.type then leavesF rec fs (acc ++ l) else none
    | none => none
def leavesT : Nat → TypeId → Option (List LfT)
  | 0, _ => none
  | d + 1, t => match und P t with
    | .int _ => some [.int]
    | .bool => some [.bool]
    | .string => some [.str]
    | .struct fs => bif P.stoodInHeld t then none else leavesF P (leavesT d) fs.toList []
    | _ => none
def aggT (t : TypeId) : Option (Sum Nat (List LfT)) := match und P t with
  | .struct _ => bif P.eqGuardType P.depth t then none else (leavesT P 8 t).map .inr
  | .array n e => match und P e with
    | .int .u8 => bif P.eqGuardType P.depth t || !(tyOk P e) then none else some (.inl n)
    | _ => none
  | _ => none
def eqD (t : TypeId) : Option EqD := match und P t with
  | .pointer e => (match und P e with | .struct _ => bif Nat.blt 0 (sizeT P e) then some .ptr else none | _ => none)
  | .slice _ => some .slice
  | .map _ _ => some .map
  | .func _ _ _ => some .func
  | .bool => some .bool
  | _ => none
/-- how keys are compared: .map stands for numbers -/
def keyD (t : TypeId) : EqD := match und P t with
  | .int _ => .map
  | .string => .str
  | .bool => .bool
  | _ => .ptr

def evBuiltin (b : Builtin) (argTypes : Array TypeId) (args : List AV) (s : St) (k : AV → St → Out) : Out :=
  match b, args with
  | .append, [x, y] => match und P (argTypes.getD 0 0) with
    | .slice e => match und P (argTypes.getD 1 0) with
      | .int _ => bif elemOk P e then appZK e (sizeT P e) (zeroT P e) s x y k else .err
      | .slice _ => bif elemOk P e then appK e (sizeT P e) s x y k else .err
      | .string => bif elemOk P e then appK e (sizeT P e) s x y k else .err
      | _ => .err
    | _ => .err
  | .copy, [x, y] => match und P (argTypes.getD 0 0) with
    | .slice e => bif elemOk P e then copyK (sizeT P e) s x y k else .err
    | _ => .err
  | .len, [x] => match und P (argTypes.getD 0 0) with
    | .map _ _ => lenMapK s x fun v => k v s
    | .array n _ => k (goInt n) s
    | .slice _ => lenSlK x fun n => k (goInt n) s
    | .string => lenStrK x fun n => k (goInt n) s
    | _ => .err
  | .cap, [x] => match und P (argTypes.getD 0 0) with
    | .slice _ => capK x fun v => k v s
    | _ => .err
  | .min, [x, y] => minK x y fun v => k v s
  | .max, [x, y] => maxK x y fun v => k v s
  | .delete, [m, x] => match und P (argTypes.getD 0 0) with
    | .map kt _ => deleteK (keyD P kt) s m x k
    | _ => .err
  | .clear, [m] => match und P (argTypes.getD 0 0) with
    | .map _ _ => clearK s m k
    | _ => .err
  | _, _ => .err

def evOp (o : Op) (s : St) (env : Env) (k : AV → St → Out) : Out := match o with
  | .move x | .assign x => k (opv P env x) s
  | .pick c a b => pickK (opv P env c) (opv P env a) (opv P env b) fun v => k v s
  | .alloc t => bif isDef (Row.norm (cellsOf (zeroT P t))) then allocK s t (Row.norm (cellsOf (zeroT P t))) k else .err
  | .box t x => boxK s t (sizeT P t) (opv P env x) k
  | .build t ps => match und P t with
    | .struct fs => bif isDef (cellsOf (zeroT P t)) && fs.toList.all (fun f => (P.info? f.type).isSome) && ps.toList.all (fun x => Nat.blt x.1 fs.size) then fillK (cellsOf (zeroT P t)) (ps.toList.map fun x => ((fs.getD x.1 default).offset, sizeT P (fs.getD x.1 default).type, opv P env x.2)) (fun v => k v s) else .err
    | .array _ e => bif isDef (cellsOf (zeroT P t)) && (P.info? e).isSome then fillK (cellsOf (zeroT P t)) (ps.toList.map fun x => (x.1 * sizeT P e, sizeT P e, opv P env x.2)) (fun v => k v s) else .err
    | _ => .err
  | .buildSlice t len ps => match und P t with
    | .slice e => bif elemOk P e && Nat.ble (len * sizeT P e) 16777216 then fillK (zeros (zeroT P e) len) (ps.toList.map fun x => (x.1 * sizeT P e, sizeT P e, opv P env x.2)) fun c => newK s (.row e c) fun i s => k (.slice i 0 len len (sizeT P e) false) s else .err
    | _ => .err
  | .load t a => bif tyOk P t then loadK (tf P t) s (opv P env a) fun v => k v s else .err
  | .store t a x => bif tyOk P t then storeK (tf P t) s (opv P env a) (opv P env x) fun s => k .undef s else .err
  | .nilCheck x => nilK (opv P env x) fun v => k v s
  | .binOp op t x y _ => match und P t with
    | .int _ => binK op (opv P env x) (opv P env y) fun v => k v s
    | .string => match op with
      | .add => addStrK (opv P env x) (opv P env y) fun v => k v s
      | .eql => eqK .str s false (opv P env x) (opv P env y) fun v => k v s
      | .neq => eqK .str s true (opv P env x) (opv P env y) fun v => k v s
      | _ => .err
    | _ => match eqD P t with
      | some d => (match op with
        | .eql => eqK d s false (opv P env x) (opv P env y) fun v => k v s
        | .neq => eqK d s true (opv P env x) (opv P env y) fun v => k v s
        | _ => .err)
      | none => match aggT P t with
        | some l => (match op with
          | .eql => eqAggK l false (opv P env x) (opv P env y) fun v => k v s
          | .neq => eqAggK l true (opv P env x) (opv P env y) fun v => k v s
          | _ => .err)
        | none => .err
  | .unOp op _ x => match op with
    | .not => notK (opv P env x) fun v => k v s
    | .neg => negK (opv P env x) fun v => k v s
    | .xor => invK (opv P env x) fun v => k v s
    | _ => .err
  | .convert src dst x => match und P src, und P dst with
    | .int _, .int j => convK j (opv P env x) fun v => k v s
    | .string, .string => strK (opv P env x) fun v => k v s
    | .string, .slice e => (match und P e with
      | .int .u8 => toBytesK e s (opv P env x) k
      | _ => .err)
    | .slice e, .string => (match und P e with
      | .int .u8 => toStrK s (opv P env x) fun v => k v s
      | _ => .err)
    | _, _ => .err
  | .sliceToArrayPointer t x => match und P t with
    | .array n e => s2apK n (sizeT P e) (opv P env x) fun v => k v s
    | _ => .err
  | .makeInterface t x => match und P t with
    | .pointer _ => k (.iface t (opv P env x)) s
    | _ => .err
  | .makeFunc fn a c => match fn with
    | .func f => k (.func f (a.toList.map (opv P env)) (c.toList.map (opv P env))) s
    | _ => .err
  | .makeMap _ none => newK s (.map .nil 0) fun i s => k (.map i) s
  | .makeSlice t l c => match und P t with
    | .slice e => bif elemOk P e then makeSliceK e (sizeT P e) (zeroT P e) s (opv P env l) (opv P env c) k else .err
    | _ => .err
  | .slice t x lo hi mx => bif mx.isSome && hi.isNone then .err else match und P t with
    | .array n e => bif elemOk P e then sliceArrK n (sizeT P e) (lo.map (opv P env)) (hi.map (opv P env)) (mx.map (opv P env)) (opv P env x) fun v => k v s else .err
    | .slice e => bif elemOk P e then sliceSlK (sizeT P e) (lo.map (opv P env)) (hi.map (opv P env)) (mx.map (opv P env)) (opv P env x) fun v => k v s else .err
    | .string => bif mx.isNone then sliceStrK (lo.map (opv P env)) (hi.map (opv P env)) (opv P env x) (fun v => k v s) else .err
    | _ => .err
  | .fieldAddr t x f => match und P t with
    | .struct fs => match fs[f]? with
      | some f => bif Nat.blt 0 (sizeT P f.type) then fieldK f.offset (opv P env x) fun v => k v s else .err
      | none => .err
    | _ => .err
  | .field t x f => match und P t with
    | .struct fs => match fs[f]? with
      | some f => bif tyOk P f.type then partK (tf P f.type) (opv P env x) f.offset fun v => k v s else .err
      | none => .err
    | _ => .err
  | .indexAddr t x i => match und P t with
    | .array n e => bif elemOk P e then indexArrK n (sizeT P e) (opv P env x) (opv P env i) fun v => k v s else .err
    | .slice e => bif elemOk P e then indexSlK (sizeT P e) (opv P env x) (opv P env i) fun v => k v s else .err
    | _ => .err
  | .index t x i => match und P t with
    | .array n e => bif tyOk P e then indexValK n (tf P e) (opv P env x) (opv P env i) fun v => k v s else .err
    | .string => indexStrK (opv P env x) (opv P env i) fun v => k v s
    | _ => .err
  | .lookup t x i ok => match und P t with
    | .map kt e => bif isDef (zeroT P e) then lookupK (keyD P kt) (zeroT P e) ok s (opv P env x) (opv P env i) fun v => k v s else .err
    | _ => .err
  | .mapUpdate t m i x => match und P t with
    | .map kt _ => updateK (keyD P kt) s (opv P env m) (opv P env i) (opv P env x) fun s => k .undef s
    | _ => .err
  | .range t x => match und P t with
    | .string => rangeStrK s (opv P env x) k
    | .map _ _ => rangeMapK s (opv P env x) k
    | _ => .err
  | .next it true => nextStrK s (opv P env it) k
  | .entry it => entryK s (opv P env it) fun v => k v s
  | .extract t i => extractK (opv P env t) i fun v => k v s
  | .call c => match c.callee with
    | .builtin b => bif Nat.beq c.argTypes.size c.args.size then evBuiltin P b c.argTypes (c.args.toList.map (opv P env)) s k else .err
    | .value (.func f) => bif Nat.blt f 65536 then outK (call f (c.args.toList.map (opv P env)) s) k else .err
    | .value f => callVK call (opv P env f) (c.args.toList.map (opv P env)) s k
    | .invoke r name => invokeK call (meth P name) (opv P env r) (c.args.toList.map (opv P env)) s k
  | _ => .err

def dstK (n : Nat) (d : Option Tmp) (env : Env) (v : AV) (k : Env → Out) : Out := match d with
  | none => k env
  | some t => bif Nat.blt t n then k (env.set t v) else .err
/-- operations are not wanted -/
def undefK (n : Nat) : List Oper → Env → (Env → Out) → Out
  | [], env, k => k env
  | o :: l, env, k => dstK n o.dst env (.tup []) fun env => undefK n l env k
def runK (n : Nat) : List Oper → K → K
  | [], k => k
  | o :: l, k => fun s env => evOp P call o.op s env fun v s => dstK n o.dst env v fun env => runK n l k s env

def guardEq : Option (Nat × Bool) → Option (Nat × Bool) → Bool
  | none, none => true
  | some (i, b), some (j, c) => Nat.beq i j && (b == c)
  | _, _ => false
/-- operations in groups of one guard; with each group the index of what comes behind it -/
def groups : Nat → List Oper → List (Option (Nat × Bool) × List Oper × Nat)
  | _, [] => []
  | i, o :: l => match groups (i + 1) l with
    | (g, ops, j) :: r => if guardEq g o.guard then (g, o :: ops, j) :: r else (o.guard, [o], i + 1) :: (g, ops, j) :: r
    | [] => [(o.guard, [o], i + 1)]
variable (lv : Nat → Nat → Option (List Tmp))
def jn (id i : Nat) (k : K) : K := match lv id i with
  | some L => fun s env => k s (restrict L env)
  | none => fun _ _ => .err
def guardT (ops : Array Oper) (j : Nat) : Option Tmp := match ops[j]? with
  | some o => o.dst
  | none => none
/-- does a group leave its guard's temporary alone? -/
def leaves (t : Tmp) (l : List Oper) : Bool := l.all fun o => match o.dst with | some d => !(Nat.beq d t) | none => true
def evGroups (n id : Nat) (ops : Array Oper) : List (Option (Nat × Bool) × List Oper × Nat) → K → K
  | [], k => k
  | (none, l, _) :: r, k => runK P call n l (evGroups n id ops r k)
  | (some (j, w), l, i) :: r, k => match guardT ops j with
    | some t => bif leaves t l then fun s env => guardK w (env t) (undefK n l env fun env => jn lv id i (evGroups n id ops r k) s env) (runK P call n l (jn lv id i (evGroups n id ops r k)) s env)
      else fun _ _ => .err
    | none => fun _ _ => .err

/-- which operations may change what others see -/
def effect : Op → Bool
  | .call c => (match c.callee with | .builtin b => (match b with | .len | .cap | .min | .max => false | _ => true) | _ => true)
  | .store .. | .mapUpdate .. | .mapEntry .. | .entryStore .. | .next .. | .insert .. | .panic .. => true
  | _ => false
def isLoad : Op → Bool
  | .load .. => true
  | _ => false
/-- what it gives does not hang on the memory -/
def pureOp (o : Op) : Bool := match o with
  | .move _ | .assign _ | .pick .. | .build .. | .nilCheck _ | .unOp .. | .sliceToArrayPointer .. | .makeInterface .. | .makeFunc .. | .slice .. | .fieldAddr .. | .field .. | .indexAddr .. | .index .. | .extract .. => true
  | .binOp _ t _ _ _ => (match und P t with | .int _ => true | _ => false)
  | .convert s d _ => (match und P s, und P d with | .int _, .int _ => true | _, _ => false)
  | .call c => (match c.callee with | .builtin .len => (match und P (c.argTypes.getD 0 0) with | .map _ _ => false | _ => true) | .builtin .cap | .builtin .min | .builtin .max => true | _ => false)
  | _ => false
/-- it looks at the memory -/
def readOp (o : Op) : Bool := match o with
  | .load .. | .lookup .. => true
  | .binOp _ t _ _ _ => (match und P t with | .int _ => false | _ => true)
  | .convert s d _ => (match und P s, und P d with | .slice _, .string => true | _, _ => false)
  | .call c => (match c.callee with | .builtin .len => (match und P (c.argTypes.getD 0 0) with | .map _ _ => true | _ => false) | _ => false)
  | _ => false
/-- it makes a row -/
def newOp (o : Op) : Bool := match o with
  | .alloc _ | .buildSlice .. | .makeSlice .. => true
  | _ => false

def lateOk (o : Op) : Bool := pureOp P o || isLoad o || newOp o
def floatOk (o : Op) : Bool := pureOp P o || readOp P o || newOp o
/-- what is asked of a region whose order is drawn: each operation by itself, and against each other -/
def chk1 (bef : Array Nat) (ops : Array Oper) : Bool := (List.range ops.size).all fun i => match ops[i]? with
  | none => false
  | some o => o.after.all (fun e => !Region.binds .any e || Nat.blt e.on i) && (List.range ops.size).all fun j =>
      (!(bef.getD i 0).testBit j || o.after.any fun e => Region.binds .any e && (Nat.beq e.on j || (bef.getD e.on 0).testBit j)) &&
      (Nat.beq i j || match guardT ops j with
        | none => true
        | some t => (match o.dst with | some d => !(Nat.beq d t) | none => true) && (!((o.looksAt ops).any (Nat.beq t)) || (bef.getD i 0).testBit j || (bef.getD j 0).testBit i))
/-- along the order in which it is run -/
def chk2 (bef : Array Nat) (ops : Array Oper) : List Nat → List Nat → Bool
  | _, [] => true
  | E, i :: R => match ops[i]? with
    | none => false
    | some o => !(E.any (Nat.beq i)) && (List.range ops.size).all (fun j => !(bef.getD i 0).testBit j || E.any (Nat.beq j)) &&
        (match effect o.op with
          | true => R.all fun x => (bef.getD x 0).testBit i
          | false => floatOk P o.op && (lateOk P o.op || R.all fun x => !effect (ops.getD x default).op || (bef.getD x 0).testBit i)) && chk2 bef ops (i :: E) R
def drawOk (bef : Array Nat) (ops : Array Oper) (C : List Nat) : Bool := chk1 bef ops && chk2 P bef ops [] C && (List.range ops.size).all fun i => C.any (Nat.beq i)
def canonGo (bef : Array Nat) (ops : Array Oper) : Nat → Nat → List Nat → List Nat
  | 0, _, acc => acc.reverse
  | f + 1, done, acc =>
    let ready (i : Nat) : Bool := !done.testBit i && (bef.getD i 0) &&& done == bef.getD i 0
    match (List.range ops.size).find? fun i => ready i && !(effect (ops.getD i default).op) with
    | some i => canonGo bef ops f (done ||| 2 ^ i) (i :: acc)
    | none => match (List.range ops.size).find? fun i => ready i with
      | some i => canonGo bef ops f (done ||| 2 ^ i) (i :: acc)
      | none => acc.reverse
def canon (ops : Array Oper) : List Nat := canonGo (Region.before ops) ops ops.size 0 []
def againsK (bef e : Nat) (s : St) (k : Out) : List (Nat × TF × AV × AV) → Out
  | [] => k
  | (i, f, a, v) :: l => bif bef.testBit i then againsK bef e s k l else againK f s a v (againsK bef e s k l)
/-- the canonical order in groups of one guard, each with how many operations lie in it and ahead of it -/
def dgroups (ops : Array Oper) : Nat → List Nat → List (Option (Nat × Bool) × List Nat × Nat)
  | _, [] => []
  | c, i :: l => match dgroups ops (c + 1) l with
    | (g, is, j) :: r => if guardEq g (ops.getD i default).guard then (g, i :: is, j) :: r else ((ops.getD i default).guard, [i], c + 1) :: (g, is, j) :: r
    | [] => [((ops.getD i default).guard, [i], c + 1)]
/-- need no load among these be looked at again behind an effect among those? -/
def settled (bef : Array Nat) (ops : Array Oper) (ls es : List Nat) : Bool := es.all fun e => !(effect (ops.getD e default).op) || ls.all fun l => !(isLoad (ops.getD l default).op) || (bef.getD e 0).testBit l || Nat.beq e l
/-- one group without a guard: each load is looked at again behind each effect that need not come behind it -/
def evFree (n : Nat) (bef : Array Nat) (ops : Array Oper) (k : List (Nat × TF × AV × AV) → K) : List Nat → List (Nat × TF × AV × AV) → K
  | [], fl => k fl
  | i :: l, fl => match ops[i]? with
    | none => fun _ _ => .err
    | some o => fun s env => evOp P call o.op s env fun v s => dstK n o.dst env v fun env' => match effect o.op with
      | true => againsK (bef.getD i 0) i s (evFree n bef ops k l fl s env') fl
      | false => match o.op with
        | .load t a => evFree n bef ops k l ((i, tf P t, opv P env a, v) :: fl) s env'
        | _ => evFree n bef ops k l fl s env'
/-- a region whose order is drawn: floats as early as may be -/
def evDraw (n id : Nat) (bef : Array Nat) (ops : Array Oper) (k : K) : List (Option (Nat × Bool) × List Nat × Nat) → List (Nat × TF × AV × AV) → K
  | [], _ => k
  | (none, l, _) :: r, fl => evFree P call n bef ops (fun fl => evDraw n id bef ops k r fl) l fl
  | (some (j, w), l, c) :: r, fl => match guardT ops j with
    | some t => bif leaves t (l.map fun i => ops.getD i default) && settled bef ops (fl.map (·.1) ++ l) (r.flatMap fun g => g.2.1)
      then fun s env => guardK w (env t) (undefK n (l.map fun i => ops.getD i default) env fun env => jn lv id (1000 + c) (evDraw n id bef ops k r []) s env)
        (evFree P call n bef ops (fun _ => jn lv id (1000 + c) (evDraw n id bef ops k r [])) l fl s env)
      else fun _ _ => .err
    | none => fun _ _ => .err

def firstReg : Code → Option Nat
  | .region id _ _ => some id
  | .seq a b => match firstReg a with
    | some i => some i
    | none => firstReg b
  | .cond _ a b => match firstReg a with
    | some i => some i
    | none => firstReg b
  | .block _ b | .loop b | .scope b => firstReg b
  | .rangeFunc _ _ a b => match firstReg a with
    | some i => some i
    | none => firstReg b
  | _ => none
def plain : Code → Bool
  | .region _ ops _ => ops.all fun o => o.guard.isNone
  | .skip | .label _ => true
  | .seq a b => plain a && plain b
  | _ => false
def upd (ex : Nat → K) (id : Nat) (k : K) : Nat → K := fun i s env => bif Nat.beq i id then k s env else ex i s env
def loopF (F : K → K) : Nat → K
  | 0 => fun _ _ => .err
  | f + 1 => F (loopF F f)
/-- the head of a loop over a map: the iterator's temporary, the tuple's -/
def mapHead (n : Nat) (ops : List Oper) (c : Tmp) : Option (Tmp × Tmp) := match ops with
  | [a, b] => match a.dst, a.op, a.guard, b.dst, b.op, b.guard with
    | some tu, .next (.tmp it) false, none, some c', .extract (.tmp tu') 0, none => if c = c' && tu = tu' && !(it == tu) && !(it == c) && !(tu == c) && Nat.blt c n && Nat.blt tu n then some (it, tu) else none
    | _, _, _, _, _, _ => none
  | _ => none
/-- no range over a function within -/
def noRF : Code → Bool
  | .seq a b => noRF a && noRF b
  | .cond _ a b => noRF a && noRF b
  | .block _ b | .loop b | .scope b => noRF b
  | .rangeFunc .. => false
  | _ => true
variable (fu fid n : Nat)
/-- a loop over a map: the iterator, the tuple, what tells whether there is more, the exit, what comes behind -/
def mapLoop? : Code → Option (Tmp × Tmp × Tmp × Nat × Code)
  | .seq (.region _ ops false) (.seq (.cond (.tmp c) .skip (.exit e)) r) => (mapHead n ops.toList c).map fun x => (x.1, x.2, c, e, r)
  | .seq (.seq (.region _ ops false) (.cond (.tmp c) .skip (.exit e))) r => (mapHead n ops.toList c).map fun x => (x.1, x.2, c, e, r)
  | _ => none
def ev : Nat → Code → (Nat → K) → K → K → K
  | 0, _, _, _, _ => fun _ _ => .err
  | d + 1, c, ex, rt, nx => match c with
    | .skip | .label _ => nx
    | .region id ops draw => (match draw with
      | true => bif drawOk P (Region.before ops) ops (canon ops) then evDraw P call lv n id (Region.before ops) ops nx (dgroups ops 0 (canon ops)) [] else fun _ _ => .err
      | false => evGroups P call lv n id ops (groups 0 ops.toList) nx)
    | .seq a b => (match plain a with
      | true => ev d a ex rt (ev d b ex rt nx)
      | false => match firstReg b with
        | some id => ev d a ex rt (jn lv id 0 (ev d b ex rt nx))
        | none => ev d a ex rt (ev d b ex rt nx))
    | .cond c a b => fun s env => condK (opv P env c) (ev d a ex rt nx s env) (ev d b ex rt nx s env)
    | .block id b => ev d b (upd ex id nx) rt nx
    | .loop b => (match firstReg b with
      | some id => (match mapLoop? n b with
        | some (it, tu, c, e, r) => (match lv id 0 with
          | some L => bif noRF r then fun s env => rangeMapLoopK s (restrict L env it) (L.map env) (fun s' => ev d r (fun _ _ _ => .err) (fun _ _ => .err) (fun s env => .ret (.tup (L.map env)) s) s' (((restrict L env).set tu .undef).set c (.bool true)))
              (fun s => jn lv id 1 (ex e) s (((restrict L env).set tu .undef).set c .undef)) else fun _ _ => .err
          | none => fun _ _ => .err)
        | none => jn lv id 0 (loopF (fun ih => ev d b ex rt (jn lv id 0 ih)) fu))
      | none => fun _ _ => .err)
    | .scope b => ev d b ex rt nx
    | .exit id => ex id
    | .ret => rt
    | .rangeFunc f _ a b => (match firstReg (.seq a b) with
      | some id => (match lv id 0 with
        | some L => fun s env => newK s (.loop fid id .ready (L.map env) .no) fun l s => rangeK call (opv P env f) l s fun j s => jumpK j (nx s env) (rt s env) (fun i => ex i s env)
        | none => fun _ _ => .err)
      | none => fun _ _ => .err)
    | _ => fun _ _ => .err

def resK (s : St) (env : Env) (k : List AV → Out) : List ResultVar → Out
  | [] => k []
  | .tmp t :: l => resK s env (fun r => k (env t :: r)) l
  | .cell a t :: l => bif tyOk P t then loadK (tf P t) s (env a) fun v => resK s env (fun r => k (v :: r)) l else .err
def retK (rs : List ResultVar) : K := fun s env => resK P s env (fun l => match l with
  | [v] => .ret v s
  | l => .ret (.tup l) s) rs
end
/-- the arguments, as temporaries -/
def argEnv (n : Nat) (args : List AV) : Env := fun t => bif Nat.blt t n then nthL args t else .undef
/-- the body of a range over a function -/
def findRF (key : Nat) : Code → Option (Array Tmp × Code × Code)
  | .seq a b => match findRF key a with
    | some r => some r
    | none => findRF key b
  | .cond _ a b => match findRF key a with
    | some r => some r
    | none => findRF key b
  | .block _ b | .loop b | .scope b => findRF key b
  | .rangeFunc _ ps a b => match firstReg (.seq a b) with
    | some id => if id = key then some (ps, a, b) else match findRF key a with
      | some r => some r
      | none => findRF key b
    | none => none
  | _ => none
/-- the keys of the ranges over functions -/
def keysRF : Code → List Nat
  | .seq a b => keysRF a ++ keysRF b
  | .cond _ a b => keysRF a ++ keysRF b
  | .block _ b | .loop b | .scope b => keysRF b
  | .rangeFunc _ _ a b => match firstReg (.seq a b) with
    | some id => id :: (keysRF a ++ keysRF b)
    | none => []
  | _ => []
def nodupN : List Nat → Bool
  | [] => true
  | x :: l => !(l.any (Nat.beq x)) && nodupN l
/-- a function's run -/
def fnA (P : Program) (lv : Nat → Nat → Nat → Option (List Tmp)) (f : FuncId) (fn : Func) (c : Code) (call : Call) (fu : Nat) (args : List AV) (s : St) : Out :=
  bif Nat.ble (fn.params.size + fn.nfree) fn.ntmps && nodupN (keysRF c) && Nat.beq (lenL args) (fn.params.size + fn.nfree)
  then ev P call (lv f) fu f fn.ntmps 10000 c (fun _ _ _ => .err) (retK P fn.results.toList) (retK P fn.results.toList) s (argEnv (fn.params.size + fn.nfree) args) else .err
def setN : List Tmp → Nat → List AV → Env → Env
  | [], _, _, e => e
  | t :: l, i, r, e => setN l (i + 1) r (e.set t (nthL r i))
def mkN : List Tmp → Nat → List AV → Env
  | [], _, _ => fun _ => .undef
  | t :: l, i, r => (mkN l (i + 1) r).set t (nthL r i)
/-- a round's run: the arguments are yield's own address, what it is handed, what was caught -/
def rndA (P : Program) (lv : Nat → Nat → Nat → Option (List Tmp)) (f key : Nat) (fn : Func) (ps : Array Tmp) (a b : Code) (call : Call) (fu : Nat) (args : List AV) (s : St) : Out :=
  match lv f key 0 with
  | some L => match args with
    | .yield l :: r => bif noRF a && noRF b && ps.all (fun t => Nat.blt t fn.ntmps) && Nat.beq (lenL r) (ps.size + L.length)
      then ev P call (lv f) fu f fn.ntmps 10000 a (fun _ _ _ => .err) (fun _ _ => .err)
        (fun s env => beginK s l fun s => ev P call (lv f) fu f fn.ntmps 10000 b (fun i s _ => endK s l (.exit i)) (fun s _ => endK s l .ret) (fun s _ => endK s l .no) s env) s
        (setN ps.toList 0 r (mkN L ps.size r)) else .err
    | _ => .err
  | none => .err
end
end Go.Ev
