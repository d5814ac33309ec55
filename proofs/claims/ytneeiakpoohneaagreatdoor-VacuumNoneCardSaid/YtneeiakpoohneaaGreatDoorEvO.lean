/- The evaluator cut into pieces: what a piece is said to be, and what is to be shown of it. -/
import Derived.Test.YtneeiakpoohneaaGreatDoorEvF
set_option linter.all false
set_option linter.unusedSimpArgs false
set_option linter.unusedVariables false
namespace Go.Ev
noncomputable section

abbrev IH := St → List AV → Out
/-- the pieces of a function's text: at the cuts (behind the rounds around), a loop's round, a loop by fuel, a round over a map -/
structure Orc where
  cut : List IH → Nat → Nat → IH
  lb : List IH → Nat → IH → IH
  lp : List IH → Nat → Nat → IH
  mp : Nat → List AV → St → Out
def nthI : List IH → Nat → IH
  | [], _ => fun _ _ => .err
  | h :: t, i => match i with | 0 => h | i + 1 => nthI t i

/- the same steps, with choices that give way at once -/
abbrev gd (c : Bool) (k : Out) : Out := Bool.rec (motive := fun _ => Out) .err k c
abbrev gdK (c : Bool) (k : K) : K := Bool.rec (motive := fun _ => K) (fun _ _ => .err) k c
theorem gd_eq (c : Bool) (k : Out) : gd c k = bif c then k else .err := by cases c <;> rfl
theorem gdK_eq (c : Bool) (k : K) : gdK c k = bif c then k else fun _ _ => .err := by cases c <;> rfl
abbrev ch (c : Bool) (a b : Out) : Out := Bool.rec (motive := fun _ => Out) b a c
abbrev updH (ex : Nat → K) (id : Nat) (k : K) : Nat → K := fun i s env => Bool.rec (motive := fun _ => Out) (ex i s env) (k s env) (Nat.beq i id)
theorem updH_eq (ex : Nat → K) (id : Nat) (k : K) : updH ex id k = upd ex id k := by
  funext i s env
  unfold upd
  show Bool.rec (motive := fun _ => Out) (ex i s env) (k s env) (Nat.beq i id) = _
  cases Nat.beq i id <;> rfl
section
variable (P : Program) (call : Call)
def evBuiltinH (b : Builtin) (argTypes : Array TypeId) (args : List AV) (s : St) (k : AV → St → Out) : Out :=
  match b, args with
  | .append, [x, y] => match und P (argTypes.getD 0 0) with
    | .slice e => match und P (argTypes.getD 1 0) with
      | .int _ => gd (elemOk P e) (appZK e (sizeT P e) (zeroT P e) s x y k)
      | .slice _ => gd (elemOk P e) (appK e (sizeT P e) s x y k)
      | .string => gd (elemOk P e) (appK e (sizeT P e) s x y k)
      | _ => .err
    | _ => .err
  | .copy, [x, y] => match und P (argTypes.getD 0 0) with
    | .slice e => gd (elemOk P e) (copyK (sizeT P e) s x y k)
    | _ => .err
  | .len, [x] => match und P (argTypes.getD 0 0) with
    | .map _ _ => lenMapK s x fun v => k v s
    | .array n _ => k (goInt n) s
    | .slice _ => lenSlK x fun n => k (goInt n) s
    | .string => lenStrK x fun n => k (goInt n) s
    | _ => .err
  | .cap, [x] => match und P (argTypes.getD 0 0) with
    | .slice _ => capK x fun v => k v s
    | _ => .err
  | .min, [x, y] => minK x y fun v => k v s
  | .max, [x, y] => maxK x y fun v => k v s
  | .delete, [m, x] => match und P (argTypes.getD 0 0) with
    | .map kt _ => deleteK (keyD P kt) s m x k
    | _ => .err
  | .clear, [m] => match und P (argTypes.getD 0 0) with
    | .map _ _ => clearK s m k
    | _ => .err
  | _, _ => .err

def evOpH (o : Op) (s : St) (env : Env) (k : AV → St → Out) : Out := match o with
  | .move x | .assign x => k (opv P env x) s
  | .pick c a b => pickK (opv P env c) (opv P env a) (opv P env b) fun v => k v s
  | .alloc t => gd (isDef (Row.norm (cellsOf (zeroT P t)))) (allocK s t (Row.norm (cellsOf (zeroT P t))) k)
  | .box t x => boxK s t (sizeT P t) (opv P env x) k
  | .build t ps => match und P t with
    | .struct fs => gd (isDef (cellsOf (zeroT P t)) && fs.toList.all (fun f => (P.info? f.type).isSome) && ps.toList.all (fun x => Nat.blt x.1 fs.size)) (fillK (cellsOf (zeroT P t)) (ps.toList.map fun x => ((fs.getD x.1 default).offset, sizeT P (fs.getD x.1 default).type, opv P env x.2)) (fun v => k v s))
    | .array _ e => gd (isDef (cellsOf (zeroT P t)) && (P.info? e).isSome) (fillK (cellsOf (zeroT P t)) (ps.toList.map fun x => (x.1 * sizeT P e, sizeT P e, opv P env x.2)) (fun v => k v s))
    | _ => .err
  | .buildSlice t len ps => match und P t with
    | .slice e => gd (elemOk P e && Nat.ble (len * sizeT P e) 16777216) (fillK (zeros (zeroT P e) len) (ps.toList.map fun x => (x.1 * sizeT P e, sizeT P e, opv P env x.2)) fun c => newK s (.row e c) fun i s => k (.slice i 0 len len (sizeT P e) false) s)
    | _ => .err
  | .load t a => gd (tyOk P t) (loadK (tf P t) s (opv P env a) fun v => k v s)
  | .store t a x => gd (tyOk P t) (storeK (tf P t) s (opv P env a) (opv P env x) fun s => k .undef s)
  | .nilCheck x => nilK (opv P env x) fun v => k v s
  | .binOp op t x y _ => match und P t with
    | .int _ => binK op (opv P env x) (opv P env y) fun v => k v s
    | .string => match op with
      | .add => addStrK (opv P env x) (opv P env y) fun v => k v s
      | .eql => eqK .str s false (opv P env x) (opv P env y) fun v => k v s
      | .neq => eqK .str s true (opv P env x) (opv P env y) fun v => k v s
      | _ => .err
    | _ => match eqD P t with
      | some d => (match op with
        | .eql => eqK d s false (opv P env x) (opv P env y) fun v => k v s
        | .neq => eqK d s true (opv P env x) (opv P env y) fun v => k v s
        | _ => .err)
      | none => match aggT P t with
        | some l => (match op with
          | .eql => eqAggK l false (opv P env x) (opv P env y) fun v => k v s
          | .neq => eqAggK l true (opv P env x) (opv P env y) fun v => k v s
          | _ => .err)
        | none => .err
  | .unOp op _ x => match op with
    | .not => notK (opv P env x) fun v => k v s
    | .neg => negK (opv P env x) fun v => k v s
    | .xor => invK (opv P env x) fun v => k v s
    | _ => .err
  | .convert src dst x => match und P src, und P dst with
    | .int _, .int j => convK j (opv P env x) fun v => k v s
    | .string, .string => strK (opv P env x) fun v => k v s
    | .string, .slice e => (match und P e with
      | .int .u8 => toBytesK e s (opv P env x) k
      | _ => .err)
    | .slice e, .string => (match und P e with
      | .int .u8 => toStrK s (opv P env x) fun v => k v s
      | _ => .err)
    | _, _ => .err
  | .sliceToArrayPointer t x => match und P t with
    | .array n e => s2apK n (sizeT P e) (opv P env x) fun v => k v s
    | _ => .err
  | .makeInterface t x => match und P t with
    | .pointer _ => k (.iface t (opv P env x)) s
    | _ => .err
  | .makeFunc fn a c => match fn with
    | .func f => k (.func f (a.toList.map (opv P env)) (c.toList.map (opv P env))) s
    | _ => .err
  | .makeMap _ none => newK s (.map .nil 0) fun i s => k (.map i) s
  | .makeSlice t l c => match und P t with
    | .slice e => gd (elemOk P e) (makeSliceK e (sizeT P e) (zeroT P e) s (opv P env l) (opv P env c) k)
    | _ => .err
  | .slice t x lo hi mx => match mx.isSome && hi.isNone with
   | true => .err
   | false => match und P t with
    | .array n e => gd (elemOk P e) (sliceArrK n (sizeT P e) (lo.map (opv P env)) (hi.map (opv P env)) (mx.map (opv P env)) (opv P env x) fun v => k v s)
    | .slice e => gd (elemOk P e) (sliceSlK (sizeT P e) (lo.map (opv P env)) (hi.map (opv P env)) (mx.map (opv P env)) (opv P env x) fun v => k v s)
    | .string => gd (mx.isNone) (sliceStrK (lo.map (opv P env)) (hi.map (opv P env)) (opv P env x) (fun v => k v s))
    | _ => .err
  | .fieldAddr t x f => match und P t with
    | .struct fs => match fs[f]? with
      | some f => gd (Nat.blt 0 (sizeT P f.type)) (fieldK f.offset (opv P env x) fun v => k v s)
      | none => .err
    | _ => .err
  | .field t x f => match und P t with
    | .struct fs => match fs[f]? with
      | some f => gd (tyOk P f.type) (partK (tf P f.type) (opv P env x) f.offset fun v => k v s)
      | none => .err
    | _ => .err
  | .indexAddr t x i => match und P t with
    | .array n e => gd (elemOk P e) (indexArrK n (sizeT P e) (opv P env x) (opv P env i) fun v => k v s)
    | .slice e => gd (elemOk P e) (indexSlK (sizeT P e) (opv P env x) (opv P env i) fun v => k v s)
    | _ => .err
  | .index t x i => match und P t with
    | .array n e => gd (tyOk P e) (indexValK n (tf P e) (opv P env x) (opv P env i) fun v => k v s)
    | .string => indexStrK (opv P env x) (opv P env i) fun v => k v s
    | _ => .err
  | .lookup t x i ok => match und P t with
    | .map kt e => gd (isDef (zeroT P e)) (lookupK (keyD P kt) (zeroT P e) ok s (opv P env x) (opv P env i) fun v => k v s)
    | _ => .err
  | .mapUpdate t m i x => match und P t with
    | .map kt _ => updateK (keyD P kt) s (opv P env m) (opv P env i) (opv P env x) fun s => k .undef s
    | _ => .err
  | .range t x => match und P t with
    | .string => rangeStrK s (opv P env x) k
    | .map _ _ => rangeMapK s (opv P env x) k
    | _ => .err
  | .next it true => nextStrK s (opv P env it) k
  | .entry it => entryK s (opv P env it) fun v => k v s
  | .extract t i => extractK (opv P env t) i fun v => k v s
  | .call c => match c.callee with
    | .builtin b => gd (Nat.beq c.argTypes.size c.args.size) (evBuiltinH P b c.argTypes (c.args.toList.map (opv P env)) s k)
    | .value (.func f) => gd (Nat.blt f 65536) (outK (call f (c.args.toList.map (opv P env)) s) k)
    | .value f => callVK call (opv P env f) (c.args.toList.map (opv P env)) s k
    | .invoke r name => invokeK call (meth P name) (opv P env r) (c.args.toList.map (opv P env)) s k
  | _ => .err

abbrev dstH (n : Nat) (d : Option Tmp) (env : Env) (v : AV) (k : Env → Out) : Out := match d with
  | none => k env
  | some t => gd (Nat.blt t n) (k (env.set t v))
def undefH (n : Nat) : List Oper → Env → (Env → Out) → Out
  | [], env, k => k env
  | o :: l, env, k => dstH n o.dst env (.tup []) fun env => undefH n l env k
def runH (n : Nat) : List Oper → K → K
  | [], k => k
  | o :: l, k => fun s env => evOpH P call o.op s env fun v s => dstH n o.dst env v fun env => runH n l k s env
def againsH (bef e : Nat) (s : St) (k : Out) : List (Nat × TF × AV × AV) → Out
  | [] => k
  | (i, f, a, v) :: l => Bool.rec (motive := fun _ => Out) (againK f s a v (againsH bef e s k l)) (againsH bef e s k l) (bef.testBit i)
def evFreeH (n : Nat) (bef : Array Nat) (ops : Array Oper) (k : List (Nat × TF × AV × AV) → K) : List Nat → List (Nat × TF × AV × AV) → K
  | [], fl => k fl
  | i :: l, fl => match ops[i]? with
    | none => fun _ _ => .err
    | some o => fun s env => evOpH P call o.op s env fun v s => dstH n o.dst env v fun env' => match effect o.op with
      | true => againsH (bef.getD i 0) i s (evFreeH n bef ops k l fl s env') fl
      | false => match o.op with
        | .load t a => evFreeH n bef ops k l ((i, tf P t, opv P env a, v) :: fl) s env'
        | _ => evFreeH n bef ops k l fl s env'
def resH (s : St) (env : Env) (k : List AV → Out) : List ResultVar → Out
  | [] => k []
  | .tmp t :: l => resH s env (fun r => k (env t :: r)) l
  | .cell a t :: l => gd (tyOk P t) (loadK (tf P t) s (env a) fun v => resH s env (fun r => k (v :: r)) l)
def retH (rs : List ResultVar) : K := fun s env => resH P s env (fun l => match l with
  | [v] => .ret v s
  | l => .ret (.tup l) s) rs
end
section
variable {P : Program} {call : Call}
theorem evBuiltinH_eq (b : Builtin) (ts : Array TypeId) (args : List AV) (s : St) (k : AV → St → Out) : evBuiltinH P b ts args s k = evBuiltin P b ts args s k := by
  unfold evBuiltinH evBuiltin
  simp only [gd_eq]
  rfl
theorem evOpH_eq (o : Op) (s : St) (env : Env) (k : AV → St → Out) : evOpH P call o s env k = evOp P call o s env k := by
  unfold evOpH evOp
  simp only [gd_eq, evBuiltinH_eq]
  cases o <;> rfl
theorem dstH_eq (n : Nat) (d : Option Tmp) (env : Env) (v : AV) (k : Env → Out) : dstH n d env v k = dstK n d env v k := by
  cases d with
  | none => rfl
  | some t => exact gd_eq _ _
theorem undefH_eq (n : Nat) : ∀ (l : List Oper) (env : Env) (k : Env → Out), undefH n l env k = undefK n l env k
  | [], _, _ => rfl
  | o :: l, env, k => by
    simp only [undefH, undefK, dstH_eq, undefH_eq n l]
theorem runH_eq (n : Nat) : ∀ (l : List Oper) (k : K), runH P call n l k = runK P call n l k
  | [], _ => rfl
  | o :: l, k => by
    simp only [runH, runK, evOpH_eq, dstH_eq, runH_eq n l]
theorem againsH_eq (bef e : Nat) (s : St) (k : Out) : ∀ l, againsH bef e s k l = againsK bef e s k l
  | [] => rfl
  | (i, f, a, v) :: l => by
    simp only [againsH, againsK, againsH_eq bef e s k l]
    cases bef.testBit i <;> rfl
theorem evFreeH_eq (n : Nat) (bef : Array Nat) (ops : Array Oper) (k : List (Nat × TF × AV × AV) → K) : ∀ (l : List Nat) fl, evFreeH P call n bef ops k l fl = evFree P call n bef ops k l fl
  | [], _ => rfl
  | i :: l, fl => by
    simp only [evFreeH, evFree, evOpH_eq, dstH_eq, againsH_eq, evFreeH_eq n bef ops k l]
    rfl
theorem resH_eq (s : St) (env : Env) : ∀ (l : List ResultVar) (k : List AV → Out), resH P s env k l = resK P s env k l
  | [], _ => rfl
  | .tmp t :: l, k => by simp only [resH, resK, resH_eq s env l]
  | .cell a t :: l, k => by simp only [resH, resK, resH_eq s env l, gd_eq]
theorem retH_eq (rs : List ResultVar) : retH P rs = retK P rs := by
  unfold retH retK
  funext s env
  rw [resH_eq]
  rfl
end

section
variable (P : Program) (call : Call) (lf : Nat → Nat → Option (List Tmp)) (fu fid n : Nat) (O : Orc)

abbrev cutH (st : List IH) (id i : Nat) : K := match lf id i with
  | some L => fun s env => O.cut st id i s (L.map env)
  | none => fun _ _ => .err
def evGroupsH (st : List IH) (id : Nat) (ops : Array Oper) : List (Option (Nat × Bool) × List Oper × Nat) → K → K
  | [], k => k
  | (none, l, _) :: r, k => runH P call n l (evGroupsH st id ops r k)
  | (some (j, w), l, i) :: r, k => match guardT ops j with
    | some t => gdK (leaves t l) fun s env => guardK w (env t) (undefH n l env fun env => cutH lf O st id i s env) (runH P call n l (cutH lf O st id i) s env)
    | none => fun _ _ => .err
def oblG (st : List IH) (id : Nat) (ops : Array Oper) : List (Option (Nat × Bool) × List Oper × Nat) → K → List (K × K)
  | [], _ => []
  | (none, _, _) :: r, k => oblG st id ops r k
  | (some _, _, i) :: r, k => (cutH lf O st id i, jn lf id i (evGroupsH P call lf n O st id ops r k)) :: oblG st id ops r k
def evDrawH (st : List IH) (id : Nat) (bef : Array Nat) (ops : Array Oper) (k : K) : List (Option (Nat × Bool) × List Nat × Nat) → List (Nat × TF × AV × AV) → K
  | [], _ => k
  | (none, l, _) :: r, fl => evFreeH P call n bef ops (fun fl => evDrawH st id bef ops k r fl) l fl
  | (some (j, w), l, c) :: r, fl => match guardT ops j with
    | some t => gdK (leaves t (l.map fun i => ops.getD i default) && settled bef ops (fl.map (·.1) ++ l) (r.flatMap fun g => g.2.1)) fun s env => guardK w (env t) (undefH n (l.map fun i => ops.getD i default) env fun env => cutH lf O st id (1000 + c) s env)
        (evFreeH P call n bef ops (fun _ => cutH lf O st id (1000 + c)) l fl s env)
    | none => fun _ _ => .err
def oblD (st : List IH) (id : Nat) (bef : Array Nat) (ops : Array Oper) (k : K) : List (Option (Nat × Bool) × List Nat × Nat) → List (K × K)
  | [] => []
  | (none, _, _) :: r => oblD st id bef ops k r
  | (some _, _, c) :: r => (cutH lf O st id (1000 + c), jn lf id (1000 + c) (evDrawH P call lf n O st id bef ops k r [])) :: oblD st id bef ops k r
def evH (st : List IH) : Nat → Code → (Nat → K) → K → K → K
  | 0, _, _, _, _ => fun _ _ => .err
  | d + 1, c, ex, rt, nx => match c with
    | .skip | .label _ => nx
    | .region id ops draw => (match draw with
      | true => gdK (drawOk P (Region.before ops) ops (canon ops)) (evDrawH P call lf n O st id (Region.before ops) ops nx (dgroups ops 0 (canon ops)) [])
      | false => evGroupsH P call lf n O st id ops (groups 0 ops.toList) nx)
    | .seq a b => (match plain a with
      | true => evH st d a ex rt (evH st d b ex rt nx)
      | false => match firstReg b with
        | some id => evH st d a ex rt (cutH lf O st id 0)
        | none => evH st d a ex rt (evH st d b ex rt nx))
    | .cond c a b => fun s env => condK (opv P env c) (evH st d a ex rt nx s env) (evH st d b ex rt nx s env)
    | .block id b => evH st d b (updH ex id nx) rt nx
    | .loop b => (match firstReg b with
      | some id => (match mapLoop? n b with
        | some (it, tu, c, e, r) => (match lf id 0 with
          | some L => gdK (noRF r) fun s env => rangeMapLoopK s (restrict L env it) (L.map env) (fun s' => O.mp id (L.map env) s')
              (fun s => cutH lf O st id 1 s (((restrict L env).set tu .undef).set c .undef))
          | none => fun _ _ => .err)
        | none => (match lf id 0 with
          | some L => fun s env => O.lp st id fu s (L.map env)
          | none => fun _ _ => .err))
      | none => fun _ _ => .err)
    | .scope b => evH st d b ex rt nx
    | .exit id => ex id
    | .ret => rt
    | .rangeFunc f _ a b => (match firstReg (.seq a b) with
      | some id => (match lf id 0 with
        | some L => fun s env => newK s (.loop fid id .ready (L.map env) .no) fun l s => rangeK call (opv P env f) l s fun j s => jumpK j (nx s env) (rt s env) (fun i => ex i s env)
        | none => fun _ _ => .err)
      | none => fun _ _ => .err)
    | _ => fun _ _ => .err
def obl (m : Nat) : Nat → (Nat → IH) → List IH → Code → (Nat → K) → K → K → List (K × K)
  | 0, _, _, _, _, _, _ => []
  | d + 1, ρ, st, c, ex, rt, nx => match c with
    | .region id ops draw => (match draw with
      | true => oblD P call lf n O st id (Region.before ops) ops nx (dgroups ops 0 (canon ops))
      | false => oblG P call lf n O st id ops (groups 0 ops.toList) nx)
    | .seq a b => (match plain a with
      | true => obl m d ρ st a ex rt (evH P call lf fu fid n O st d b ex rt nx) ++ obl m d ρ st b ex rt nx
      | false => match firstReg b with
        | some id => (cutH lf O st id 0, jn lf id 0 (evH P call lf fu fid n O st d b ex rt nx)) :: (obl m d ρ st a ex rt (cutH lf O st id 0) ++ obl m d ρ st b ex rt nx)
        | none => obl m d ρ st a ex rt (evH P call lf fu fid n O st d b ex rt nx) ++ obl m d ρ st b ex rt nx)
    | .cond _ a b => obl m d ρ st a ex rt nx ++ obl m d ρ st b ex rt nx
    | .block id b => obl m d ρ st b (updH ex id nx) rt nx
    | .scope b => obl m d ρ st b ex rt nx
    | .loop b => (match firstReg b with
      | some id => (match mapLoop? n b with
        | some (it, tu, c, e, r) => (match lf id 0 with
          | some L => ((fun s env => O.mp id (L.map env) s), (fun s env => evH P call lf fu fid n O [] d r (fun _ _ _ => .err) (fun _ _ => .err) (fun s env => .ret (.tup (L.map env)) s) s (((restrict L env).set tu .undef).set c (.bool true)))) ::
              (cutH lf O st id 1, jn lf id 1 (ex e)) :: obl m d ρ [] r (fun _ _ _ => .err) (fun _ _ => .err) (fun s env => .ret (.tup (L.map env)) s)
          | none => [])
        | none => (match lf id 0 with
          | some L => ((fun s env => O.lp st id 0 s (L.map env)), (fun _ _ => .err)) :: ((fun s env => O.lp st id (Nat.succ m) s (L.map env)), (fun s env => O.lb st id (O.lp st id m) s (L.map env))) ::
              ((fun s env => O.lb st id (ρ 0) s (L.map env)), (fun s env => evH P call lf fu fid n O (ρ 0 :: st) d b ex rt (fun s env => ρ 0 s (L.map env)) s (restrict L env))) ::
              obl m d (fun j => ρ (Nat.succ j)) (ρ 0 :: st) b ex rt (fun s env => ρ 0 s (L.map env))
          | none => []))
      | none => [])
    | _ => []
end

section
variable {P : Program} {call : Call} {lf : Nat → Nat → Option (List Tmp)} {fu fid n : Nat} {O : Orc}
def Eqs (l : List (K × K)) : Prop := ∀ p ∈ l, p.1 = p.2
theorem Eqs.cons {p : K × K} {l : List (K × K)} (h : Eqs (p :: l)) : p.1 = p.2 ∧ Eqs l := ⟨h p (List.mem_cons_self ..), fun q hq => h q (List.mem_cons_of_mem _ hq)⟩
theorem Eqs.app {l m : List (K × K)} (h : Eqs (l ++ m)) : Eqs l ∧ Eqs m := ⟨fun q hq => h q (List.mem_append_left _ hq), fun q hq => h q (List.mem_append_right _ hq)⟩
theorem Eqs.of {l : List (K × K)} (h : l.map Prod.fst = l.map Prod.snd) : Eqs l := by
  induction l with
  | nil => intro p hp; cases hp
  | cons x l ih =>
    simp only [List.map_cons, List.cons.injEq] at h
    intro p hp
    rcases List.mem_cons.1 hp with rfl | hp
    · exact h.1
    · exact ih h.2 p hp

theorem evGroupsH_eq {st : List IH} {id : Nat} {ops : Array Oper} {k : K} : ∀ {gs : List (Option (Nat × Bool) × List Oper × Nat)}, Eqs (oblG P call lf n O st id ops gs k) → evGroupsH P call lf n O st id ops gs k = evGroups P call lf n id ops gs k
  | [], _ => rfl
  | (none, l, _) :: r, h => by
    simp only [evGroupsH, evGroups]
    rw [evGroupsH_eq (gs := r) h, runH_eq]
  | (some (j, w), l, i) :: r, h => by
    obtain ⟨h1, h2⟩ := h.cons
    simp only at h1
    rw [evGroupsH_eq h2] at h1
    simp only [evGroupsH, evGroups, gdK_eq, undefH_eq, runH_eq]
    rw [h1]
    rfl
theorem evDrawH_eq {st : List IH} {id : Nat} {bef : Array Nat} {ops : Array Oper} {k : K} : ∀ {gs : List (Option (Nat × Bool) × List Nat × Nat)}, Eqs (oblD P call lf n O st id bef ops k gs) → ∀ fl, evDrawH P call lf n O st id bef ops k gs fl = evDraw P call lf n id bef ops k gs fl
  | [], _, _ => rfl
  | (none, l, _) :: r, h, fl => by
    simp only [evDrawH, evDraw, evFreeH_eq]
    congr 1
    funext fl
    exact evDrawH_eq (gs := r) h fl
  | (some (j, w), l, i) :: r, h, fl => by
    obtain ⟨h1, h2⟩ := h.cons
    simp only at h1
    rw [evDrawH_eq h2 []] at h1
    simp only [evDrawH, evDraw, gdK_eq, undefH_eq, evFreeH_eq]
    rw [h1]
    rfl

theorem jn_some {id i : Nat} {L : List Tmp} (h : lf id i = some L) (k : K) : jn lf id i k = fun s env => k s (restrict L env) := by unfold Ev.jn; rw [h]
theorem jn_none {id i : Nat} (h : lf id i = none) (k : K) : jn lf id i k = fun _ _ => .err := by unfold Ev.jn; rw [h]
theorem evH_eq : ∀ (d : Nat) (c : Code) (st : List IH) (ex : Nat → K) (rt nx : K), (∀ m ρ, Eqs (obl P call lf fu fid n O m d ρ st c ex rt nx)) → evH P call lf fu fid n O st d c ex rt nx = ev P call lf fu fid n d c ex rt nx
  | 0, _, _, _, _, _, _ => rfl
  | d + 1, .skip, st, ex, rt, nx, h => rfl
  | d + 1, .label _, st, ex, rt, nx, h => rfl
  | d + 1, .region id ops draw, st, ex, rt, nx, h => by
    cases draw with
    | true =>
      show gdK (drawOk P (Region.before ops) ops (canon ops)) (evDrawH P call lf n O st id (Region.before ops) ops nx (dgroups ops 0 (canon ops)) []) = (bif drawOk P (Region.before ops) ops (canon ops) then evDraw P call lf n id (Region.before ops) ops nx (dgroups ops 0 (canon ops)) [] else fun _ _ => .err)
      rw [evDrawH_eq (h 0 fun _ _ _ => .err), gdK_eq]
    | false => exact evGroupsH_eq (h 0 fun _ _ _ => .err)
  | d + 1, .seq a b, st, ex, rt, nx, h => by
    have e1 : evH P call lf fu fid n O st (d + 1) (.seq a b) ex rt nx = (match plain a with
      | true => evH P call lf fu fid n O st d a ex rt (evH P call lf fu fid n O st d b ex rt nx)
      | false => match firstReg b with
        | some id => evH P call lf fu fid n O st d a ex rt (cutH lf O st id 0)
        | none => evH P call lf fu fid n O st d a ex rt (evH P call lf fu fid n O st d b ex rt nx)) := rfl
    have e2 : ∀ m ρ, obl P call lf fu fid n O m (d + 1) ρ st (.seq a b) ex rt nx = (match plain a with
      | true => obl P call lf fu fid n O m d ρ st a ex rt (evH P call lf fu fid n O st d b ex rt nx) ++ obl P call lf fu fid n O m d ρ st b ex rt nx
      | false => match firstReg b with
        | some id => (cutH lf O st id 0, jn lf id 0 (evH P call lf fu fid n O st d b ex rt nx)) :: (obl P call lf fu fid n O m d ρ st a ex rt (cutH lf O st id 0) ++ obl P call lf fu fid n O m d ρ st b ex rt nx)
        | none => obl P call lf fu fid n O m d ρ st a ex rt (evH P call lf fu fid n O st d b ex rt nx) ++ obl P call lf fu fid n O m d ρ st b ex rt nx) := fun _ _ => rfl
    have hb : Eqs (obl P call lf fu fid n O 0 (d + 1) (fun _ _ _ => .err) st (.seq a b) ex rt nx) → True := fun _ => trivial
    rw [e1, ev_seq]
    have h' : ∀ m ρ, Eqs (match plain a with
      | true => obl P call lf fu fid n O m d ρ st a ex rt (evH P call lf fu fid n O st d b ex rt nx) ++ obl P call lf fu fid n O m d ρ st b ex rt nx
      | false => match firstReg b with
        | some id => (cutH lf O st id 0, jn lf id 0 (evH P call lf fu fid n O st d b ex rt nx)) :: (obl P call lf fu fid n O m d ρ st a ex rt (cutH lf O st id 0) ++ obl P call lf fu fid n O m d ρ st b ex rt nx)
        | none => obl P call lf fu fid n O m d ρ st a ex rt (evH P call lf fu fid n O st d b ex rt nx) ++ obl P call lf fu fid n O m d ρ st b ex rt nx) := fun m ρ => by rw [← e2]; exact h m ρ
    clear e1 e2 h hb
    cases hp : plain a with
    | true =>
      rw [hp] at h'
      simp only at h' ⊢
      rw [evH_eq d a st ex rt _ fun m ρ => (h' m ρ).app.1, evH_eq d b st ex rt nx fun m ρ => (h' m ρ).app.2]
    | false =>
      rw [hp] at h'
      simp only at h' ⊢
      cases hf : firstReg b with
      | none =>
        rw [hf] at h'
        simp only at h' ⊢
        rw [evH_eq d a st ex rt _ fun m ρ => (h' m ρ).app.1, evH_eq d b st ex rt nx fun m ρ => (h' m ρ).app.2]
      | some id =>
        rw [hf] at h'
        simp only at h' ⊢
        have q := (h' 0 fun _ _ _ => .err).cons.1
        simp only at q
        rw [evH_eq d a st ex rt _ fun m ρ => (h' m ρ).cons.2.app.1, q, evH_eq d b st ex rt nx fun m ρ => (h' m ρ).cons.2.app.2]
  | d + 1, .cond c a b, st, ex, rt, nx, h => by
    show (fun s env => condK (opv P env c) (evH P call lf fu fid n O st d a ex rt nx s env) (evH P call lf fu fid n O st d b ex rt nx s env)) = _
    rw [ev_cond, evH_eq d a st ex rt nx fun m ρ => (h m ρ).app.1, evH_eq d b st ex rt nx fun m ρ => (h m ρ).app.2]
  | d + 1, .block id b, st, ex, rt, nx, h => by
    have := evH_eq d b st (updH ex id nx) rt nx h
    rw [updH_eq] at this
    rw [ev_block, ← this, ← updH_eq]
    rfl
  | d + 1, .loop b, st, ex, rt, nx, h => by
    have e1 : evH P call lf fu fid n O st (d + 1) (.loop b) ex rt nx = (match firstReg b with
      | some id => (match mapLoop? n b with
        | some (it, tu, c, e, r) => (match lf id 0 with
          | some L => gdK (noRF r) fun s env => rangeMapLoopK s (restrict L env it) (L.map env) (fun s' => O.mp id (L.map env) s')
              (fun s => cutH lf O st id 1 s (((restrict L env).set tu .undef).set c .undef))
          | none => fun _ _ => .err)
        | none => (match lf id 0 with
          | some L => fun s env => O.lp st id fu s (L.map env)
          | none => fun _ _ => .err))
      | none => fun _ _ => .err) := rfl
    have h' : ∀ m ρ, Eqs (match firstReg b with
      | some id => (match mapLoop? n b with
        | some (it, tu, c, e, r) => (match lf id 0 with
          | some L => ((fun s env => O.mp id (L.map env) s), (fun s env => evH P call lf fu fid n O [] d r (fun _ _ _ => .err) (fun _ _ => .err) (fun s env => .ret (.tup (L.map env)) s) s (((restrict L env).set tu .undef).set c (.bool true)))) ::
              (cutH lf O st id 1, jn lf id 1 (ex e)) :: obl P call lf fu fid n O m d ρ [] r (fun _ _ _ => .err) (fun _ _ => .err) (fun s env => .ret (.tup (L.map env)) s)
          | none => [])
        | none => (match lf id 0 with
          | some L => ((fun s env => O.lp st id 0 s (L.map env)), (fun _ _ => .err)) :: ((fun s env => O.lp st id (Nat.succ m) s (L.map env)), (fun s env => O.lb st id (O.lp st id m) s (L.map env))) ::
              ((fun s env => O.lb st id (ρ 0) s (L.map env)), (fun s env => evH P call lf fu fid n O (ρ 0 :: st) d b ex rt (fun s env => ρ 0 s (L.map env)) s (restrict L env))) ::
              obl P call lf fu fid n O m d (fun j => ρ (Nat.succ j)) (ρ 0 :: st) b ex rt (fun s env => ρ 0 s (L.map env))
          | none => []))
      | none => []) := fun m ρ => h m ρ
    rw [e1, ev_loop]
    clear e1 h
    cases hf : firstReg b with
    | none => rfl
    | some id =>
      rw [hf] at h'
      simp only at h' ⊢
      cases hm : mapLoop? n b with
      | some x =>
        obtain ⟨it, tu, c, e, r⟩ := x
        rw [hm] at h'
        simp only at h' ⊢
        cases hL : lf id 0 with
        | none => rfl
        | some L =>
          rw [hL] at h'
          simp only at h' ⊢
          have q := h' 0 fun _ _ _ => .err
          have q1 := q.cons.1
          have q2 := q.cons.2.cons.1
          have q3 := evH_eq d r [] (fun _ _ _ => .err) (fun _ _ => .err) (fun s env => .ret (.tup (L.map env)) s) fun m ρ => (h' m ρ).cons.2.cons.2
          simp only at q1 q2
          rw [gdK_eq]
          congr 1
          funext s env
          have q4 : (fun s' => O.mp id (L.map env) s') = fun s' => ev P call lf fu fid n d r (fun _ _ _ => .err) (fun _ _ => .err) (fun s env => .ret (.tup (L.map env)) s) s' (((restrict L env).set tu .undef).set c (.bool true)) := by
            funext s'
            have := congrFun (congrFun q1 s') env
            rw [q3] at this
            exact this
          rw [q4, q2]
      | none =>
        rw [hm] at h'
        simp only at h' ⊢
        cases hL : lf id 0 with
        | none => rw [jn_none hL]
        | some L =>
          rw [hL] at h'
          simp only at h' ⊢
          have key : ∀ k s env, O.lp st id k s (L.map env) = loopF (fun ih => ev P call lf fu fid n d b ex rt (jn lf id 0 ih)) k s (restrict L env) := by
            intro k
            induction k with
            | zero =>
              intro s env
              have := (h' 0 fun _ _ _ => .err).cons.1
              simp only at this
              exact congrFun (congrFun this s) env
            | succ k ih =>
              intro s env
              have p2 := (h' k fun _ _ _ => .err).cons.2.cons.1
              have p3 := (h' k fun j => match j with | 0 => O.lp st id k | _ + 1 => fun _ _ => .err).cons.2.cons.2.cons.1
              simp only at p2 p3
              have p2 := congrFun (congrFun p2 s) env
              have p3 := congrFun (congrFun p3 s) env
              have p4 := evH_eq d b (O.lp st id k :: st) ex rt (fun s env => O.lp st id k s (L.map env)) fun m ρ => by
                have := (h' m fun j => match j with | 0 => O.lp st id k | j + 1 => ρ j).cons.2.cons.2.cons.2
                exact this
              have p5 : (fun s env => O.lp st id k s (L.map env)) = jn lf id 0 (loopF (fun ih => ev P call lf fu fid n d b ex rt (jn lf id 0 ih)) k) := by
                rw [jn_some hL]
                funext s env
                exact ih s env
              show O.lp st id (Nat.succ k) s (L.map env) = _
              rw [p2, p3, p4, p5]
              rfl
          rw [jn_some hL]
          funext s env
          exact key fu s env
  | d + 1, .scope b, st, ex, rt, nx, h => evH_eq d b st ex rt nx h
  | d + 1, .exit _, st, ex, rt, nx, h => rfl
  | d + 1, .ret, st, ex, rt, nx, h => rfl
  | d + 1, .rangeFunc .., st, ex, rt, nx, h => rfl
  | d + 1, .goto _, st, ex, rt, nx, h => rfl
  | d + 1, .refuse _, st, ex, rt, nx, h => rfl
end
end
end Go.Ev
