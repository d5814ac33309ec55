/- An evaluator over the model's Code: an abstract machine without a tape. Values: bytes in a row are packed into a number. -/
import GoSem.Step
import Derived.Control
set_option linter.all false
namespace Go.Ev
noncomputable section

inductive AV where
  | undef
  | int (k : IntKind) (n : Int)
  | bool (b : Bool)
  | nilv
  | nils
  | nilm
  | nilf
  | nili
  | ptr (id off : Nat)
  | slice (id off len cap sz : Nat) (op : Bool)
  | str (n p : Nat)
  | cells (l : List AV)
  | bytes (n p : Nat)
  | tup (l : List AV)
  | map (id : Nat)
  | func (f : FuncId) (first captured : List AV)
  | yield (l : Nat)
  | iface (t : TypeId) (v : AV)
instance : Inhabited AV := ⟨.undef⟩

inductive ME where
  | nil
  | cons (k v : AV) (born : Nat) (t : ME)
instance : Inhabited ME := ⟨.nil⟩

/-- the jump that is pending when a round has ended -/
inductive Jp where
  | no
  | exit (id : Nat)
  | ret
  deriving DecidableEq, Inhabited

inductive LSt where
  | ready | busy | done | exhausted
  deriving DecidableEq, Inhabited

inductive Blk where
  | none
  | row (t : TypeId) (c : AV)
  | map (es : ME) (clk : Nat)
  | sit (n p pos : Nat)
  | mit (m clk : Nat)
  | mitc (m : Nat) (k v : AV)
  | loop (f key : Nat) (st : LSt) (cap : List AV) (pend : Jp)
  | dark
instance : Inhabited Blk := ⟨.none⟩

/-- the heap: a trie over numbers -/
inductive Hp where
  | e
  | n (l : Hp) (v : Blk) (r : Hp)
instance : Inhabited Hp := ⟨.e⟩

structure St where
  heap : Hp
  next : Nat
  ro : Nat
instance : Inhabited St := ⟨⟨.e, 0, 0⟩⟩

inductive Out where
  | ret (v : AV) (s : St)
  | cont (s : St)
  | err
instance : Inhabited Out := ⟨.err⟩

abbrev Call := Nat → List AV → St → Out

/- numbers -/
def bget (p i : Nat) : Nat := (p >>> (8 * i)) % 256
def b8 (x : Nat) : AV := .int .u8 (Int.ofNat x)

/- lists of cells -/
def nthL : List AV → Nat → AV
  | [], _ => .undef
  | h :: t, i => match i with | 0 => h | i + 1 => nthL t i
def setL : List AV → Nat → AV → List AV
  | [], _, _ => []
  | h :: t, i, v => match i with | 0 => v :: t | i + 1 => h :: setL t i v
def dropL : List AV → Nat → List AV
  | [], _ => []
  | h :: t, i => match i with | 0 => h :: t | i + 1 => dropL t i
def takeL : List AV → Nat → List AV
  | [], _ => []
  | h :: t, i => match i with | 0 => [] | i + 1 => h :: takeL t i
def appL : List AV → List AV → List AV
  | [], y => y
  | h :: t, y => h :: appL t y
def lenL : List AV → Nat
  | [] => 0
  | _ :: t => lenL t + 1
def packL : List AV → Option (Nat × Nat)
  | [] => some (0, 0)
  | h :: t => match h with
    | .int .u8 (.ofNat x) => match packL t with
      | some (n, p) => bif Nat.blt x 256 then some (n + 1, x + 256 * p) else none
      | none => none
    | _ => none
def unpack : Nat → Nat → List AV
  | 0, _ => []
  | n + 1, p => b8 (p % 256) :: unpack n (p / 256)

/- rows: .cells or .bytes -/
namespace Row
def len : AV → Nat
  | .cells l => lenL l
  | .bytes n _ => n
  | _ => 0
def nth : AV → Nat → AV
  | .cells l, i => nthL l i
  | .bytes n p, i => bif Nat.blt i n then b8 (bget p i) else .undef
  | _, _ => .undef
/-- cells [off, off+n) -/
def sub : AV → Nat → Nat → AV
  | .cells l, off, n => .cells (takeL (dropL l off) n)
  | .bytes _ p, off, n => .bytes n ((p >>> (8 * off)) % 2 ^ (8 * n))
  | _, _, _ => .undef
def norm (r : AV) : AV := match r with
  | .cells l => match l with
    | .int .u8 _ :: _ => match packL l with
      | some (n, p) => .bytes n p
      | none => .undef
    | _ => r
  | r => r
def app (x y : AV) : AV := match x with
  | .bytes n p => match y with
    | .bytes m q => .bytes (n + m) (p + q <<< (8 * n))
    | .cells l => match packL l with
      | some (m, q) => .bytes (n + m) (p + q <<< (8 * n))
      | none => .undef
    | _ => .undef
  | .cells l => match y with
    | .cells k => .cells (appL l k)
    | .bytes m q => match packL l with
      | some (n, p) => .bytes (n + m) (p + q <<< (8 * n))
      | none => .undef
    | _ => .undef
  | _ => .undef
def splice (c : AV) (off : Nat) (new : AV) : AV :=
  app (sub c 0 off) (app new (sub c (off + len new) (len c - (off + len new))))
def setNth (c : AV) (i : Nat) (v : AV) : AV := match c with
  | .cells l => .cells (setL l i v)
  | .bytes n p => match v with
    | .int .u8 (.ofNat x) => bif Nat.blt x 256 then .bytes n (p - (bget p i) <<< (8 * i) + x <<< (8 * i)) else .undef
    | _ => .undef
  | _ => .undef
end Row
/-- a value's cells -/
def cellsOf (v : AV) : AV := match v with
  | .cells l => .cells l
  | .bytes n p => .bytes n p
  | .undef => .undef
  | .tup _ => .undef
  | v => .cells [v]
def rep (v : AV) : Nat → AV
  | 0 => .cells []
  | n + 1 => Row.app v (rep v n)
def zeros (z : AV) (n : Nat) : AV := match z with
  | .bytes k p => match p with
    | 0 => .bytes (k * n) 0
    | _ => .undef
  | .int .u8 m => match m with
    | .ofNat 0 => .bytes n 0
    | _ => .undef
  | z => rep (cellsOf z) n

/- equality -/
def kindEq : IntKind → IntKind → Bool
  | .i8, .i8 | .i16, .i16 | .i32, .i32 | .i64, .i64 | .u8, .u8 | .u16, .u16 | .u32, .u32 | .u64, .u64 => true
  | _, _ => false
def beqS : AV → AV → Option Bool
  | .bool a, .bool b => some (a == b)
  | .int j a, .int k b => bif kindEq j k then some (a == b) else none
  | .str n p, .str m q => some (Nat.beq n m && Nat.beq p q)
  | _, _ => none
/-- what is compared -/
inductive EqD where
  | ptr | slice | map | func | bool | str
def eqOf (d : EqD) (x y : AV) : Option Bool := match d with
  | .ptr => match x with
    | .nilv => match y with
      | .nilv => some true
      | .ptr _ _ => some false
      | _ => none
    | .ptr i o => match y with
      | .nilv => some false
      | .ptr j q => some (Nat.beq i j && Nat.beq o q)
      | _ => none
    | _ => none
  | .slice => match x with
    | .nils => match y with
      | .nils => some true
      | .slice _ _ _ _ _ _ => some false
      | _ => none
    | .slice _ _ _ _ _ _ => match y with
      | .nils => some false
      | _ => none
    | _ => none
  | .map => match x with
    | .nilm => match y with
      | .nilm => some true
      | .map _ => some false
      | _ => none
    | .map _ => match y with
      | .nilm => some false
      | _ => none
    | _ => none
  | .func => match x with
    | .nilf => match y with
      | .nilf => some true
      | .func _ _ _ => some false
      | _ => none
    | .func _ _ _ => match y with
      | .nilf => some false
      | _ => none
    | _ => none
  | .bool => match x with
    | .bool a => match y with
      | .bool b => some (a == b)
      | _ => none
    | _ => none
  | .str => match x with
    | .str n p => match y with
      | .str m q => some (Nat.beq n m && Nat.beq p q)
      | _ => none
    | _ => none
/-- the cells of a type -/
inductive LfT where
  | int | bool | str
def beqC (t : LfT) (x y : AV) : Option Bool := match t with
  | .int => match x with
    | .int _ _ => beqS x y
    | _ => none
  | .bool => match x with
    | .bool _ => beqS x y
    | _ => none
  | .str => match x with
    | .str _ _ => beqS x y
    | _ => none
def beqT : List LfT → List AV → List AV → Option Bool
  | [], [], [] => some true
  | t :: ts, a :: s, b :: u => match beqC t a b with
    | some true => beqT ts s u
    | r => r
  | _, _, _ => none
def allInt : List LfT → Bool
  | [] => true
  | .int :: l => allInt l
  | _ :: _ => false

/-- the very same value, for what a load told twice -/
def sameV : AV → AV → Bool
  | .int j a, .int k b => decide (j = k) && a == b
  | .bool a, .bool b => a == b
  | .nilv, .nilv => true
  | .nils, .nils => true
  | .nilm, .nilm => true
  | .nilf, .nilf => true
  | .nili, .nili => true
  | .ptr i o, .ptr j q => Nat.beq i j && Nat.beq o q
  | .slice a b c d e f, .slice a' b' c' d' e' f' => Nat.beq a a' && Nat.beq b b' && Nat.beq c c' && Nat.beq d d' && Nat.beq e e' && f == f'
  | .str n p, .str m q => Nat.beq n m && Nat.beq p q
  | .map i, .map j => Nat.beq i j
  | .bytes n p, .bytes m q => Nat.beq n m && Nat.beq p q
  | .func f [] a, .func g [] b => Nat.beq f g && go a b
  | .cells a, .cells b => go a b
  | .iface t (.ptr i o), .iface u (.ptr j q) => Nat.beq t u && Nat.beq i j && Nat.beq o q
  | _, _ => false
where
  go : List AV → List AV → Bool
    | [], [] => true
    | a :: s, b :: t => flat a b && go s t
    | _, _ => false
  flat : AV → AV → Bool
    | .int j a, .int k b => decide (j = k) && a == b
    | .bool a, .bool b => a == b
    | .nilv, .nilv => true
    | .nils, .nils => true
    | .nilm, .nilm => true
    | .nilf, .nilf => true
    | .nili, .nili => true
    | .ptr i o, .ptr j q => Nat.beq i j && Nat.beq o q
    | .slice a b c d e f, .slice a' b' c' d' e' f' => Nat.beq a a' && Nat.beq b b' && Nat.beq c c' && Nat.beq d d' && Nat.beq e e' && f == f'
    | .str n p, .str m q => Nat.beq n m && Nat.beq p q
    | .map i, .map j => Nat.beq i j
    | _, _ => false

/- constants of the program -/
def packB : List UInt8 → Nat
  | [] => 0
  | x :: l => x.toNat + 256 * packB l
def ofFlat : Value → AV
  | .bool b => .bool b
  | .int k n => .int k n
  | .string s => .str s.size (packB s.data.toList)
  | .pointer none => .nilv
  | .slice none 0 0 => .nils
  | .map none => .nilm
  | .nilFunc => .nilf
  | .nilIface => .nili
  | _ => .undef
def oneC : Value → Bool
  | .agg _ | .tuple _ => false
  | _ => true
def ofValue : Value → AV
  | .agg cs => bif cs.toList.all oneC then Row.norm (.cells (cs.toList.map ofFlat)) else .undef
  | v => ofFlat v

/- maps -/
namespace ME
def find (k : AV) : ME → Option (Option AV)
  | .nil => some none
  | .cons j v _ t => match beqS k j with
    | some true => some (some v)
    | some false => t.find k
    | none => none
/-- the value of a key is laid; the clock: that of a new entry -/
def set (k v : AV) (clk : Nat) : ME → ME
  | .nil => .cons k v clk .nil
  | .cons j x b t => match beqS k j with
    | some true => .cons k v b t
    | _ => .cons j x b (t.set k v clk)
def erase (k : AV) : ME → ME
  | .nil => .nil
  | .cons j x b t => match beqS k j with
    | some true => t
    | _ => .cons j x b (t.erase k)
def len : ME → Nat
  | .nil => 0
  | .cons _ _ _ t => t.len + 1
end ME

/- the heap -/
--<hp
def Hp.get (t : Hp) : Nat → Blk :=
  Hp.rec (motive := fun _ => Nat → Blk) (fun _ => .none) (fun _ v _ gl gr k => Nat.rec (motive := fun _ => Blk) v (fun k _ => Nat.rec (motive := fun _ => Blk) (gl (Nat.div k 2)) (fun _ _ => gr (Nat.div k 2)) (Nat.mod k 2)) k) t
def Hp.set (f : Nat) : Nat → Blk → Hp → Hp :=
  Nat.rec (motive := fun _ => Nat → Blk → Hp → Hp) (fun _ _ t => t) (fun _ ih k v t =>
    Nat.rec (motive := fun _ => Hp) (Hp.rec (motive := fun _ => Hp) (.n .e v .e) (fun l _ r _ _ => .n l v r) t)
      (fun k _ => Nat.rec (motive := fun _ => Hp)
        (Hp.rec (motive := fun _ => Hp) (.n (ih (Nat.div k 2) v .e) .none .e) (fun l x r _ _ => .n (ih (Nat.div k 2) v l) x r) t)
        (fun _ _ => Hp.rec (motive := fun _ => Hp) (.n .e .none (ih (Nat.div k 2) v .e)) (fun l x r _ _ => .n l x (ih (Nat.div k 2) v r)) t)
        (Nat.mod k 2)) k) f

--hp>
def Hp.put (h : Hp) (i : Nat) (b : Blk) : Hp := Hp.set (Nat.succ i) i b h
/- the steps, each handed what comes behind it -/
def St.blk (s : St) (i : Nat) : Blk := match s with | ⟨h, _, _⟩ => h.get i
def putK (s : St) (i : Nat) (b : Blk) (k : St → Out) : Out := match s with
  | ⟨h, n, ro⟩ => bif Nat.blt i ro then .err else k ⟨h.put i b, n, ro⟩
def newK (s : St) (b : Blk) (k : Nat → St → Out) : Out := match s with
  | ⟨h, n, ro⟩ => k n ⟨h.put n b, Nat.succ n, ro⟩
def rowK (s : St) (i : Nat) (k : TypeId → AV → Out) : Out := match s.blk i with
  | .row t c => k t c
  | _ => .err
def ptrK (x : AV) (k : Nat → Nat → Out) : Out := match x with
  | .ptr i o => k i o
  | _ => .err
def intK (x : AV) (k : IntKind → Int → Out) : Out := match x with
  | .int j n => k j n
  | _ => .err
def natK (x : AV) (k : Nat → Out) : Out := match x with
  | .int _ (.ofNat n) => k n
  | _ => .err
def boolK (x : AV) (k : Bool → Out) : Out := match x with
  | .bool b => k b
  | _ => .err
/-- a value that is known -/
def defK (x : AV) (k : AV → Out) : Out := match x with
  | .undef => .err
  | x => k x
def outK (o : Out) (k : AV → St → Out) : Out := match o with
  | .ret v s => k v s
  | .cont _ => .err
  | .err => .err

structure TF where
  size : Nat
  agg : Bool

/-- the value of a type at a place of a row -/
def partK (f : TF) (c : AV) (off : Nat) (k : AV → Out) : Out := match f.agg with
  | true => bif Nat.ble (off + f.size) (Row.len c) then defK (Row.sub c off f.size) k else .err
  | false => defK (Row.nth c off) k
/-- a value of one cell -/
def oneK (x : AV) (k : Out) : Out := match x with
  | .undef | .tup _ | .cells _ | .bytes _ _ => .err
  | _ => k
def loadK (f : TF) (s : St) (a : AV) (k : AV → Out) : Out := ptrK a fun i o => rowK s i fun _ c => partK f c o k
def storeK (f : TF) (s : St) (a x : AV) (k : St → Out) : Out := ptrK a fun i o => rowK s i fun t c => match f.agg with
  | true => bif Nat.ble (o + f.size) (Row.len c) && Nat.beq (Row.len (cellsOf x)) f.size then defK (Row.splice c o (cellsOf x)) fun c => putK s i (.row t c) k else .err
  | false => defK (Row.nth c o) fun _ => oneK x (defK (Row.setNth c o x) fun c => putK s i (.row t c) k)
def allocK (s : St) (t : TypeId) (z : AV) (k : AV → St → Out) : Out := newK s (.row t z) fun i s => k (.ptr i 0) s
def boxK (s : St) (t : TypeId) (n : Nat) (x : AV) (k : AV → St → Out) : Out := defK (Row.norm (cellsOf x)) fun c =>
  bif Nat.beq (Row.len c) n then newK s (.row t c) fun i s => k (.ptr i 0) s else .err
/-- parts of a composite are laid -/
def fillK (c : AV) (l : List (Nat × Nat × AV)) (k : AV → Out) : Out := match l with
  | [] => defK (Row.norm c) k
  | (off, n, x) :: l => bif Nat.beq (Row.len (cellsOf x)) n && Nat.ble (off + n) (Row.len c) then fillK (Row.splice c off (cellsOf x)) l k else .err
def nilK (x : AV) (k : AV → Out) : Out := match x with
  | .ptr i o => k (.ptr i o)
  | _ => .err
def fieldK (off : Nat) (x : AV) (k : AV → Out) : Out := match x with
  | .ptr i o => k (.ptr i (o + off))
  | _ => .err
def idxK (n : Nat) (i : AV) (k : Nat → Out) : Out := natK i fun i => bif Nat.blt i n then k i else .err
def indexArrK (n sz : Nat) (x i : AV) (k : AV → Out) : Out := ptrK x fun id o => idxK n i fun i => k (.ptr id (o + i * sz))
def indexSlK (sz : Nat) (x i : AV) (k : AV → Out) : Out := match x with
  | .slice id o n _ sz' _ => bif Nat.beq sz sz' then idxK n i fun i => k (.ptr id (o + i * sz)) else .err
  | _ => .err
def indexStrK (x i : AV) (k : AV → Out) : Out := match x with
  | .str n p => idxK n i fun i => k (b8 (bget p i))
  | _ => .err
def indexValK (n : Nat) (f : TF) (x i : AV) (k : AV → Out) : Out := idxK n i fun i => partK f x (i * f.size) k
def extractK (x : AV) (i : Nat) (k : AV → Out) : Out := match x with
  | .tup l => bif Nat.blt i (lenL l) then k (nthL l i) else .err
  | _ => .err
/- numbers' operations -/
def arith (op : BinOp) (k : IntKind) (a b : Int) : AV := match op with
  | .add => .int k (k.wrap (a + b))
  | .sub => .int k (k.wrap (a - b))
  | .mul => .int k (k.wrap (a * b))
  | .quo => .int k (k.wrap (a.tdiv b))
  | .rem => .int k (a.tmod b)
  | .and => .int k (k.wrap (BitVec.ofInt k.bits a &&& BitVec.ofInt k.bits b).toNat)
  | .or => .int k (k.wrap (BitVec.ofInt k.bits a ||| BitVec.ofInt k.bits b).toNat)
  | .xor => .int k (k.wrap (BitVec.ofInt k.bits a ^^^ BitVec.ofInt k.bits b).toNat)
  | .andNot => .int k (k.wrap (BitVec.ofInt k.bits a &&& ~~~ BitVec.ofInt k.bits b).toNat)
  | .shl => .int k (k.wrap (a * 2 ^ (min b.toNat k.bits)))
  | .shr => .int k (a.fdiv (2 ^ (min b.toNat k.bits)))
  | .eql => .bool (a == b)
  | .neq => .bool (a != b)
  | .lss => .bool (decide (a < b))
  | .leq => .bool (decide (a ≤ b))
  | .gtr => .bool (decide (a > b))
  | .geq => .bool (decide (a ≥ b))
def binK (op : BinOp) (x y : AV) (k : AV → Out) : Out := intK x fun j a => intK y fun i b => match op with
  | .shl | .shr => match b with
    | .ofNat _ => k (arith op j a b)
    | _ => .err
  | .quo | .rem => match b with
    | .ofNat 0 => .err
    | _ => bif kindEq i j then k (arith op j a b) else .err
  | _ => bif kindEq i j then k (arith op j a b) else .err
def isRow : Blk → Bool
  | .row _ (.cells _) => true
  | _ => false
/-- may two addresses be compared -/
def apart (s : St) (x y : AV) : Bool := match x with
  | .ptr i _ => match y with
    | .ptr j _ => Nat.beq i j || (isRow (s.blk i) && isRow (s.blk j))
    | _ => true
  | _ => true
def eqK (d : EqD) (s : St) (neg : Bool) (x y : AV) (k : AV → Out) : Out := match eqOf d x y with
  | some b => bif apart s x y then k (.bool (Bool.xor neg b)) else .err
  | none => .err
/-- composite values; t: the types of the cells, or how many bytes there are -/
def eqAggK (t : Sum Nat (List LfT)) (neg : Bool) (x y : AV) (k : AV → Out) : Out := match t with
  | .inl w => match x with
    | .bytes n p => match y with
      | .bytes m q => bif Nat.beq n w && Nat.beq m w then k (.bool (Bool.xor neg (Nat.beq p q))) else .err
      | _ => .err
    | _ => .err
  | .inr t => match x with
    | .cells a => match y with
      | .cells b => match (bif Nat.beq (lenL a) t.length && Nat.beq (lenL b) t.length then beqT t a b else none) with
        | some r => k (.bool (Bool.xor neg r))
        | none => .err
      | _ => .err
    | _ => .err
def addStrK (x y : AV) (k : AV → Out) : Out := match x with
  | .str n p => match y with
    | .str m q => bif Nat.ble (n + m) 1000000000 then k (.str (n + m) (p + q <<< (8 * n))) else .err
    | _ => .err
  | _ => .err
def notK (x : AV) (k : AV → Out) : Out := boolK x fun b => k (.bool (!b))
def negK (x : AV) (k : AV → Out) : Out := intK x fun j n => k (.int j (j.wrap (0 - n)))
def invK (x : AV) (k : AV → Out) : Out := intK x fun j n => k (.int j (j.wrap (BitVec.ofInt j.bits (if j.signed then -1 else j.max) ^^^ BitVec.ofInt j.bits n).toNat))
def convK (j : IntKind) (x : AV) (k : AV → Out) : Out := intK x fun _ n => k (.int j (j.wrap n))
def pickK (c a b : AV) (k : AV → Out) : Out := match c with
  | .bool true => k a
  | .bool false => k b
  | _ => .err
def minK (x y : AV) (k : AV → Out) : Out := intK x fun j a => intK y fun _ b => k (.int j (if b < a then b else a))
def maxK (x y : AV) (k : AV → Out) : Out := intK x fun j a => intK y fun _ b => k (.int j (if b > a then b else a))
/- slices -/
def goInt (n : Nat) : AV := .int .i64 (Int.ofNat n)
def lenK (x : AV) (k : Nat → Out) : Out := match x with
  | .nils => k 0
  | .slice _ _ n _ _ _ => k n
  | .str n _ => k n
  | _ => .err
def lenSlK (x : AV) (k : Nat → Out) : Out := match x with
  | .nils => k 0
  | .slice _ _ n _ _ _ => k n
  | _ => .err
def lenStrK (x : AV) (k : Nat → Out) : Out := match x with
  | .str n _ => k n
  | _ => .err
/-- the first n elements' cells -/
def headK (s : St) (sz : Nat) (x : AV) (n : Nat) (k : AV → Out) : Out := match x with
  | .nils => bif Nat.beq n 0 then k (.cells []) else .err
  | .slice id o _ _ _ _ => rowK s id fun _ c => bif Nat.ble (o + n * sz) (Row.len c) then defK (Row.sub c o (n * sz)) k else .err
  | .str m p => bif Nat.ble n m && Nat.beq sz 1 then k (.bytes n (p % 2 ^ (8 * n))) else .err
  | _ => .err
def growK (e : TypeId) (s : St) (id o len sz : Nat) (c new : AV) (n : Nat) (op : Bool) (k : AV → St → Out) : Out :=
  defK (Row.norm (Row.app (Row.sub c o (len * sz)) new)) fun c' => bif Nat.ble (o + len * sz) (Row.len c) && Nat.ble (len + n) 1000000000 then (match op with
    | true => putK s id .none fun s => newK s (.row e c') fun i s => k (.slice i 0 (len + n) (len + n) sz true) s
    | false => newK s (.row e c') fun i s => k (.slice i 0 (len + n) (len + n) sz true) s) else .err
def appendK (e : TypeId) (sz : Nat) (s : St) (x : AV) (n : Nat) (new : AV) (k : AV → St → Out) : Out := match x with
  | .nils => match n with
    | 0 => k .nils s
    | n + 1 => defK (Row.norm new) fun c => bif Nat.ble (n + 1) 1000000000 then newK s (.row e c) fun i s => k (.slice i 0 (n + 1) (n + 1) sz true) s else .err
  | .slice id o len cap sz' op => bif Nat.beq sz sz' then (bif Nat.ble (len + n) cap then (match n with
      | 0 => k (.slice id o len cap sz op) s
      | n + 1 => rowK s id fun t c => bif Nat.ble (o + (len + (n + 1)) * sz) (Row.len c) then defK (Row.splice c (o + len * sz) new) fun c => putK s id (.row t c) fun s => k (.slice id o (len + (n + 1)) cap sz op) s else .err)
    else rowK s id fun _ c => growK e s id o len sz c new n op k) else .err
  | _ => .err
def appK (e : TypeId) (sz : Nat) (s : St) (x y : AV) (k : AV → St → Out) : Out := lenK y fun n => headK s sz y n fun new => appendK e sz s x n new k
def appZK (e : TypeId) (sz : Nat) (z : AV) (s : St) (x y : AV) (k : AV → St → Out) : Out := natK y fun n => bif Nat.ble n 1000000000 then appendK e sz s x n (zeros z n) k else .err
def copyK (sz : Nat) (s : St) (x y : AV) (k : AV → St → Out) : Out := lenK x fun a => lenK y fun b => headK s sz y (Nat.min b a) fun new => match x with
  | .nils => k (goInt 0) s
  | .slice id o _ _ sz' _ => bif Nat.beq sz sz' then (match Nat.min b a with
    | 0 => k (goInt 0) s
    | n + 1 => rowK s id fun t c => bif Nat.ble (o + (n + 1) * sz) (Row.len c) then defK (Row.splice c o new) fun c => putK s id (.row t c) fun s => k (goInt (n + 1)) s else .err) else .err
  | _ => .err
def bndK (v : Option AV) (df lim : Nat) (k : Nat → Out) : Out := match v with
  | none => k df
  | some x => natK x fun n => bif Nat.ble n lim then k n else .err
/-- low, high and the greatest -/
def bndsK (lo hi mx : Option AV) (len cap : Nat) (k : Nat → Nat → Nat → Out) : Out := bndK mx cap cap fun m => bndK hi len m fun h => bndK lo 0 h fun l => k l h m
def sliceSlK (sz : Nat) (lo hi mx : Option AV) (x : AV) (k : AV → Out) : Out := match x with
  | .slice id o len cap sz' op => bif Nat.beq sz sz' then bndsK lo hi mx len cap fun l h m => bif Nat.ble h m then k (.slice id (o + l * sz) (h - l) (m - l) sz (op && mx.isNone)) else .err else .err
  | .nils => bndsK lo hi mx 0 0 fun _ _ _ => k .nils
  | _ => .err
def sliceStrK (lo hi : Option AV) (x : AV) (k : AV → Out) : Out := match x with
  | .str n p => bndsK lo hi none n n fun l h _ => k (.str (h - l) ((p >>> (8 * l)) % 2 ^ (8 * (h - l))))
  | _ => .err
def sliceArrK (n sz : Nat) (lo hi mx : Option AV) (x : AV) (k : AV → Out) : Out := ptrK x fun id o => bndsK lo hi mx n n fun l h m => bif Nat.ble h m then k (.slice id (o + l * sz) (h - l) (m - l) sz false) else .err
def s2apK (n sz : Nat) (x : AV) (k : AV → Out) : Out := match x with
  | .slice id o len _ sz' _ => bif Nat.ble n len && Nat.beq sz sz' && Nat.blt 0 n then k (.ptr id o) else .err
  | _ => .err
def makeSliceK (e : TypeId) (sz : Nat) (z : AV) (s : St) (l c : AV) (k : AV → St → Out) : Out := natK l fun l => natK c fun c =>
  bif Nat.ble l c && Nat.ble c 1000000000 then defK (zeros z c) fun r => newK s (.row e r) fun i s => k (.slice i 0 l c sz false) s else .err
def toBytesK (e : TypeId) (s : St) (x : AV) (k : AV → St → Out) : Out := match x with
  | .str n p => newK s (.row e (.bytes n p)) fun i s => k (.slice i 0 n n 1 true) s
  | _ => .err
def strK (x : AV) (k : AV → Out) : Out := match x with
  | .str n p => k (.str n p)
  | _ => .err
def toStrK (s : St) (x : AV) (k : AV → Out) : Out := match x with
  | .str _ _ => .err
  | x => lenK x fun n => headK s 1 x n fun c => match c with
    | .bytes n p => k (.str n p)
    | .cells [] => k (.str 0 0)
    | _ => .err
/- maps -/
def mapK (s : St) (m : AV) (k : Nat → ME → Nat → Out) : Out := match m with
  | .map id => match s.blk id with
    | .map es clk => k id es clk
    | _ => .err
  | _ => .err
def found (z : AV) (ok : Bool) (r : Option AV) : AV := match ok with
  | true => match r with
    | some v => .tup [v, .bool true]
    | none => .tup [z, .bool false]
  | false => match r with
    | some v => v
    | none => z
/-- may a value be a key of such a map -/
def keyK (d : EqD) (x : AV) (k : Out) : Out := match d with
  | .str => match x with
    | .str _ _ => k
    | _ => .err
  | .bool => match x with
    | .bool _ => k
    | _ => .err
  | .map => match x with
    | .int _ _ => k
    | _ => .err
  | _ => .err
def lookupK (d : EqD) (z : AV) (ok : Bool) (s : St) (m x : AV) (k : AV → Out) : Out := keyK d x (match m with
  | .nilm => k (found z ok none)
  | m => mapK s m fun _ es _ => match es.find x with
    | some r => k (found z ok r)
    | none => .err)
def updateK (d : EqD) (s : St) (m x v : AV) (k : St → Out) : Out := mapK s m fun id es clk => keyK d x <| match es.find x with
  | some (some _) => putK s id (.map (es.set x v clk) clk) k
  | some none => putK s id (.map (es.set x v clk) (clk + 1)) k
  | none => .err
def deleteK (d : EqD) (s : St) (m x : AV) (k : AV → St → Out) : Out := mapK s m fun id es clk => keyK d x <| match es.find x with
  | some _ => putK s id (.map (es.erase x) clk) fun s => k (.tup []) s
  | none => .err
def clearK (s : St) (m : AV) (k : AV → St → Out) : Out := mapK s m fun id _ clk => putK s id (.map .nil clk) fun s => k (.tup []) s
def lenMapK (s : St) (m : AV) (k : AV → Out) : Out := match m with
  | .nilm => k (goInt 0)
  | m => mapK s m fun _ es _ => k (goInt es.len)
/- iterators -/
def rangeStrK (s : St) (x : AV) (k : AV → St → Out) : Out := match x with
  | .str n p => newK s (.sit n p 0) fun i s => k (.ptr i 0) s
  | _ => .err
def rangeMapK (s : St) (x : AV) (k : AV → St → Out) : Out := mapK s x fun m _ clk => newK s (.mit m clk) fun i s => k (.ptr i 0) s
def nextStrK (s : St) (x : AV) (k : AV → St → Out) : Out := match x with
  | .ptr id 0 => match s.blk id with
    | .sit n p pos => bif Nat.blt pos n then (bif Nat.blt (bget p pos) 128 then putK s id (.sit n p (pos + 1)) fun s => k (.tup [.bool true, goInt pos, .int .i32 (Int.ofNat (bget p pos))]) s else .err)
      else k (.tup [.bool false]) s
    | _ => .err
  | _ => .err
/- calls -/
def callVK (call : Call) (v : AV) (args : List AV) (s : St) (k : AV → St → Out) : Out := match v with
  | .func f first cap => bif Nat.blt f 65536 then outK (call f (appL first (appL args cap)) s) k else .err
  | .yield l => match s.blk l with
    | .loop f key _ cap _ => outK (call (f + 65536 * (key + 1)) (.yield l :: appL args cap) s) k
    | _ => .err
  | _ => .err
def invokeK (call : Call) (meth : TypeId → Option FuncId) (r : AV) (args : List AV) (s : St) (k : AV → St → Out) : Out := match r with
  | .iface t x => match meth t with
    | some f => outK (call f (x :: args) s) k
    | none => .err
  | _ => .err
/- rounds -/
def beginK (s : St) (l : Nat) (k : St → Out) : Out := match s.blk l with
  | .loop f key .ready cap _ => putK s l (.loop f key .busy cap .no) k
  | _ => .err
def endK (s : St) (l : Nat) (j : Jp) : Out := match s.blk l with
  | .loop f key .busy cap _ => match j with
    | .no => putK s l (.loop f key .ready cap .no) fun s => .ret (.bool true) s
    | j => putK s l (.loop f key .done cap j) fun s => .ret (.bool false) s
  | _ => .err
def overK (s : St) (l : Nat) (k : Jp → St → Out) : Out := match s.blk l with
  | .loop f key st cap j => match st with
    | .ready => putK s l (.loop f key .exhausted cap .no) fun s => k .no s
    | .done => putK s l (.loop f key .exhausted cap .no) fun s => k j s
    | _ => .err
  | _ => .err
def entryK (s : St) (x : AV) (k : AV → Out) : Out := match x with
  | .ptr id 0 => match s.blk id with
    | .mitc _ a b => k (.tup [a, b])
    | _ => .err
  | _ => .err
/-- are the values what they were? -/
def sameL : List AV → List AV → Bool
  | [], [] => true
  | a :: s, b :: t => (match a with
    | .undef => true
    | a => sameV a b) && sameL s t
  | _, _ => false
/-- the rounds of a loop over a map: does each leave all that was there as it was, and go on? -/
def mapRounds (s : St) (id m : Nat) (vs : List AV) (body : St → Out) : ME → Bool
  | .nil => true
  | .cons x v _ t => match body ⟨s.heap.put id (.mitc m x v), s.next, s.next⟩ with
    | .ret (.tup l) _ => bif sameL vs l then mapRounds s id m vs body t else false
    | _ => false
def mapLoop (s : St) (it : AV) (vs : List AV) (body : St → Out) : Bool := match it with
  | .ptr id 0 => match s.blk id with
    | .mit m clk => match s.blk m with
      | .map es clk' => Nat.beq clk clk' && !(Nat.beq id m) && mapRounds s id m vs body es
      | _ => false
    | _ => false
  | _ => false
/-- a loop over a map -/
def rangeMapLoopK (s : St) (it : AV) (vs : List AV) (body : St → Out) (k : St → Out) : Out := match it with
  | .ptr id _ => bif mapLoop s it vs body then putK s id .none k else .err
  | _ => .err
def capK (x : AV) (k : AV → Out) : Out := match x with
  | .nils => k (goInt 0)
  | .slice _ _ _ c _ false => k (goInt c)
  | _ => .err
def guardK (w : Bool) (b : AV) (no yes : Out) : Out := match b with
  | .bool b => bif Bool.xor b w then no else yes
  | .tup _ => no
  | _ => .err
def condK (c : AV) (a b : Out) : Out := match c with
  | .bool true => a
  | .bool false => b
  | _ => .err
def jumpK (j : Jp) (a b : Out) (c : Nat → Out) : Out := match j with
  | .no => a
  | .exit i => c i
  | .ret => b
def rangeK (call : Call) (f : AV) (l : Nat) (s : St) (k : Jp → St → Out) : Out := match f with
  | .func g first cap => bif Nat.blt g 65536 then outK (call g (appL first (.yield l :: cap)) s) (fun _ s => overK s l k) else .err
  | _ => .err
/-- a value told by a load is still told -/
def againK (f : TF) (s : St) (a v : AV) (k : Out) : Out := loadK f s a fun w => bif sameV v w then k else .err
end
end Go.Ev
