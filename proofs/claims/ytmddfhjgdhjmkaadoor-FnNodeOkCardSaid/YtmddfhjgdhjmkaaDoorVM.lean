/- The abstract machine: values by content, local objects by key, the model's own Code run in continuation style. Definitions only. -/
import Derived.WalkKit
import Derived.Orders
set_option linter.unusedVariables false
set_option linter.unusedSimpArgs false
namespace Go.Proofs.YtmddfhjgdhjmkaaDoor.VM

inductive V where
  | dead
  | sc (v : Value)
  | sl (z : Nat) (xs : List V)
  | nil
  | st (cs : List V)
  | dt (x : V)
  | own (o : Bool) (z : Nat) (xs : List V)
  | ptr (k : Nat) (c : Option Nat) (i j : Nat)
  | ref (k : Nat) (c : Option Nat) (m : Option Nat)
  | rp (x : V) (j : Nat)
  | clo (f : FuncId) (caps : List V)
  | io (cs : List V)
  | tup (vs : List V)
  deriving Inhabited

inductive Ob where
  | none
  | box (o : Bool) (cs : List V)
  | row (o : Bool) (z : Nat) (xs : List V)
  deriving Inhabited

structure St where
  sl : List V
  ob : List Ob

/-- shapes of one cell -/
inductive Sh where
  | i (k : IntKind) | b | tx | l (z : Nat) | any

/-- what is known of a type -/
inductive Ty where
  | c (s : Sh)
  | agg (ss : List Sh)
  | p (ss : List Sh)
  | tup (ts : List Ty)

def fnd {α : Type} : List (Nat × α) → Nat → Option α
  | [], _ => none
  | (a, x) :: l, b => bif Nat.beq a b then some x else fnd l b
def memN (l : List Nat) (a : Nat) : Bool :=
  match l with
  | [] => false
  | b :: l => bif Nat.beq b a then true else memN l a

def nodup (l : List Nat) : Bool :=
  match l with
  | [] => true
  | a :: l => !memN l a && nodup l

structure TT where
  fnL : List (Nat × Func)
  tyL : List (Nat × Ty)
  offL : List (Nat × List (Nat × Nat))
  elL : List (Nat × (Nat × Nat))
  arrL : List (Nat × (Nat × Nat))
  zeroL : List (Nat × List V)
  eszL : List (Nat × Nat)
  u8L : List Nat
  globL : List (Nat × V)
  loudL : List Nat
  keepL : List (Nat × List Nat)
def TT.fn (T : TT) (f : FuncId) : Option Func := fnd T.fnL f
def TT.ty (T : TT) (t : TypeId) : Ty := match fnd T.tyL t with | some y => y | none => .tup []
def TT.off (T : TT) (t : TypeId) (f : Nat) : Option (Nat × Nat) := match fnd T.offL t with | some l => l[f]? | none => none
def TT.el (T : TT) (t : TypeId) : Option (Nat × Nat) := fnd T.elL t
def TT.arr (T : TT) (t : TypeId) : Option (Nat × Nat) := fnd T.arrL t
def TT.zero (T : TT) (t : TypeId) : Option (List V) := fnd T.zeroL t
def TT.esz (T : TT) (t : TypeId) : Option Nat := fnd T.eszL t
def TT.glob (T : TT) (g : Nat) : Option V := fnd T.globL g
def TT.loud (T : TT) (f : FuncId) : Bool := memN T.loudL f
def TT.keep (T : TT) (f : FuncId) : Nat → Bool := match fnd T.keepL f with | some l => memN l | none => fun _ => true

abbrev Res := V × List V

section
variable {R : Type}

def unI (k : IntKind) (v : V) (K : Int → Option R) : Option R :=
  match v with
  | .sc (.int k' m) => bif decide (k' = k) then K m else none
  | _ => none
def unB (v : V) (K : Bool → Option R) : Option R :=
  match v with
  | .sc (.bool b) => K b
  | _ => none
def unS (v : V) (K : ByteArray → Option R) : Option R :=
  match v with
  | .sc (.string s) => K s
  | _ => none
def unL (z : Nat) (v : V) (K : List V → Option R) : Option R :=
  match v with
  | .sl z' xs => bif Nat.beq z' z then K xs else none
  | .nil => K []
  | _ => none
def unIo (v : V) (K : List V → Option R) : Option R :=
  match v with
  | .io cs => K cs
  | _ => none
def unTup (n : Nat) (v : V) (K : List V → Option R) : Option R :=
  match v with
  | .tup vs => bif Nat.beq vs.length n then K vs else none
  | _ => none
def unSt (n : Nat) (x : V) (K : Option R) : Option R :=
  match x with
  | .st cs => bif Nat.beq cs.length n then K else none
  | _ => none
/-- of so many cells -/
def wd (n : Nat) (x : V) (K : Option R) : Option R :=
  match x with
  | .st cs => bif Nat.beq cs.length n then K else none
  | _ => bif Nat.beq n 1 then K else none
def wds (n : Nat) (xs : List V) (K : Option R) : Option R :=
  match xs with
  | [] => K
  | x :: xs => wd n x (wds n xs K)
def unC (s : Sh) (v : V) (K : V → Option R) : Option R :=
  match s with
  | .i k => unI k v fun m => K (.sc (.int k m))
  | .b => unB v fun b => K (.sc (.bool b))
  | .tx => unS v fun s => K (.sc (.string s))
  | .l z => unL z v fun xs => K (.sl z xs)
  | .any => match v with
    | .sc u => K (.sc u)
    | .sl z xs => K (.sl z xs)
    | .nil => K .nil
    | .clo f cs => K (.clo f cs)
    | .rp x j => K (.rp x j)
    | _ => none
def ce (x : V) (j : Nat) : V :=
  match x with
  | .st cs => cs.getD j .dead
  | v => match j with | 0 => v | _ => .dead
def unCs (x : V) (j : Nat) (ss : List Sh) (K : List V → Option R) : Option R :=
  match ss with
  | [] => K []
  | s :: ss => unC s (ce x j) fun c => unCs x (j + 1) ss fun cs => K (c :: cs)
def unVs (vs : List V) (j : Nat) (ts : List Ty) (K : List V → Option R) : Option R :=
  match ts with
  | [] => K []
  | .c s :: ts => unC s (vs.getD j .dead) fun c => unVs vs (j + 1) ts fun cs => K (c :: cs)
  | .agg ss :: ts => unSt ss.length (vs.getD j .dead) (unVs vs (j + 1) ts fun cs => K (.dt (vs.getD j .dead) :: cs))
  | _ => none

def exN (xs : List V) (n : Nat) (K : V → Option R) : Option R :=
  match xs[n]? with | some x => K x | none => none
def ix (xs : List V) (i : Int) (K : V → Option R) : Option R :=
  match i with
  | .ofNat n => exN xs n K
  | .negSucc _ => none
def ixS (s : ByteArray) (i : Int) (K : Int → Option R) : Option R :=
  match i with
  | .ofNat n => match s[n]? with | some b => K b.toNat | none => none
  | .negSucc _ => none
def chk (b : Bool) (K : Option R) : Option R := bif b then K else none
def unBytes (xs : List V) (K : List UInt8 → Option R) : Option R :=
  match xs with
  | [] => K []
  | x :: xs => unI .u8 x fun m => unBytes xs fun l => K (UInt8.ofNat m.toNat :: l)
end

def constC (v : Value) : V :=
  match v with
  | .slice none 0 0 => .nil
  | .agg _ => .dead
  | .tuple _ => .dead
  | v => .sc v
def constV (v : Value) : V :=
  match v with
  | .agg cs => .st (cs.toList.map constC)
  | v => constC v

def val (T : TT) (σ : St) : Operand → V
  | .tmp t => σ.sl.getD t .dead
  | .const v => constV v
  | .global g => match T.glob g with | some x => .rp x 0 | none => .dead
  | .func f => .sc (.func (.func f) #[] #[])

/-- the row of a key: an object, or what a cell of a box owns -/
def obRow (lk : Nat → Ob) (k : Nat) (c : Option Nat) : Option (Bool × Nat × List V) :=
  match c, lk k with
  | none, .row o z xs => some (o, z, xs)
  | some c, .box _ cs => match cs.getD c .dead with
    | .own o z xs => some (o, z, xs)
    | _ => none
  | _, _ => none
def obBox (lk : Nat → Ob) (k : Nat) : Option (List V) :=
  match lk k with
  | .box _ cs => some cs
  | _ => none
/-- without the marks that tell who may write -/
def eC : V → V
  | .own _ z xs => .own true z xs
  | v => v
def eO : Ob → Ob
  | .none => .none
  | .box _ cs => .box true (cs.map eC)
  | .row _ z xs => .row true z xs
def lk (σ : St) (k : Nat) : Ob := σ.ob.getD k .none
def lkE (σ : St) (k : Nat) : Ob := eO (σ.ob.getD k .none)
def setO (c : Option Nat) (o : Bool) (z : Nat) (xs : List V) (b : Ob) : Ob :=
  match c, b with
  | none, _ => .row o z xs
  | some c, .box b cs => .box b (cs.set c (.own o z xs))
  | _, b => b
def setRow (σ : St) (k : Nat) (c : Option Nat) (o : Bool) (z : Nat) (xs : List V) : List Ob := σ.ob.set k (setO c o z xs (σ.ob.getD k .none))
def cut (xs : List V) : Option Nat → List V
  | none => xs
  | some n => xs.take n
def cutLen (xs : List V) : Option Nat → Nat
  | none => xs.length
  | some n => n

section
variable {R : Type}
/-- a value made fit to be frozen data; the keys of the rows that are frozen with it -/
def sealC (lk : Nat → Ob) (v : V) (K : V → List (Nat × Option Nat) → Option R) : Option R :=
  match v with
  | .ref k c m => match obRow lk k c with
    | some (_, z, xs) => K (.sl z (cut xs m)) [(k, c)]
    | none => none
  | .sc u => K (.sc u) []
  | .sl z xs => K (.sl z xs) []
  | .nil => K .nil []
  | .clo f cs => K (.clo f cs) []
  | _ => none
def sealCs (lk : Nat → Ob) (vs : List V) (K : List V → List (Nat × Option Nat) → Option R) : Option R :=
  match vs with
  | [] => K [] []
  | v :: vs => sealC lk v fun v' s => sealCs lk vs fun vs' s' => K (v' :: vs') (s ++ s')
def sealV (lk : Nat → Ob) (v : V) (K : V → List (Nat × Option Nat) → Option R) : Option R :=
  match v with
  | .st cs => sealCs lk cs fun cs' s => K (.st cs') s
  | .dt x => K x []
  | v => sealC lk v K
def sealVs (lk : Nat → Ob) (vs : List V) (K : List V → List (Nat × Option Nat) → Option R) : Option R :=
  match vs with
  | [] => K [] []
  | v :: vs => sealV lk v fun v' s => sealVs lk vs fun vs' s' => K (v' :: vs') (s ++ s')
/-- the cells of a box as a value in a slot -/
def viewC (k j : Nat) (v : V) : V :=
  match v with
  | .own .. => .ref k (some j) none
  | v => v
def view (k j : Nat) (cs : List V) : List V :=
  match cs with
  | [] => []
  | c :: cs => viewC k j c :: view k (j + 1) cs
/-- the cells of a box made frozen data -/
def frzC (v : V) (K : V → Option R) : Option R :=
  match v with
  | .own _ z xs => K (.sl z xs)
  | .sc u => K (.sc u)
  | .sl z xs => K (.sl z xs)
  | .nil => K .nil
  | .clo f cs => K (.clo f cs)
  | _ => none
def frzCs (vs : List V) (K : List V → Option R) : Option R :=
  match vs with
  | [] => K []
  | v :: vs => frzC v fun v' => frzCs vs fun vs' => K (v' :: vs')

/-- cells that are data as they stand -/
def datC (v : V) (K : V → Option R) : Option R :=
  match v with
  | .sc u => K (.sc u)
  | .sl z xs => K (.sl z xs)
  | .nil => K .nil
  | .clo f cs => K (.clo f cs)
  | _ => none
def datCs (vs : List V) (K : List V → Option R) : Option R :=
  match vs with
  | [] => K []
  | v :: vs => datC v fun v' => datCs vs fun vs' => K (v' :: vs')

/-- the cells of a value that goes into a box of these shapes: data alone -/
def boxed (lk : Nat → Ob) (ss : List Sh) (v : V) (K : List V → List (Nat × Option Nat) → Option R) : Option R :=
  match v with
  | .st cs => bif Nat.beq cs.length ss.length then sealCs lk cs K else none
  | .dt x => unSt ss.length x (unCs x 0 ss fun cs => K cs [])
  | v => match ss with | [_] => sealC lk v fun c s => K [c] s | _ => none
end

def frzO (c : Option Nat) (o : Ob) : Ob :=
  match c, o with
  | none, .row _ z xs => .row false z xs
  | none, .box _ cs => .box false cs
  | some c, .box b cs => match cs.getD c .dead with
    | .own _ z xs => .box b (cs.set c (.own false z xs))
    | _ => .box b cs
  | _, o => o
def frz1 (ob : List Ob) (k : Nat) (c : Option Nat) : List Ob := ob.set k (frzO c (ob.getD k .none))
def freeze (ob : List Ob) (ks : List (Nat × Option Nat)) : List Ob :=
  match ks with
  | [] => ob
  | (k, c) :: ks => freeze (frz1 ob k c) ks

def killC (k : Nat) (v : V) : V :=
  match v with
  | .ref k' c m => bif Nat.beq k' k then .dead else .ref k' c m
  | .ptr k' c i j => bif Nat.beq k' k then .dead else .ptr k' c i j
  | v => v
def killT (k : Nat) (v : V) : V :=
  match v with
  | .st _ => .dead
  | v => killC k v
def killV (k : Nat) (v : V) : V :=
  match v with
  | .st cs => .st (cs.map (killC k))
  | .tup cs => .tup (cs.map (killT k))
  | v => killC k v
/-- the object k is no more, nor what refers to it -/
def kill (σ : St) (k : Nat) : St := ⟨σ.sl.map (killV k), σ.ob.set k .none⟩
def eqO (a b : Option Nat) : Bool :=
  match a, b with
  | none, none => true
  | some a, some b => Nat.beq a b
  | _, _ => false
/-- the row (k, c) is no more, nor what refers to it -/
def kilC (k : Nat) (c : Option Nat) (v : V) : V :=
  match v with
  | .ref k' c' m => bif Nat.beq k' k && eqO c' c then .dead else .ref k' c' m
  | .ptr k' c' i j => bif Nat.beq k' k && eqO c' c then .dead else .ptr k' c' i j
  | v => v
def kilT (k : Nat) (c : Option Nat) (v : V) : V :=
  match v with
  | .st _ => .dead
  | v => kilC k c v
def kilV (k : Nat) (c : Option Nat) (v : V) : V :=
  match v with
  | .st cs => .st (cs.map (kilC k c))
  | .tup cs => .tup (cs.map (kilT k c))
  | v => kilC k c v
def kilB (c : Option Nat) (o : Ob) : Ob :=
  match c, o with
  | some c, .box b cs => .box b (cs.set c .dead)
  | none, .row .. => .none
  | _, o => o
def kilO (ob : List Ob) (k : Nat) (c : Option Nat) : List Ob := ob.set k (kilB c (ob.getD k .none))
def kil (σ : St) (k : Nat) (c : Option Nat) : St := ⟨σ.sl.map (kilV k c), kilO σ.ob k c⟩
def hasC (k : Nat) (v : V) : Bool :=
  match v with
  | .ref k' _ _ => Nat.beq k' k
  | .ptr k' _ _ _ => Nat.beq k' k
  | _ => false
def hasT (k : Nat) (v : V) : Bool :=
  match v with
  | .st _ => true
  | v => hasC k v
def hasV (k : Nat) (v : V) : Bool :=
  match v with
  | .st cs => cs.any (hasC k)
  | .tup cs => cs.any (hasT k)
  | v => hasC k v
def isNone : Ob → Bool | .none => true | _ => false
/-- an object that nothing refers to is dropped -/
def gc (σ : St) (k : Nat) : St :=
  bif isNone (σ.ob.getD k .none) then σ else bif σ.sl.any (hasV k) then σ else ⟨σ.sl, σ.ob.set k .none⟩
def drop (σ : St) (k : Nat) : St := ⟨σ.sl.set k .dead, σ.ob⟩

section
variable {R : Type}

def aInt (op : BinOp) (k : IntKind) (a b : Int) (K : Value → Option R) : Option R :=
  match op with
  | .add => K (.int k (k.wrap (a + b)))
  | .sub => K (.int k (k.wrap (a - b)))
  | .mul => K (.int k (k.wrap (a * b)))
  | .quo => chk (!decide (b = 0)) (K (.int k (k.wrap (a.tdiv b))))
  | .rem => chk (!decide (b = 0)) (K (.int k (a.tmod b)))
  | .and => K (.int k (k.wrap (BitVec.ofInt k.bits a &&& BitVec.ofInt k.bits b).toNat))
  | .or => K (.int k (k.wrap (BitVec.ofInt k.bits a ||| BitVec.ofInt k.bits b).toNat))
  | .xor => K (.int k (k.wrap (BitVec.ofInt k.bits a ^^^ BitVec.ofInt k.bits b).toNat))
  | .andNot => K (.int k (k.wrap (BitVec.ofInt k.bits a &&& ~~~BitVec.ofInt k.bits b).toNat))
  | .eql => K (.bool (a == b))
  | .neq => K (.bool (a != b))
  | .lss => K (.bool (decide (a < b)))
  | .leq => K (.bool (decide (a ≤ b)))
  | .gtr => K (.bool (decide (a > b)))
  | .geq => K (.bool (decide (a ≥ b)))
  | _ => none
def aStr (op : BinOp) (a b : ByteArray) (K : Value → Option R) : Option R :=
  match op with
  | .add => chk (decide (a.size + b.size ≤ 9223372036854775807)) (K (.string (a ++ b)))
  | .eql => K (.bool (a.toList == b.toList))
  | .neq => K (.bool !(a.toList == b.toList))
  | .lss => K (.bool (Op.bytesLess a.toList b.toList))
  | .leq => K (.bool (Op.bytesLess a.toList b.toList || a.toList == b.toList))
  | .gtr => K (.bool !(Op.bytesLess a.toList b.toList || a.toList == b.toList))
  | .geq => K (.bool !(Op.bytesLess a.toList b.toList))
  | _ => none
def isBoolTy : Ty → Bool
  | .c .b => true
  | _ => false
def isStrTy : Ty → Bool
  | .c .tx => true
  | _ => false
def intTy : Ty → Option IntKind
  | .c (.i k) => some k
  | _ => none
def aBin (t : Ty) (op : BinOp) (x y : V) (K : Value → Option R) : Option R :=
  match x, y with
  | .sc (.int k a), .sc (.int k' b) =>
    match op with
    | .shl => chk (!decide (b < 0)) (K (.int k (k.wrap (a * 2 ^ min b.toNat k.bits))))
    | .shr => chk (!decide (b < 0)) (K (.int k (a.fdiv (2 ^ min b.toNat k.bits))))
    | op => bif decide (k = k') then aInt op k a b K else none
  | .sc (.string a), .sc (.string b) => aStr op a b K
  | .sc (.bool a), .sc (.bool b) => bif isBoolTy t then
    match op with
    | .eql => K (.bool (a == b))
    | .neq => K (.bool !(a == b))
    | _ => none
    else none
  | _, _ => none
def aUn (op : UnOp) (x : V) (K : Value → Option R) : Option R :=
  match op, x with
  | .neg, .sc (.int k n) => K (.int k (k.wrap (0 - n)))
  | .xor, .sc (.int k n) => K (.int k (k.wrap (BitVec.ofInt k.bits (if k.signed then -1 else k.max) ^^^ BitVec.ofInt k.bits n).toNat))
  | .not, .sc (.bool b) => K (.bool !b)
  | _, _ => none
def asLen (lk : Nat → Ob) (v : V) (K : Nat → Option R) : Option R :=
  match v with
  | .sc (.string s) => K s.size
  | .sl _ xs => K xs.length
  | .nil => K 0
  | .ref k c m => match obRow lk k c with
    | some (_, _, xs) => K (cutLen xs m)
    | none => none
  | _ => none
/-- the elements of a slice -/
def asList (lk : Nat → Ob) (z : Nat) (v : V) (K : List V → Option R) : Option R :=
  match v with
  | .sl z' xs => bif Nat.beq z z' then K xs else none
  | .nil => K []
  | .ref k c m => match obRow lk k c with
    | some (_, z', xs) => bif Nat.beq z z' then K (cut xs m) else none
    | none => none
  | _ => none
def asI (v : V) (K : Int → Option R) : Option R :=
  match v with
  | .sc (.int _ n) => K n
  | _ => none
def setPart (cs : List V) (off : Nat) (ps : List V) : List V :=
  match ps with
  | [] => cs
  | p :: ps => setPart (cs.set off p) (off + 1) ps
/-- a part of a literal as cells -/
def partCs (v : V) (K : List V → Option R) : Option R :=
  match v with
  | .st cs => K cs
  | .dt _ | .dead | .tup _ => none
  | v => K [v]
def fillP (place : Nat → Option (Nat × Nat)) (cs : List V) (parts : List (Nat × V)) (K : List V → Option R) : Option R :=
  match parts with
  | [] => K cs
  | (i, v) :: ps => match place i with
    | some (off, z) => partCs v fun p => bif Nat.beq p.length z && Nat.ble (off + z) cs.length then fillP place (setPart cs off p) ps K else none
    | none => none
def fillE (xs : List V) (parts : List (Nat × V)) : List V :=
  match parts with
  | [] => xs
  | (i, v) :: ps => fillE (xs.set i v) ps
def oneOr (cs : List V) : V := match cs with | [c] => c | cs => .st cs
def pickB (c a b : V) (K : V → Option R) : Option R :=
  match c with
  | .sc (.bool t) => match a, b with
    | .sc (.bool a), .sc (.bool b) => K (.sc (.bool (bif t then a else b)))
    | a, b => bif t then K a else K b
  | _ => none

/-- a value that is of its type, as far as a cut must know -/
def sliceOk (T : TT) (t : TypeId) (x : V) : V :=
  match x with
  | .sc (.string s) => bif isStrTy (T.ty t) then .sc (.string s) else .dead
  | .sl z xs => match T.el t with | some (_, z') => bif Nat.beq z z' then .sl z xs else .dead | none => .dead
  | .ref k c m => match T.el t with | some _ => .ref k c m | none => .dead
  | .nil => match T.el t with | some _ => .nil | none => .dead
  | _ => .dead

/-- nothing in a cell of a slice is the empty list -/
def nrmC (s : Sh) (v : V) : V :=
  match s, v with
  | .l z, .nil => .sl z []
  | _, v => v
def nrmCs : List Sh → List V → List V
  | s :: ss, v :: vs => nrmC s v :: nrmCs ss vs
  | _, vs => vs
def nrmV (T : TT) (t : TypeId) (v : V) : V :=
  match v with
  | .st cs => (match T.ty t with
    | .agg ss => .st (nrmCs ss cs)
    | _ => .st cs)
  | v => v
def nrmA (T : TT) : List TypeId → List V → List V
  | t :: ts, v :: vs => nrmV T t v :: nrmA T ts vs
  | _, vs => vs
/-- the row that a pointer leads into, and the place there -/
def ldRow (lk : Nat → Ob) (v : V) : Option (List V × Nat × Nat) :=
  match v with
  | .ptr k c i j => match obRow lk k c with
    | some (_, _, xs) => some (xs, i, j)
    | none => none
  | _ => none
def isRp : V → Bool
  | .rp .. => true
  | _ => false
/-- what a quiet operation yields: its value, the object that it makes (under its own slot's number), the objects that it freezes -/
def qv (T : TT) (call : FuncId → List V → Option Res) (v : Operand → V) (lk : Nat → Ob) (d : Nat) (o : Oper) (K : V → Ob → List (Nat × Option Nat) → Option R) : Option R :=
  let k0 (x : V) : Option R := match x with | .dead => none | x => K x .none []
  match o.op with
  | .move x | .assign x => k0 (v x)
  | .pick c a b => pickB (v c) (v a) (v b) fun x => K x .none []
  | .alloc t => match T.zero t with
    | some cs => K (.ptr d none 0 0) (.box true cs) []
    | none => none
  | .box t x => match T.ty t with
    | .c s => boxed lk [s] (v x) fun cs s => K (.ptr d none 0 0) (.box true cs) s
    | .agg ss => boxed lk ss (v x) fun cs s => K (.ptr d none 0 0) (.box true cs) s
    | _ => none
  | .build t ps => match T.ty t, T.zero t, fnd T.offL t with
    | .agg _, some zs, some l => fillP (fun f => l[f]?) zs (ps.toList.map fun p => (p.1, v p.2)) fun cs => K (.st cs) .none []
    | _, _, _ => none
  | .buildSlice t n ps => match T.el t with
    | some (e, z) => match T.zero e with
      | some zs => bif Nat.beq n 0 && ps.toList.isEmpty then K (.ref d none none) (.row true z []) [] else bif Nat.ble (n * z) 16777216 && !Nat.beq n 0 && ps.toList.all (fun p => Nat.blt p.1 n) then sealVs lk (ps.toList.map fun p => nrmV T e (v p.2)) fun xs s =>
        wds z xs (K (.ref d none none) (.row true z (fillE (List.replicate n (oneOr zs)) ((ps.toList.map (·.1)).zip xs))) s) else none
      | none => none
    | none => none
  | .load t a => match ldRow lk (v a) with
   | some (xs, i, j) => (match T.ty t with
    | .c s => exN xs i fun x => unC s (ce x j) fun c => K c .none []
    | .agg ss => (match j with
      | 0 => exN xs i fun x => unSt ss.length x (K (.dt x) .none [])
      | j => exN xs i fun x => unCs x j ss fun cs => K (.st cs) .none [])
    | _ => none)
   | none => match v a, T.ty t with
    | .ptr k none 0 j, .c s => match lk k with
      | .box _ cs => k0 (viewC k j (cs.getD j .dead))
      | .row _ _ xs => exN xs 0 fun x => unC s (ce x j) fun c => K c .none []
      | .none => none
    | .ptr k none 0 j, .agg ss => match lk k with
      | .box _ cs => bif Nat.ble (j + ss.length) cs.length then K (.st (((view k 0 cs).drop j).take ss.length)) .none [] else none
      | .row _ _ xs => match j with
        | 0 => exN xs 0 fun x => unSt ss.length x (K (.dt x) .none [])
        | j => exN xs 0 fun x => unCs x j ss fun cs => K (.st cs) .none []
      | .none => none
    | .ptr k c i j, .c s => match obRow lk k c with
      | some (_, _, xs) => exN xs i fun x => unC s (ce x j) fun c => K c .none []
      | none => none
    | .ptr k c i j, .agg ss => match obRow lk k c with
      | some (_, _, xs) => match j with
        | 0 => exN xs i fun x => unSt ss.length x (K (.dt x) .none [])
        | j => exN xs i fun x => unCs x j ss fun cs => K (.st cs) .none []
      | none => none
    | .rp x j, .c s => unC s (ce x j) fun c => K c .none []
    | .rp x 0, .agg ss => unSt ss.length x (K (.dt x) .none [])
    | .rp x j, .agg ss => unCs x j ss fun cs => K (.st cs) .none []
    | _, _ => none
  | .nilCheck x => match v x with
    | .ptr k c i j => K (.ptr k c i j) .none []
    | .rp x j => K (.rp x j) .none []
    | _ => none
  | .binOp op t x y _ => aBin (T.ty t) op (v x) (v y) fun u => K (.sc u) .none []
  | .unOp op _ x => aUn op (v x) fun u => K (.sc u) .none []
  | .convert s t x => match intTy (T.ty s), intTy (T.ty t) with
    | some _, some k => asI (v x) fun n => K (.sc (.int k (k.wrap n))) .none []
    | _, _ => bif memN T.u8L s && isStrTy (T.ty t) then asList lk 1 (v x) fun xs => unBytes xs fun l => K (.sc (.string ⟨l.toArray⟩)) .none [] else none
  | .makeFunc (.func f) first caps => match first.size, caps.toList with
    | 0, [] => K (.clo f []) .none []
    | 0, [c] => match v c with
      | .ptr k none 0 0 => match obBox lk k with
        | some cs => datCs cs fun cs' => K (.clo f [.rp (oneOr cs') 0]) .none [(k, none)]
        | none => none
      | _ => none
    | _, _ => none
  | .makeSlice t l c => match T.el t with
    | some (e, z) => match T.zero e, T.esz e with
      | some zs, some by_ => asI (v l) fun n => asI (v c) fun m => chk (decide (0 ≤ n) && decide (n = m) && decide (n.toNat * by_ ≤ 140737488355328)) (K (.ref d none none) (.row true z (List.replicate n.toNat (oneOr zs))) [])
      | _, _ => none
    | none => none
  | .slice t x lo hi mx => match sliceOk T t (v x), lo.map v, hi.map v with
    | .sc (.string s), none, some h => asI h fun h => chk (mx.isNone && decide (0 ≤ h) && decide (h ≤ s.size)) (K (.sc (.string (s.extract 0 h.toNat))) .none [])
    | .sc (.string s), some l, none => asI l fun l => chk (mx.isNone && decide (0 ≤ l) && decide (l ≤ s.size)) (K (.sc (.string (s.extract l.toNat s.size))) .none [])
    | .sc (.string s), some l, some h => asI l fun l => asI h fun h => chk (mx.isNone && decide (0 ≤ l) && decide (l ≤ h) && decide (h ≤ s.size)) (K (.sc (.string (s.extract l.toNat h.toNat))) .none [])
    | .sl z xs, none, some h => asI h fun h => chk (mx.isNone && decide (0 ≤ h) && decide (h ≤ xs.length)) (K (.sl z (xs.take h.toNat)) .none [])
    | .sl z xs, some l, none => asI l fun l => chk (mx.isNone && decide (0 ≤ l) && decide (l ≤ xs.length)) (K (.sl z (xs.drop l.toNat)) .none [])
    | .sl z xs, some l, some h => asI l fun l => asI h fun h => chk (mx.isNone && decide (0 ≤ l) && decide (l ≤ h) && decide (h ≤ xs.length)) (K (.sl z ((xs.take h.toNat).drop l.toNat)) .none [])
    | .ref k c m, none, some h => match obRow lk k c with
      | some (_, _, xs) => asI h fun h => match mx.map v with
        | none => chk (decide (0 ≤ h) && decide (h ≤ cutLen xs m)) (K (.ref k c (some h.toNat)) .none [])
        | some x => asI x fun x => chk (decide (x = h) && decide (0 ≤ h) && decide (h ≤ cutLen xs m)) (K (.ref k c (some h.toNat)) .none [])
      | none => none
    | .ref k c m, some l, none => match obRow lk k c with
      | some (_, z, xs) => bif (match T.el t with | some (_, z') => Nat.beq z z' | none => false) then asI l fun l => chk (mx.isNone && decide (0 ≤ l) && decide (l ≤ cutLen xs m)) (K (.sl z ((cut xs m).drop l.toNat)) .none [(k, c)]) else none
      | none => none
    | .nil, none, some h => asI h fun h => chk (mx.isNone && decide (h = 0)) (K .nil .none [])
    | _, _, _ => none
  | .fieldAddr t x f => match T.off t f, v x with
    | some (off, _), .ptr k c i j => K (.ptr k c i (j + off)) .none []
    | some (off, _), .rp x j => K (.rp x (j + off)) .none []
    | _, _ => none
  | .indexAddr t x i => match T.el t, T.arr t, v x with
    | some (_, z), _, .sl z' xs => bif Nat.beq z z' then asI (v i) fun i => ix xs i fun x => K (.rp x 0) .none [] else none
    | some (_, z), _, .ref k c m => match obRow lk k c with
      | some (_, z', xs) => bif Nat.beq z z' then asI (v i) fun i => chk (decide (0 ≤ i) && decide (i < cutLen xs m)) (K (.ptr k c i.toNat 0) .none []) else none
      | none => none
    | none, some (n, z), .rp x j => asI (v i) fun i => chk (decide (0 ≤ i) && decide (i < n)) (K (.rp x (j + i.toNat * z)) .none [])
    | _, _, _ => none
  | .index t x i => match v x with
    | .sc (.string s) => bif isStrTy (T.ty t) then asI (v i) fun i => ixS s i fun b => K (.sc (.int .u8 b)) .none [] else none
    | _ => none
  | .extract t i => match v t with
    | .tup vs => k0 (vs.getD i .dead)
    | _ => none
  | .call c => match c.callee with
    | .builtin .len => match c.args.toList, c.argTypes.toList with
      | [x], [t] => asLen lk (sliceOk T t (v x)) fun n => K (.sc (.int .i64 n)) .none []
      | _, _ => none
    | .builtin .max => match c.args.toList.map v with
      | [.sc (.int k a), .sc (.int _ b)] => K (.sc (.int k (if b > a then b else a))) .none []
      | _ => none
    | .builtin .min => match c.args.toList.map v with
      | [.sc (.int k a), .sc (.int _ b)] => K (.sc (.int k (if b < a then b else a))) .none []
      | _ => none
    | .value f =>
      let go (f : FuncId) (more : List V) : Option R := bif T.loud f then none else
        sealVs lk (nrmA T c.argTypes.toList (c.args.toList.map v)) fun vs s => (call f (vs ++ more)).bind fun r =>
          match T.ty o.type with
          | .c sh => unC sh r.1 fun x => K x .none s
          | .agg ss => unSt ss.length r.1 (K (.dt r.1) .none s)
          | .p ss => unIo r.1 fun cs => unCs (.st cs) 0 ss fun cs => K (.ptr d none 0 0) (.box true cs) s
          | .tup ts => unTup ts.length r.1 fun vs => unVs vs 0 ts fun vs => K (.tup vs) .none s
      match v f with
      | .sc (.func (.func f) fs cv) => bif Nat.beq fs.size 0 && Nat.beq cv.size 0 then go f [] else none
      | .clo f caps => bif caps.all isRp then go f caps else none
      | _ => none
    | _ => none
  | _ => none

end

def isQuiet (T : TT) (o : Oper) : Bool :=
  match o.op with
  | .store .. => false
  | .call { callee := .builtin .append, .. } | .call { callee := .builtin .copy, .. } => false
  | .call { callee := .value (.func f), .. } => !T.loud f
  | _ => true

def setN (l : List Ob) (d : Nat) (ob : Ob) : List Ob := match ob with | .none => l | ob => l.set d ob
def putQ (σ : St) (d : Nat) (x : V) (ob : Ob) (s : List (Nat × Option Nat)) : St := ⟨σ.sl.set d x, setN (freeze σ.ob s) d ob⟩
def putN (σ : St) (d : Nat) (x : V) (ob : Ob) : St := ⟨σ.sl.set d x, setN σ.ob d ob⟩

section
variable {R : Type}
def setCe (x : V) (j : Nat) (c : V) : V :=
  match x with
  | .st cs => .st (cs.set j c)
  | _ => c
/-- the cells of a frozen value go into an object -/
def wr1 (σ : St) (k : Nat) (c : Option Nat) (i j : Nat) (x : V) (K : St → Option R) : Option R :=
  match obRow (lk σ) k c with
  | some (o, z, xs) => bif o && Nat.blt j z then exN xs i fun y => K ⟨σ.sl, setRow σ k c true z (xs.set i (setCe y j x))⟩ else none
  | none => match c, i, σ.ob.getD k .none with
    | none, 0, .box true cs => bif Nat.blt j cs.length then K ⟨(kil σ k (some j)).sl, σ.ob.set k (.box true (cs.set j x))⟩ else none
    | _, _, _ => none
def kilP (σ : St) (k j : Nat) : Nat → St
  | 0 => σ
  | n + 1 => kilP (kil σ k (some j)) k (j + 1) n
/-- the cells of a value that is known cell by cell -/
def srcC : V → List V
  | .st cs => cs
  | _ => []
def isNil : V → Bool
  | .nil => true
  | _ => false
/-- what was nothing stays so -/
def nilBack : List V → List V → List V
  | n :: ns, p :: ps => (bif isNil n then .nil else p) :: nilBack ns ps
  | _, ps => ps
def wrN (σ : St) (k : Nat) (c : Option Nat) (i j : Nat) (ss : List Sh) (ns : List V) (x : V) (K : St → Option R) : Option R :=
  match obRow (lk σ) k c with
  | some (o, z, xs) => bif o && Nat.beq j 0 && Nat.beq ss.length z then wd z x (exN xs i fun _ => K ⟨σ.sl, setRow σ k c true z (xs.set i x)⟩) else none
  | none => match c, i, σ.ob.getD k .none with
    | none, 0, .box true cs => bif Nat.ble (j + ss.length) cs.length then unSt ss.length x (unCs x 0 ss fun ps => K ⟨(kilP σ k j ss.length).sl, σ.ob.set k (.box true (setPart cs j (nilBack ns ps)))⟩) else none
    | _, _, _ => none
/-- a row goes into a cell of a box -/
def mvR (σ : St) (k j : Nat) (k' : Nat) (c' m : Option Nat) (K : St → Option R) : Option R :=
  match obRow (lk σ) k' c' with
  | some (true, z, xs) =>
    let σ' := kil (kil σ k' c') k (some j)
    match σ'.ob.getD k .none with
    | .box true cs => bif Nat.blt j cs.length then K ⟨σ'.sl, σ'.ob.set k (.box true (cs.set j (.own true z (cut xs m))))⟩ else none
    | _ => none
  | _ => none
def ownedB (σ : St) (k : Nat) (c : Option Nat) : Bool := match obRow (lk σ) k c with | some (o, _, _) => o | none => false
/-- a store through a pointer -/
def sto (T : TT) (σ : St) (t : TypeId) (a x : V) (K : St → Option R) : Option R :=
  match a, T.ty t with
  | .ptr k c i j, .c _ =>
    let plain := sealC (lkE σ) x fun x s => wr1 ⟨σ.sl, freeze σ.ob s⟩ k c i j x K
    match x with
    | .ref k' c' m => bif isBox (σ.ob.getD k .none) && isN c && ownedB σ k' c' then bif Nat.beq i 0 then mvR σ k j k' c' m K else none else plain
    | _ => plain
  | .ptr k c i j, .agg ss => let ns := srcC x; sealV (lkE σ) (nrmV T t x) fun x s => wrN ⟨σ.sl, freeze σ.ob s⟩ k c i j ss ns x K
  | _, _ => none
where
  isBox : Ob → Bool | .box .. => true | _ => false
  isN : Option Nat → Bool | none => true | _ => false

/-- append: the row that is appended to is no more -/
def app (σ : St) (d : Nat) (z : Nat) (bytes : Nat) (s x : V) (K : St → Option R) : Option R :=
  bif Nat.blt d σ.ob.length then match s with
  | .nil => asList (lkE σ) z x fun ys => chk (decide (ys.length * bytes ≤ 140737488355328) && !decide (ys.length = 0))
      (let σ' := kill σ d; K ⟨σ'.sl.set d (.ref d none none), σ'.ob.set d (.row true z ys)⟩)
  | .ref k c m => match obRow (lk σ) k c with
    | some (o, z', xs) => bif o && Nat.beq z z' then asList (lkE σ) z x fun ys => chk (decide (((cut xs m).length + ys.length) * bytes ≤ 140737488355328))
        (let σ' := kill (kil σ k c) d; K ⟨σ'.sl.set d (.ref d none none), σ'.ob.set d (.row true z (cut xs m ++ ys))⟩) else none
    | _ => none
  | _ => none
  else none

/-- a frozen row in a cell is data -/
def unO (v : V) : V :=
  match v with
  | .own false z xs => .sl z xs
  | v => v
/-- the arguments of a call that is handed pointers to boxes: what is no pointer is made fit .. -/
def ioSeal (lk : Nat → Ob) (vs : List V) (K : List V → List (Nat × Option Nat) → Option R) : Option R :=
  match vs with
  | [] => K [] []
  | .ptr k none 0 0 :: vs => ioSeal lk vs fun vs s => K (.ptr k none 0 0 :: vs) s
  | v :: vs => sealV lk v fun v s => ioSeal lk vs fun vs s' => K (v :: vs) (s ++ s')
/-- .. and the boxes go in -/
def ioFill (ob : List Ob) (vs : List V) (K : List V → List Nat → Option R) : Option R :=
  match vs with
  | [] => K [] []
  | .ptr k none 0 0 :: vs => match ob.getD k .none with
    | .box true cs => ioFill ob vs fun vs q => K (.io (cs.map unO) :: vs) (k :: q)
    | _ => none
  | v :: vs => ioFill ob vs fun vs q => K (v :: vs) q
def cellOk : V → Bool
  | .own false _ _ => false
  | _ => true
/-- what comes back is laid into the boxes again; what referred to rows in them is forgotten -/
def unEnd (os : List V) (K : Option R) : Option R :=
  match os with
  | [] => K
  | _ :: _ => none
def unOut (os : List V) (K : List V → List V → Option R) : Option R :=
  match os with
  | .io cs :: os => K cs os
  | _ => none
def ioBack (σ : St) (ks : List Nat) (outs : List V) (K : St → Option R) : Option R :=
  match ks with
  | [] => unEnd outs (K σ)
  | k :: ks => unOut outs fun cs outs => match σ.ob.getD k .none with
    | .box _ old => bif Nat.beq cs.length old.length && cs.all cellOk then ioBack ⟨(kilP σ k 0 old.length).sl, σ.ob.set k (.box true cs)⟩ ks outs K else none
    | _ => none
end

/-! ### the cells of a box that was handed to a call, as its type has them -/
section
variable {R : Type}
def unO1 (z : Nat) (v : V) (K : List V → Option R) : Option R :=
  match v with
  | .own true z' xs => bif Nat.beq z' z then K xs else none
  | _ => none
def unNO (z : Nat) (v : V) (K0 : Option R) (K1 : List V → Option R) (K2 : List V → Option R) : Option R :=
  match v with
  | .nil => K0
  | .own true z' xs => bif Nat.beq z' z then K1 xs else none
  | .sl z' xs => bif Nat.beq z' z then K2 xs else none
  | _ => none
def rsC (s : Sh) (old v : V) (K : V → Option R) : Option R :=
  match old, s with
  | .own _ z _, _ => unO1 z v fun xs => K (.own true z xs)
  | .nil, .l z => unNO z v (K .nil) (fun xs => K (.own true z xs)) (fun xs => K (.sl z xs))
  | _, s => unC s v K
def rsCs (olds cs : List V) (j : Nat) (ss : List Sh) (K : List V → Option R) : Option R :=
  match ss with
  | [] => K []
  | s :: ss => rsC s (olds.getD j .dead) (cs.getD j .dead) fun c => rsCs olds cs (j + 1) ss fun cs' => K (c :: cs')
def cellsOf : Ob → List V
  | .box _ cs => cs
  | _ => []
def rsB (σ0 σ : St) (k : Nat) (ss : List Sh) (K : St → Option R) : Option R :=
  match σ.ob.getD k .none with
  | .box o cs => bif Nat.beq cs.length ss.length then rsCs (cellsOf (σ0.ob.getD k .none)) cs 0 ss fun cs' => K ⟨σ.sl, σ.ob.set k (.box o cs')⟩ else none
  | _ => none
def rsA (T : TT) (σ0 σ : St) (az : List (V × TypeId)) (K : St → Option R) : Option R :=
  match az with
  | [] => K σ
  | (.ptr k none 0 0, t) :: az => match T.ty t with
    | .p ss => rsB σ0 σ k ss fun σ => rsA T σ0 σ az K
    | _ => rsA T σ0 σ az K
  | _ :: az => rsA T σ0 σ az K
end
def loudArgs (T : TT) (σ : St) (o : Oper) : List (V × TypeId) :=
  match o.op with
  | .call { callee := .value _, args, argTypes } => (args.toList.map (val T σ)).zip argTypes.toList
  | _ => []

/-! ### regions -/
/-- the slots that an operation reads -/
def readsOf (ops : List Oper) (o : Oper) : List Nat :=
  (o.op.operands.toList.filterMap fun | .tmp t => some t | _ => none) ++
  (match o.guard with | some (j, _) => ((ops[j]?).bind (·.dst)).toList | none => [])
/-- for each operation: those that stand before it in every order -/
def befores (ops : List Oper) : List (List Nat) :=
  ops.foldl (fun acc o => acc ++ [o.after.toList.foldl (fun l e => bif Region.binds .any e then e.on :: acc.getD e.on [] ++ l else l) []]) []
/-- operations i < j (by place) may be exchanged -/
def apartB (T : TT) (ops : List Oper) (x y : Oper) : Bool :=
  isQuiet T x && isQuiet T y && match x.dst, y.dst with
  | some dx, some dy => !Nat.beq dx dy && !memN (readsOf ops x) dy && !memN (readsOf ops y) dx
  | _, _ => false
def dstNe (x y : Oper) : Bool := match x.dst, y.dst with | some a, some b => !Nat.beq a b | _, _ => true
def regOk (T : TT) (ops : List Oper) : Bool :=
  let bs := befores ops
  ops.zipIdx.all fun (y, j) => y.after.toList.all (fun e => !Region.binds .any e || Nat.blt e.on j) && ops.zipIdx.all fun (x, i) => !Nat.blt i j || (dstNe x y && (memN (bs.getD j []) i || apartB T ops x y))

def keysC : V → List Nat
  | .ref k _ _ => [k]
  | .ptr k _ _ _ => [k]
  | _ => []
def keysN : V → List Nat
  | .st cs => cs.flatMap keysC
  | .tup vs => vs.flatMap fun | .st cs => cs.flatMap keysC | v => keysC v
  | v => keysC v
/-- what the operation reads refers to objects that are there -/
def keysOk (T : TT) (σ : St) (o : Oper) : Bool := o.op.operands.toList.all fun x => (keysN (val T σ x)).all fun k => !isNone (σ.ob.getD k .none)
def dstOf (o : Oper) : Nat := o.dst.getD 0
/-- what a region's quiet operations will make is made room for -/
def prep (T : TT) (ops : List Oper) (σ : St) : St :=
  match ops with
  | [] => σ
  | o :: ops => bif isQuiet T o then prep T ops (bif isNone (σ.ob.getD (dstOf o) .none) then σ else kill σ (dstOf o)) else prep T ops σ
/-- behind a region: what is used within it alone is dropped -/
def clean (kp : Nat → Bool) (ops : List Oper) (σ : St) : St :=
  match ops with
  | [] => σ
  | o :: ops => match o.dst with
    | some d => bif kp d then clean kp ops σ else clean kp ops (drop σ d)
    | none => clean kp ops σ
def gcs (ops : List Oper) (σ : St) : St :=
  match ops with
  | [] => σ
  | o :: ops => match o.dst with
    | some d => gcs ops (gc σ d)
    | none => gcs ops σ

section
variable (T : TT) (call : FuncId → List V → Option Res)

/-- one loud operation -/
def exLoud0 {R : Type} (σ : St) (o : Oper) (K : St → Option R) : Option R :=
  match o.op, o.dst with
  | .store t a x, none => sto T σ t (val T σ a) (val T σ x) K
  | .call { callee := .builtin .append, args, argTypes }, some d => match args.toList, argTypes.toList with
    | [s, x], [t, t'] => match T.el t with
      | some (e, z) => bif Nat.beq t t' then match T.esz e, T.zero e with
        | some by_, some _ => app σ d z by_ (val T σ s) (val T σ x) K
        | _, _ => none else none
      | none => none
    | _, _ => none
  | .call { callee := .value f, args, argTypes }, some d => match val T σ f with
    | .sc (.func (.func f) fs cv) => bif Nat.beq fs.size 0 && Nat.beq cv.size 0 then ioSeal (lkE σ) (nrmA T argTypes.toList (args.toList.map (val T σ))) fun az s => ioFill (freeze σ.ob s) az fun vs q => bif nodup q then
        (call f vs).bind fun r => ioBack ⟨σ.sl, freeze σ.ob s⟩ q r.2 fun σ => match T.ty o.type with
          | .c sh => unC sh r.1 fun x => K ⟨σ.sl.set d x, σ.ob⟩
          | .agg ss => unSt ss.length r.1 (K ⟨σ.sl.set d (.dt r.1), σ.ob⟩)
          | .tup ts => unTup ts.length r.1 fun vs => unVs vs 0 ts fun vs => K ⟨σ.sl.set d (.tup vs), σ.ob⟩
          | .p _ => none
        else none
      else none
    | _ => none
  | _, _ => none

def exLoud {R : Type} (σ : St) (o : Oper) (K : St → Option R) : Option R := exLoud0 T call σ o fun σ' => rsA T σ σ' (loudArgs T σ o) K

/-- one operation; fs: what is frozen since the last loud one -/
def exOp (dr : Bool) (σ : St) (fs : List (Nat × Option Nat)) (o : Oper) (K : St → List (Nat × Option Nat) → Option Res) : Option Res :=
  bif isQuiet T o then bif dr && !keysOk T σ o then none else match o.dst with
    | some d => qv T call (val T σ) (lkE σ) d o fun x ob s => bif isNone ob || isNone (σ.ob.getD d .none) then K (putN σ d x ob) (fs ++ s) else none
    | none => none
  else exLoud T call ⟨σ.sl, freeze σ.ob fs⟩ o fun σ => K σ []

/-- what a step that is skipped leaves -/
def isUndef : V → Bool
  | .tup [] => true
  | _ => false
def exOps (dr : Bool) (all : List Oper) : List Oper → St → List (Nat × Option Nat) → (St → Option Res) → Option Res
  | [], σ, fs, K => K ⟨σ.sl, freeze σ.ob fs⟩
  | o :: ops, σ, fs, K =>
    match o.guard with
    | none => exOp T call dr σ fs o (fun σ fs => exOps dr all ops σ fs K)
    | some (j, want) => match (all[j]?).bind (·.dst) with
      | none => none
      | some g =>
        let go (t : Bool) : Option Res :=
          let σ := (⟨σ.sl.set g (.sc (.bool t)), σ.ob⟩ : St)
          bif t == want then exOp T call dr σ fs o (fun σ fs => exOps dr all ops σ fs K) else match o.dst with
            | some d => exOps dr all ops ⟨σ.sl.set d (.tup []), σ.ob⟩ fs K
            | none => none
        bif isUndef (σ.sl.getD g .dead) then (match o.dst with
            | some d => exOps dr all ops ⟨σ.sl.set d (.tup []), σ.ob⟩ fs K
            | none => none) else unB (σ.sl.getD g .dead) fun t => bif t then go true else go false
/-! ### drawn regions with a loud call that floats among quiet operations -/
/-- what an operation did: i: its place; us: the keys that it looked at; ts: the keys that it may have turned; x: what it put; pl: it made no object and froze nothing; ld: it is loud -/
structure Ent where
  i : Nat
  us : List Nat
  ts : List Nat
  x : V
  pl : Bool
  ld : Bool
def disj (a b : List Nat) : Bool := a.all fun k => !memN b k
/-- nothing in it is forgotten when rows in the boxes ks are -/
def trC (ks : List Nat) (v : V) : Bool :=
  match v with
  | .ref k (some _) _ => !memN ks k
  | .ptr k (some _) _ _ => !memN ks k
  | _ => true
def trT (ks : List Nat) (v : V) : Bool :=
  match v with
  | .st _ => false
  | v => trC ks v
def triv (ks : List Nat) (v : V) : Bool :=
  match v with
  | .st cs => cs.all (trC ks)
  | .tup cs => cs.all (trT ks)
  | v => trC ks v
def okEnt (un : List (List Nat)) (e e' : Ent) : Bool := !memN (un.getD e.i []) e'.i || !(e.ld || e'.ld) || (e.pl && e'.pl && disj e.us e'.ts && disj e'.us e.ts && triv e'.ts e.x && triv e.ts e'.x)
def okLog (un : List (List Nat)) (e : Ent) (lg : List Ent) : Bool := lg.all (okEnt un e)
def noDt : V → Bool
  | .dt _ => false
  | _ => true
def opKeys (σ : St) (o : Oper) : List Nat := o.op.operands.toList.flatMap fun x => keysN (val T σ x)
/-- the operations that stand in no order with each -/
def unOf (ops : List Oper) : List (List Nat) :=
  let bs := befores ops
  ops.zipIdx.map fun (_, j) => (ops.zipIdx.filter fun (_, i) => !Nat.beq i j && !memN (bs.getD j []) i && !memN (bs.getD i []) j).map (·.2)
def isIo (o : Oper) : Bool := match o.op with | .call { callee := .value _, .. } => o.dst.isSome | _ => false
def someDst (o : Oper) : Bool := o.dst.isSome
/-- a quiet one and a call -/
def apartL (ops : List Oper) (x y : Oper) : Bool :=
  ((isQuiet T x && !isQuiet T y && isIo y) || (!isQuiet T x && isQuiet T y && isIo x)) && match x.dst, y.dst with
  | some dx, some dy => !Nat.beq dx dy && !memN (readsOf ops x) dy && !memN (readsOf ops y) dx
  | _, _ => false
def regOk2 (ops : List Oper) : Bool :=
  let bs := befores ops
  ops.zipIdx.all fun (y, j) => y.after.toList.all (fun e => !Region.binds .any e || Nat.blt e.on j) && ops.zipIdx.all fun (x, i) => !Nat.blt i j || (dstNe x y && (memN (bs.getD j []) i || apartB T ops x y || apartL T ops x y))
/-- what the quiet ones that float make is not there ahead of the region -/
def floats (ops : List Oper) (un : List (List Nat)) (j : Nat) (o : Oper) : Bool := isQuiet T o && ops.zipIdx.any fun (x, i) => memN (un.getD j []) i && !isQuiet T x
def dropF (ops : List Oper) (un : List (List Nat)) : List (Oper × Nat) → St → St
  | [], σ => σ
  | (o, j) :: l, σ => dropF ops un l (bif floats T ops un j o then drop σ (dstOf o) else σ)
def ndOf (ops : List Oper) (un : List (List Nat)) (j : Nat) : List Nat := (un.getD j []).map fun i => match ops[i]? with | some o => dstOf o | none => 0
/-- one operation; its guard is met -/
def exD1 {R : Type} (ops : List Oper) (un : List (List Nat)) (i : Nat) (o : Oper) (σ : St) (fs : List (Nat × Option Nat)) (lg : List Ent) (K : St → List (Nat × Option Nat) → List Ent → Option R) : Option R :=
  bif isQuiet T o then bif keysOk T σ o && disj (opKeys T σ o) (ndOf ops un i) then match o.dst with
      | some d => qv T call (val T σ) (lkE σ) d o fun x ob s => bif (isNone ob || isNone (σ.ob.getD d .none)) && okLog un ⟨i, opKeys T σ o, [], x, isNone ob && s.isEmpty, false⟩ lg then
          K (putN σ d x ob) (fs ++ s) (⟨i, opKeys T σ o, [], x, isNone ob && s.isEmpty, false⟩ :: lg) else none
      | none => none
    else none
  else bif okLog un ⟨i, [], opKeys T σ o, .dead, true, true⟩ lg && ((un.getD i []).isEmpty || (σ.sl.all (triv (opKeys T σ o)) && o.op.operands.toList.all fun x => noDt (val T σ x))) then
    exLoud T call ⟨σ.sl, freeze σ.ob fs⟩ o fun σ' => K σ' [] (⟨i, [], opKeys T σ o, .dead, true, true⟩ :: lg) else none
def exG {R : Type} (all : List Oper) (σ : St) (o : Oper) (run skip : St → Option R) : Option R :=
  match o.guard with
  | none => run σ
  | some (j, want) => match (all[j]?).bind (·.dst) with
    | none => none
    | some g =>
      let go (t : Bool) : Option R :=
        let σ := (⟨σ.sl.set g (.sc (.bool t)), σ.ob⟩ : St)
        bif t == want then run σ else skip σ
      bif isUndef (σ.sl.getD g .dead) then skip σ else unB (σ.sl.getD g .dead) fun t => bif t then go true else go false
def exD {R : Type} (ops : List Oper) (un : List (List Nat)) : List (Oper × Nat) → St → List (Nat × Option Nat) → List Ent → (St → Option R) → Option R
  | [], σ, fs, lg, K => K ⟨σ.sl, freeze σ.ob fs⟩
  | (o, i) :: l, σ, fs, lg, K => exG ops σ o (fun σ => exD1 T call ops un i o σ fs lg fun σ fs lg => exD ops un l σ fs lg K)
      (fun σ => match o.dst with | some d => exD ops un l ⟨σ.sl.set d (.tup []), σ.ob⟩ fs (⟨i, [], [], .tup [], true, false⟩ :: lg) K | none => none)
def exDr {R : Type} (ops : List Oper) (σ : St) (K : St → Option R) : Option R :=
  let un := unOf ops
  exD T call ops un ops.zipIdx (dropF T ops un ops.zipIdx σ) [] [] K
end

inductive Ex where
  | normal
  | exit (id : Nat)
  | ret

structure Env where
  call : FuncId → List V → Option Res
  loop : (Nat → Bool) → Code → St → (Ex → St → Option Res) → Option Res

def cleanC (c : Operand) (σ : St) : St :=
  match c with
  | .tmp t => drop σ t
  | _ => σ

/-! ### loops: what a round makes anew is dropped at its head -/
def opsOf : Code → List Oper
  | .region _ ops _ => ops.toList
  | .seq a b => opsOf a ++ opsOf b
  | .cond _ a b => opsOf a ++ opsOf b
  | .block _ b => opsOf b
  | .loop b => opsOf b
  | _ => []
def isVar (o : Oper) : Bool :=
  match o.op with
  | .assign _ | .move _ => true
  | _ => false
def lpDrop (ops : List Oper) (σ : St) : St :=
  match ops with
  | [] => σ
  | o :: ops => match o.dst with
    | some d => bif isVar o then lpDrop ops σ else lpDrop ops (drop σ d)
    | none => lpDrop ops σ
/-- a loop's number: its first region's, and how many it has -/
def regOf : Code → Option Nat
  | .region id _ _ => some id
  | .seq a b => match regOf a with | some n => some n | none => regOf b
  | .cond _ a b => match regOf a with | some n => some n | none => regOf b
  | .block _ b => regOf b
  | .loop b => regOf b
  | _ => none
def nReg : Code → Nat
  | .region .. => 1
  | .seq a b => nReg a + nReg b
  | .cond _ a b => nReg a + nReg b
  | .block _ b => nReg b
  | .loop b => nReg b
  | _ => 0
def loopKey (b : Code) : Nat := 1000000 + 4096 * (64 * (regOf b).getD 0 + nReg b % 64)
/-- what is not read any more at a loop's head is dropped there -/
def lpDead (kp : Nat → Bool) (key : Nat) : Nat → St → St
  | 0, σ => σ
  | n + 1, σ => lpDead kp key n (bif kp (key + n) then σ else drop σ n)
def lpGc (kp : Nat → Bool) (key : Nat) : Nat → St → St
  | 0, σ => σ
  | n + 1, σ => lpGc kp key n (bif kp (key + n) then σ else gc σ n)
def lpMore (kp : Nat → Bool) (key : Nat) (σ : St) : St := bif kp (key + 4095) then lpGc kp key σ.sl.length (lpDead kp key σ.sl.length σ) else σ
def lpClean (kp : Nat → Bool) (b : Code) (σ : St) : St := lpMore kp (loopKey b) (gcs (opsOf b) (lpDrop (opsOf b) σ))

def exC (T : TT) (E : Env) (kp : Nat → Bool) : Code → St → (Ex → St → Option Res) → Option Res
  | .skip, σ, K => K .normal σ
  | .region _ ops draw, σ, K => bif draw && !regOk T ops.toList then
      (bif regOk2 T ops.toList then exDr T E.call ops.toList (prep T ops.toList σ) fun σ => K .normal (gcs ops.toList (clean kp ops.toList σ)) else none) else
      exOps T E.call draw ops.toList ops.toList (prep T ops.toList σ) [] fun σ => K .normal (gcs ops.toList (clean kp ops.toList σ))
  | .seq a b, σ, K => exC T E kp a σ fun e σ => match e with
    | .normal => exC T E kp b σ K
    | e => K e σ
  | .cond c a b, σ, K => unB (val T σ c) fun t => bif t then exC T E kp a (cleanC c σ) K else exC T E kp b (cleanC c σ) K
  | .block id b, σ, K => exC T E kp b σ fun e σ => match e with
    | .exit i => bif Nat.beq i id then K .normal σ else K (.exit i) σ
    | e => K e σ
  | .loop b, σ, K => E.loop kp b (lpClean kp b σ) K
  | .exit id, σ, K => K (.exit id) σ
  | .ret, σ, K => K .ret σ
  | _, _, _ => none

/-! ### functions -/
def init (T : TT) (n : Nat) (args : List V) (ts : List TypeId) (i : Nat) (K : List V → List Ob → Option Res) : Option Res :=
  match ts, args with
  | [], caps => bif caps.all isRp && Nat.ble (i + caps.length) n then K (caps ++ List.replicate (n - (i + caps.length)) .dead) (List.replicate (n - i) .none) else none
  | t :: ts, a :: args => match T.ty t with
    | .c s => unC s a fun a => init T n args ts (i + 1) fun sl ob => K (a :: sl) (.none :: ob)
    | .agg ss => unSt ss.length a (init T n args ts (i + 1) fun sl ob => K (.dt a :: sl) (.none :: ob))
    | .p ss => unIo a fun cs => bif Nat.beq cs.length ss.length then init T n args ts (i + 1) fun sl ob => K (.ptr i none 0 0 :: sl) (.box true cs :: ob) else none
    | .tup _ => none
  | _, _ => none

def retV (T : TT) (σ : St) (r : ResultVar) (ty : TypeId) (K : V → List (Nat × Option Nat) → Option Res) : Option Res :=
  match r with
  | .tmp t => sealV (lkE σ) (nrmV T ty (σ.sl.getD t .dead)) K
  | .cell a t => match σ.sl.getD a .dead with
    | .ptr k none 0 0 => match lkE σ k, T.ty t with
      | .box _ cs, .agg ss => bif Nat.beq cs.length ss.length then sealCs (lkE σ) (nrmCs ss (view k 0 cs)) fun cs s => K (.st cs) s else none
      | .box _ [c], .c _ => sealC (lkE σ) (viewC k 0 c) K
      | _, _ => none
    | _ => none
def retVs (T : TT) (σ : St) (rs : List ResultVar) (ts : List TypeId) (K : List V → List (Nat × Option Nat) → Option Res) : Option Res :=
  match rs with
  | [] => K [] []
  | r :: rs => retV T σ r (ts.headD 0) fun v s => retVs T σ rs ts.tail fun vs s' => K (v :: vs) (s ++ s')
/-- what the boxes that came in hold now -/
def outs (T : TT) (ob : List Ob) (ts : List TypeId) (i : Nat) (K : List V → Option Res) : Option Res :=
  match ts with
  | [] => K []
  | t :: ts => match T.ty t with
    | .p _ => match ob.getD i .none with
      | .box true cs => outs T ob ts (i + 1) fun os => K (.io (cs.map unO) :: os)
      | _ => none
    | _ => outs T ob ts (i + 1) K
def kret (T : TT) (fn : Func) (e : Ex) (σ : St) : Option Res :=
  match e with
  | .exit _ => none
  | _ =>
    let fin (v : V) (s : List (Nat × Option Nat)) : Option Res := outs T (freeze σ.ob s) fn.params.toList 0 fun os => some (v, os)
    let plain : Option Res := retVs T σ fn.results.toList fn.resultTypes.toList fun vs s => fin (match vs with | [v] => v | vs => .tup vs) s
    match fn.results.toList with
    | [.tmp t] => match σ.sl.getD t .dead with
      | .ptr k none 0 0 => bif Nat.ble fn.params.size k then match σ.ob.getD k .none with
        | .box true cs => sealCs (lkE σ) (view k 0 (cs.map eC)) fun cs s => match (freeze σ.ob s).getD k .none with
          | .box true _ => fin (.io cs) s
          | _ => none
        | _ => none else none
      | _ => plain
    | _ => plain

def isP (T : TT) (ps : List TypeId) (d : Nat) : Bool := match ps[d]? with | some t => (match T.ty t with | .p _ => true | _ => false) | none => false
def dstGe (T : TT) (ps : List TypeId) (o : Oper) : Bool := match o.dst with | some d => !isP T ps d | none => true
def runF (T : TT) (E : Env) (f : FuncId) (args : List V) : Option Res :=
  match T.fn f with
  | some fn => match fn.body with
    | some c => bif (opsOf c).all (dstGe T fn.params.toList) then init T fn.ntmps args fn.params.toList 0 fun sl ob => exC T E (T.keep f) c ⟨sl, ob⟩ (kret T fn) else none
    | none => none
  | none => none

def exE (T : TT) : Nat → Env
  | 0 => ⟨fun _ _ => none, fun _ _ _ _ => none⟩
  | n + 1 => ⟨runF T (exE T n), fun kp b σ K => exC T (exE T n) kp b σ fun e σ => match e with
      | .normal => (exE T n).loop kp b (lpClean kp b σ) K
      | e => K e σ⟩

def ev (T : TT) (n : Nat) (f : FuncId) (args : List V) : Option Res := (exE T n).call f args

/-! ### places in a function's code, with what follows -/
inductive Dir where
  | l | r | t | f | b
def kAt (T : TT) (E : Env) (kp : Nat → Bool) : List Dir → Code → (Ex → St → Option Res) → Option (Code × (Ex → St → Option Res))
  | [], c, K => some (c, K)
  | .l :: p, .seq a b, K => kAt T E kp p a fun e σ => match e with
    | .normal => exC T E kp b σ K
    | e => K e σ
  | .r :: p, .seq _ b, K => kAt T E kp p b K
  | .t :: p, .cond _ a _, K => kAt T E kp p a K
  | .f :: p, .cond _ _ b, K => kAt T E kp p b K
  | .b :: p, .block id b, K => kAt T E kp p b fun e σ => match e with
    | .exit i => bif Nat.beq i id then K .normal σ else K (.exit i) σ
    | e => K e σ
  | _, _, _ => none
/-- from a place of f's body on -/
def at_ (T : TT) (E : Env) (f : FuncId) (p : List Dir) (σ : St) : Option Res :=
  match T.fn f with
  | some fn => match fn.body with
    | some c => match kAt T E (T.keep f) p c (kret T fn) with
      | some (c, K) => exC T E (T.keep f) c σ K
      | none => none
    | none => none
  | none => none
/-- the loop at a place of f's body, from a round's head on: E: what the function was entered with, L: what is left of rounds -/
def lp (T : TT) (E L : Env) (f : FuncId) (p : List Dir) (σ : St) : Option Res :=
  match T.fn f with
  | some fn => match fn.body with
    | some c => match kAt T E (T.keep f) p c (kret T fn) with
      | some (.loop b, K) => L.loop (T.keep f) b σ K
      | _ => none
    | none => none
  | none => none

end Go.Proofs.YtmddfhjgdhjmkaaDoor.VM
