/- The abstract machine, part MA. -/
import Derived.WalkKit
import Derived.Orders
import Derived.Below
import Derived.Deep.MidRow
import Derived.ArgAppend
/- The abstract machine: values by content, local objects by key, the model's own Code run in continuation style. Definitions only. -/
set_option linter.unusedVariables false
set_option linter.unusedSimpArgs false
namespace Go.Proofs.YtaapkkeogajfpaaDoor.VM

/-- what of a row of rows is not yet written back: nothing; its own header; an element's header -/
inductive Lo where
  | no
  | hd
  | el (i : Nat)
  deriving Inhabited
/-- what refers to a row of rows: its header; the place of an element; an element's header; an element's bytes from a place on -/
inductive Sg where
  | hd
  | pl (i : Nat)
  | el (i : Nat)
  | sub (i l : Nat)
  deriving Inhabited

inductive V where
  | dead
  | sc (v : Value)
  | sl (z : Nat) (xs : List V)
  | nil
  | st (cs : List V)
  | dt (x : V)
  | own (o : Bool) (z : Nat) (xs : List V)
  | ptr (k : Nat) (c : Option Nat) (i j : Nat)
  | ref (k : Nat) (c : Option Nat) (m : Option Nat)
  | rp (x : V) (j : Nat)
  | clo (f : FuncId) (caps : List V)
  | io (cs : List V)
  | tup (vs : List V)
  | self
  | seg (l : Lo) (xs : List V)
  | sg (k c : Nat) (m : Sg)
  | bref (k : Nat)
  deriving Inhabited

inductive Ob where
  | none
  | box (o : Bool) (cs : List V)
  | row (o : Bool) (z : Nat) (xs : List V)
  deriving Inhabited

structure St where
  sl : List V
  ob : List Ob

/-- shapes of one cell -/
inductive Sh where
  | i (k : IntKind) | b | tx | l (z : Nat) | any

/-- what is known of a type -/
inductive Ty where
  | c (s : Sh)
  | agg (ss : List Sh)
  | p (ss : List Sh)
  | tup (ts : List Ty)

def fnd {α : Type} : List (Nat × α) → Nat → Option α
  | [], _ => none
  | (a, x) :: l, b => bif Nat.beq a b then some x else fnd l b
def memN (l : List Nat) (a : Nat) : Bool :=
  match l with
  | [] => false
  | b :: l => bif Nat.beq b a then true else memN l a

def nodup (l : List Nat) : Bool :=
  match l with
  | [] => true
  | a :: l => !memN l a && nodup l

/-- a call's value, and what the boxes hold that went in -/
abbrev Res := V × List V

structure TT where
  fnL : List (Nat × Func)
  tyL : List (Nat × Ty)
  offL : List (Nat × List (Nat × Nat))
  elL : List (Nat × (Nat × Nat))
  arrL : List (Nat × (Nat × Nat))
  zeroL : List (Nat × List V)
  eszL : List (Nat × Nat)
  u8L : List Nat
  globL : List (Nat × V)
  loudL : List Nat
  keepL : List (Nat × List Nat)
  extL : List (Nat × (List V → Option Res))
  nestL : List Nat
  mvL : List Nat
  roL : List (Nat × (List V → Option Int))
def TT.fn (T : TT) (f : FuncId) : Option Func := fnd T.fnL f
def TT.ty (T : TT) (t : TypeId) : Ty := match fnd T.tyL t with | some y => y | none => .tup []
def TT.off (T : TT) (t : TypeId) (f : Nat) : Option (Nat × Nat) := match fnd T.offL t with | some l => l[f]? | none => none
def TT.el (T : TT) (t : TypeId) : Option (Nat × Nat) := fnd T.elL t
def TT.arr (T : TT) (t : TypeId) : Option (Nat × Nat) := fnd T.arrL t
def TT.zero (T : TT) (t : TypeId) : Option (List V) := fnd T.zeroL t
def TT.esz (T : TT) (t : TypeId) : Option Nat := fnd T.eszL t
def TT.glob (T : TT) (g : Nat) : Option V := fnd T.globL g
def TT.loud (T : TT) (f : FuncId) : Bool := memN T.loudL f
def TT.keep (T : TT) (f : FuncId) : Nat → Bool := match fnd T.keepL f with | some l => memN l | none => fun _ => true

section
variable {R : Type}

def unI (k : IntKind) (v : V) (K : Int → Option R) : Option R :=
  match v with
  | .sc (.int k' m) => bif decide (k' = k) then K m else none
  | _ => none
def unB (v : V) (K : Bool → Option R) : Option R :=
  match v with
  | .sc (.bool b) => K b
  | _ => none
def unS (v : V) (K : ByteArray → Option R) : Option R :=
  match v with
  | .sc (.string s) => K s
  | _ => none
def unL (z : Nat) (v : V) (K : List V → Option R) : Option R :=
  match v with
  | .sl z' xs => bif Nat.beq z' z then K xs else none
  | .nil => K []
  | _ => none
def unIo (v : V) (K : List V → Option R) : Option R :=
  match v with
  | .io cs => K cs
  | _ => none
def unTup (n : Nat) (v : V) (K : List V → Option R) : Option R :=
  match v with
  | .tup vs => bif Nat.beq vs.length n then K vs else none
  | _ => none
def unSt (n : Nat) (x : V) (K : Option R) : Option R :=
  match x with
  | .st cs => bif Nat.beq cs.length n then K else none
  | _ => none
/-- of so many cells -/
def wd (n : Nat) (x : V) (K : Option R) : Option R :=
  match x with
  | .st cs => bif Nat.beq cs.length n then K else none
  | _ => bif Nat.beq n 1 then K else none
def wds (n : Nat) (xs : List V) (K : Option R) : Option R :=
  match xs with
  | [] => K
  | x :: xs => wd n x (wds n xs K)
def unC (s : Sh) (v : V) (K : V → Option R) : Option R :=
  match s with
  | .i k => unI k v fun m => K (.sc (.int k m))
  | .b => unB v fun b => K (.sc (.bool b))
  | .tx => unS v fun s => K (.sc (.string s))
  | .l z => unL z v fun xs => K (.sl z xs)
  | .any => match v with
    | .sc u => K (.sc u)
    | .sl z xs => K (.sl z xs)
    | .nil => K .nil
    | .clo f cs => K (.clo f cs)
    | .rp x j => K (.rp x j)
    | _ => none
def ce (x : V) (j : Nat) : V :=
  match x with
  | .st cs => cs.getD j .dead
  | v => match j with | 0 => v | _ => .dead
def unCs (x : V) (j : Nat) (ss : List Sh) (K : List V → Option R) : Option R :=
  match ss with
  | [] => K []
  | s :: ss => unC s (ce x j) fun c => unCs x (j + 1) ss fun cs => K (c :: cs)
def unVs (vs : List V) (j : Nat) (ts : List Ty) (K : List V → Option R) : Option R :=
  match ts with
  | [] => K []
  | .c s :: ts => unC s (vs.getD j .dead) fun c => unVs vs (j + 1) ts fun cs => K (c :: cs)
  | .agg ss :: ts => unSt ss.length (vs.getD j .dead) (unVs vs (j + 1) ts fun cs => K (.dt (vs.getD j .dead) :: cs))
  | _ => none

def exN (xs : List V) (n : Nat) (K : V → Option R) : Option R :=
  match xs[n]? with | some x => K x | none => none
def ix (xs : List V) (i : Int) (K : V → Option R) : Option R :=
  match i with
  | .ofNat n => exN xs n K
  | .negSucc _ => none
def ixS (s : ByteArray) (i : Int) (K : Int → Option R) : Option R :=
  match i with
  | .ofNat n => match s[n]? with | some b => K b.toNat | none => none
  | .negSucc _ => none
def chk (b : Bool) (K : Option R) : Option R := bif b then K else none
def unBytes (xs : List V) (K : List UInt8 → Option R) : Option R :=
  match xs with
  | [] => K []
  | x :: xs => unI .u8 x fun m => unBytes xs fun l => K (UInt8.ofNat m.toNat :: l)
end

def constC (v : Value) : V :=
  match v with
  | .slice none 0 0 => .nil
  | .agg _ => .dead
  | .tuple _ => .dead
  | v => .sc v
def constV (v : Value) : V :=
  match v with
  | .agg cs => .st (cs.toList.map constC)
  | v => constC v

def val (T : TT) (σ : St) : Operand → V
  | .tmp t => σ.sl.getD t .dead
  | .const v => constV v
  | .global g => match T.glob g with | some x => .rp x 0 | none => .dead
  | .func f => .sc (.func (.func f) #[] #[])

/-- the row of a key: an object, or what a cell of a box owns -/
def obRow (lk : Nat → Ob) (k : Nat) (c : Option Nat) : Option (Bool × Nat × List V) :=
  match c, lk k with
  | none, .row o z xs => some (o, z, xs)
  | some c, .box _ cs => match cs.getD c .dead with
    | .own o z xs => some (o, z, xs)
    | _ => none
  | _, _ => none
/-- the row of rows in a cell of a box -/
def segAt (lk : Nat → Ob) (k c : Nat) : Option (Lo × List V) :=
  match lk k with
  | .box _ cs => match cs.getD c .dead with
    | .seg l xs => some (l, xs)
    | _ => none
  | _ => none
def obBox (lk : Nat → Ob) (k : Nat) : Option (List V) :=
  match lk k with
  | .box _ cs => some cs
  | _ => none
/-- without the marks that tell who may write -/
def eC : V → V
  | .own _ z xs => .own true z xs
  | v => v
def eO : Ob → Ob
  | .none => .none
  | .box _ cs => .box true (cs.map eC)
  | .row _ z xs => .row true z xs
def lk (σ : St) (k : Nat) : Ob := σ.ob.getD k .none
def lkE (σ : St) (k : Nat) : Ob := eO (σ.ob.getD k .none)
def setO (c : Option Nat) (o : Bool) (z : Nat) (xs : List V) (b : Ob) : Ob :=
  match c, b with
  | none, _ => .row o z xs
  | some c, .box b cs => .box b (cs.set c (.own o z xs))
  | _, b => b
def setRow (σ : St) (k : Nat) (c : Option Nat) (o : Bool) (z : Nat) (xs : List V) : List Ob := σ.ob.set k (setO c o z xs (σ.ob.getD k .none))
def cut (xs : List V) : Option Nat → List V
  | none => xs
  | some n => xs.take n
def cutLen (xs : List V) : Option Nat → Nat
  | none => xs.length
  | some n => n

section
variable {R : Type}
/-- a value made fit to be frozen data; the keys of the rows that are frozen with it -/
def sealC (lk : Nat → Ob) (v : V) (K : V → List (Nat × Option Nat) → Option R) : Option R :=
  match v with
  | .ref k c m => match obRow lk k c with
    | some (_, z, xs) => K (.sl z (cut xs m)) [(k, c)]
    | none => none
  | .sc u => K (.sc u) []
  | .sl z xs => K (.sl z xs) []
  | .nil => K .nil []
  | .clo f cs => K (.clo f cs) []
  | _ => none
def sealCs (lk : Nat → Ob) (vs : List V) (K : List V → List (Nat × Option Nat) → Option R) : Option R :=
  match vs with
  | [] => K [] []
  | v :: vs => sealC lk v fun v' s => sealCs lk vs fun vs' s' => K (v' :: vs') (s ++ s')
def sealV (lk : Nat → Ob) (v : V) (K : V → List (Nat × Option Nat) → Option R) : Option R :=
  match v with
  | .st cs => sealCs lk cs fun cs' s => K (.st cs') s
  | .dt x => K x []
  | v => sealC lk v K
def sealVs (lk : Nat → Ob) (vs : List V) (K : List V → List (Nat × Option Nat) → Option R) : Option R :=
  match vs with
  | [] => K [] []
  | v :: vs => sealV lk v fun v' s => sealVs lk vs fun vs' s' => K (v' :: vs') (s ++ s')
/-- the cells of a box as a value in a slot -/
def viewC (k j : Nat) (v : V) : V :=
  match v with
  | .own .. => .ref k (some j) none
  | .self => .dead
  | .seg .no _ => .sg k j .hd
  | .seg _ _ => .dead
  | v => v
def view (k j : Nat) (cs : List V) : List V :=
  match cs with
  | [] => []
  | c :: cs => viewC k j c :: view k (j + 1) cs
/-- the cells of a box made frozen data -/
def frzC (v : V) (K : V → Option R) : Option R :=
  match v with
  | .own _ z xs => K (.sl z xs)
  | .sc u => K (.sc u)
  | .sl z xs => K (.sl z xs)
  | .nil => K .nil
  | .clo f cs => K (.clo f cs)
  | _ => none
def frzCs (vs : List V) (K : List V → Option R) : Option R :=
  match vs with
  | [] => K []
  | v :: vs => frzC v fun v' => frzCs vs fun vs' => K (v' :: vs')

/-- cells that are data as they stand -/
def datC (v : V) (K : V → Option R) : Option R :=
  match v with
  | .sc u => K (.sc u)
  | .sl z xs => K (.sl z xs)
  | .nil => K .nil
  | .clo f cs => K (.clo f cs)
  | _ => none
def datCs (vs : List V) (K : List V → Option R) : Option R :=
  match vs with
  | [] => K []
  | v :: vs => datC v fun v' => datCs vs fun vs' => K (v' :: vs')

/-- the cells of a value that goes into a box of these shapes: data alone -/
def boxed (lk : Nat → Ob) (ss : List Sh) (v : V) (K : List V → List (Nat × Option Nat) → Option R) : Option R :=
  match v with
  | .st cs => bif Nat.beq cs.length ss.length then sealCs lk cs K else none
  | .dt x => unSt ss.length x (unCs x 0 ss fun cs => K cs [])
  | v => match ss with | [_] => sealC lk v fun c s => K [c] s | _ => none
end

def frzO (c : Option Nat) (o : Ob) : Ob :=
  match c, o with
  | none, .row _ z xs => .row false z xs
  | none, .box _ cs => .box false cs
  | some c, .box b cs => match cs.getD c .dead with
    | .own _ z xs => .box b (cs.set c (.own false z xs))
    | _ => .box b cs
  | _, o => o
def frz1 (ob : List Ob) (k : Nat) (c : Option Nat) : List Ob := ob.set k (frzO c (ob.getD k .none))
def freeze (ob : List Ob) (ks : List (Nat × Option Nat)) : List Ob :=
  match ks with
  | [] => ob
  | (k, c) :: ks => freeze (frz1 ob k c) ks

def killC (k : Nat) (v : V) : V :=
  match v with
  | .ref k' c m => bif Nat.beq k' k then .dead else .ref k' c m
  | .ptr k' c i j => bif Nat.beq k' k then .dead else .ptr k' c i j
  | .sg k' c m => bif Nat.beq k' k then .dead else .sg k' c m
  | .bref k' => bif Nat.beq k' k then .dead else .bref k'
  | v => v
def killT (k : Nat) (v : V) : V :=
  match v with
  | .st _ => .dead
  | v => killC k v
def killV (k : Nat) (v : V) : V :=
  match v with
  | .st cs => .st (cs.map (killC k))
  | .tup cs => .tup (cs.map (killT k))
  | v => killC k v
/-- the object k is no more, nor what refers to it -/
def kill (σ : St) (k : Nat) : St := ⟨σ.sl.map (killV k), σ.ob.set k .none⟩
def eqO (a b : Option Nat) : Bool :=
  match a, b with
  | none, none => true
  | some a, some b => Nat.beq a b
  | _, _ => false
def isNn : Option Nat → Bool
  | none => true
  | _ => false
/-- the row of rows of this cell, or one within it -/
def inC (c' : Nat) : Option Nat → Bool
  | none => false
  | some c => Nat.beq c' c || Nat.ble 64 c || Nat.ble 64 c'
def geO : Option Nat → Bool
  | none => false
  | some c => Nat.ble 64 c
/-- the row (k, c) is no more, nor what refers to it -/
def kilC (k : Nat) (c : Option Nat) (v : V) : V :=
  match v with
  | .ref k' c' m => bif Nat.beq k' k && (eqO c' c || geO c') then .dead else .ref k' c' m
  | .ptr k' c' i j => bif Nat.beq k' k && (eqO c' c || geO c') then .dead else .ptr k' c' i j
  | .sg k' c' m => bif Nat.beq k' k && inC c' c then .dead else .sg k' c' m
  | .bref k' => bif Nat.beq k' k && isNn c then .dead else .bref k'
  | v => v
def kilT (k : Nat) (c : Option Nat) (v : V) : V :=
  match v with
  | .st _ => .dead
  | v => kilC k c v
def kilV (k : Nat) (c : Option Nat) (v : V) : V :=
  match v with
  | .st cs => .st (cs.map (kilC k c))
  | .tup cs => .tup (cs.map (kilT k c))
  | v => kilC k c v
def kilB (c : Option Nat) (o : Ob) : Ob :=
  match c, o with
  | some c, .box b cs => .box b (cs.set c .dead)
  | none, .row .. => .none
  | _, o => o
def kilO (ob : List Ob) (k : Nat) (c : Option Nat) : List Ob := ob.set k (kilB c (ob.getD k .none))
def kil (σ : St) (k : Nat) (c : Option Nat) : St := ⟨σ.sl.map (kilV k c), kilO σ.ob k c⟩
def hasC (k : Nat) (v : V) : Bool :=
  match v with
  | .ref k' _ _ => Nat.beq k' k
  | .ptr k' _ _ _ => Nat.beq k' k
  | .sg k' _ _ => Nat.beq k' k
  | .bref k' => Nat.beq k' k
  | _ => false
def hasT (k : Nat) (v : V) : Bool :=
  match v with
  | .st _ => true
  | v => hasC k v
def hasV (k : Nat) (v : V) : Bool :=
  match v with
  | .st cs => cs.any (hasC k)
  | .tup cs => cs.any (hasT k)
  | v => hasC k v
def isNone : Ob → Bool | .none => true | _ => false
/-- an object that nothing refers to is dropped -/
def gc (σ : St) (k : Nat) : St :=
  bif isNone (σ.ob.getD k .none) then σ else bif σ.sl.any (hasV k) then σ else ⟨σ.sl, σ.ob.set k .none⟩
def drop (σ : St) (k : Nat) : St := ⟨σ.sl.set k .dead, σ.ob⟩

section
variable {R : Type}

def aInt (op : BinOp) (k : IntKind) (a b : Int) (K : Value → Option R) : Option R :=
  match op with
  | .add => K (.int k (k.wrap (a + b)))
  | .sub => K (.int k (k.wrap (a - b)))
  | .mul => K (.int k (k.wrap (a * b)))
  | .quo => chk (!decide (b = 0)) (K (.int k (k.wrap (a.tdiv b))))
  | .rem => chk (!decide (b = 0)) (K (.int k (a.tmod b)))
  | .and => K (.int k (k.wrap (BitVec.ofInt k.bits a &&& BitVec.ofInt k.bits b).toNat))
  | .or => K (.int k (k.wrap (BitVec.ofInt k.bits a ||| BitVec.ofInt k.bits b).toNat))
  | .xor => K (.int k (k.wrap (BitVec.ofInt k.bits a ^^^ BitVec.ofInt k.bits b).toNat))
  | .andNot => K (.int k (k.wrap (BitVec.ofInt k.bits a &&& ~~~BitVec.ofInt k.bits b).toNat))
  | .eql => K (.bool (a == b))
  | .neq => K (.bool (a != b))
  | .lss => K (.bool (decide (a < b)))
  | .leq => K (.bool (decide (a ≤ b)))
  | .gtr => K (.bool (decide (a > b)))
  | .geq => K (.bool (decide (a ≥ b)))
  | _ => none
def aStr (op : BinOp) (a b : ByteArray) (K : Value → Option R) : Option R :=
  match op with
  | .add => chk (decide (a.size + b.size ≤ 9223372036854775807)) (K (.string (a ++ b)))
  | .eql => K (.bool (a.toList == b.toList))
  | .neq => K (.bool !(a.toList == b.toList))
  | .lss => K (.bool (Op.bytesLess a.toList b.toList))
  | .leq => K (.bool (Op.bytesLess a.toList b.toList || a.toList == b.toList))
  | .gtr => K (.bool !(Op.bytesLess a.toList b.toList || a.toList == b.toList))
  | .geq => K (.bool !(Op.bytesLess a.toList b.toList))
  | _ => none
def isBoolTy : Ty → Bool
  | .c .b => true
  | _ => false
def isStrTy : Ty → Bool
  | .c .tx => true
  | _ => false
def intTy : Ty → Option IntKind
  | .c (.i k) => some k
  | _ => none
def aBin (t : Ty) (op : BinOp) (x y : V) (K : Value → Option R) : Option R :=
  match x, y with
  | .sc (.int k a), .sc (.int k' b) =>
    match op with
    | .shl => chk (!decide (b < 0)) (K (.int k (k.wrap (a * 2 ^ min b.toNat k.bits))))
    | .shr => chk (!decide (b < 0)) (K (.int k (a.fdiv (2 ^ min b.toNat k.bits))))
    | op => bif decide (k = k') then aInt op k a b K else none
  | .sc (.string a), .sc (.string b) => aStr op a b K
  | .sc (.bool a), .sc (.bool b) => bif isBoolTy t then
    match op with
    | .eql => K (.bool (a == b))
    | .neq => K (.bool !(a == b))
    | _ => none
    else none
  | _, _ => none
def aUn (op : UnOp) (x : V) (K : Value → Option R) : Option R :=
  match op, x with
  | .neg, .sc (.int k n) => K (.int k (k.wrap (0 - n)))
  | .xor, .sc (.int k n) => K (.int k (k.wrap (BitVec.ofInt k.bits (if k.signed then -1 else k.max) ^^^ BitVec.ofInt k.bits n).toNat))
  | .not, .sc (.bool b) => K (.bool !b)
  | _, _ => none
/-- an element of a row of rows -/
def elL (x : V) (K : List V → Option R) : Option R :=
  match x with
  | .own true 1 ys => K ys
  | .nil => K []
  | _ => none
def elO (x : V) (K : List V → Option R) : Option R :=
  match x with
  | .own true 1 ys => K ys
  | _ => none
def sgEl (lk : Nat → Ob) (k c i : Nat) (K : V → Option R) : Option R :=
  match segAt lk k c with
  | some (_, xs) => exN xs i K
  | none => none
def asLen (lk : Nat → Ob) (v : V) (K : Nat → Option R) : Option R :=
  match v with
  | .sc (.string s) => K s.size
  | .sl _ xs => K xs.length
  | .nil => K 0
  | .sg k c .hd => match segAt lk k c with
    | some (_, xs) => K xs.length
    | none => none
  | .sg k c (.el i) => sgEl lk k c i fun x => elL x fun ys => K ys.length
  | .ref k c m => match obRow lk k c with
    | some (_, _, xs) => K (cutLen xs m)
    | none => none
  | _ => none
/-- the elements of a slice -/
def asList (lk : Nat → Ob) (z : Nat) (v : V) (K : List V → Option R) : Option R :=
  match v with
  | .sl z' xs => bif Nat.beq z z' then K xs else none
  | .nil => K []
  | .ref k c m => match obRow lk k c with
    | some (_, z', xs) => bif Nat.beq z z' then K (cut xs m) else none
    | none => none
  | _ => none
/-- the bytes of a slice, an element of a row of rows too -/
def asBytes (lk : Nat → Ob) (v : V) (K : List V → Option R) : Option R :=
  match v with
  | .sg k c (.el i) => sgEl lk k c i fun x => elL x K
  | v => asList lk 1 v K
def asI (v : V) (K : Int → Option R) : Option R :=
  match v with
  | .sc (.int _ n) => K n
  | _ => none
def setPart (cs : List V) (off : Nat) (ps : List V) : List V :=
  match ps with
  | [] => cs
  | p :: ps => setPart (cs.set off p) (off + 1) ps
/-- a part of a literal as cells -/
def partCs (v : V) (K : List V → Option R) : Option R :=
  match v with
  | .st cs => K cs
  | .dt _ | .dead | .tup _ => none
  | v => K [v]
def fillP (place : Nat → Option (Nat × Nat)) (cs : List V) (parts : List (Nat × V)) (K : List V → Option R) : Option R :=
  match parts with
  | [] => K cs
  | (i, v) :: ps => match place i with
    | some (off, z) => partCs v fun p => bif Nat.beq p.length z && Nat.ble (off + z) cs.length then fillP place (setPart cs off p) ps K else none
    | none => none
def fillE (xs : List V) (parts : List (Nat × V)) : List V :=
  match parts with
  | [] => xs
  | (i, v) :: ps => fillE (xs.set i v) ps
def oneOr (cs : List V) : V := match cs with | [c] => c | cs => .st cs
def pickB (c a b : V) (K : V → Option R) : Option R :=
  match c with
  | .sc (.bool t) => match a, b with
    | .sc (.bool a), .sc (.bool b) => K (.sc (.bool (bif t then a else b)))
    | a, b => bif t then K a else K b
  | _ => none

/-- a value that is of its type, as far as a cut must know -/
def sliceOk (T : TT) (t : TypeId) (x : V) : V :=
  match x with
  | .sc (.string s) => bif isStrTy (T.ty t) then .sc (.string s) else .dead
  | .sl z xs => match T.el t with | some (_, z') => bif Nat.beq z z' then .sl z xs else .dead | none => .dead
  | .ref k c m => match T.el t with | some _ => .ref k c m | none => .dead
  | .sg k c m => match T.el t with | some _ => .sg k c m | none => .dead
  | .nil => match T.el t with | some _ => .nil | none => .dead
  | _ => .dead

/-- nothing in a cell of a slice is the empty list -/
def nrmC (s : Sh) (v : V) : V :=
  match s, v with
  | .l z, .nil => .sl z []
  | _, v => v
def nrmCs : List Sh → List V → List V
  | s :: ss, v :: vs => nrmC s v :: nrmCs ss vs
  | _, vs => vs
def nrmV (T : TT) (t : TypeId) (v : V) : V :=
  match v with
  | .st cs => (match T.ty t with
    | .agg ss => .st (nrmCs ss cs)
    | _ => .st cs)
  | v => v
def nrmA (T : TT) : List TypeId → List V → List V
  | t :: ts, v :: vs => nrmV T t v :: nrmA T ts vs
  | _, vs => vs
/-- a text's bytes, one by one -/
def bytesV (s : ByteArray) : List V := s.data.toList.map fun b => .sc (.int .u8 b.toNat)
/-- the row that a pointer leads into, and the place there -/
def ldRow (lk : Nat → Ob) (v : V) : Option (List V × Nat × Nat) :=
  match v with
  | .ptr k c i j => match obRow lk k c with
    | some (_, _, xs) => some (xs, i, j)
    | none => none
  | _ => none
/-- the arguments of a function that only looks at the boxes that it is handed -/
def roArgs (lk : Nat → Ob) (vs : List V) (K : List V → Option R) : Option R :=
  match vs with
  | [] => K []
  | .ptr k none 0 0 :: vs => match lk k with
    | .box _ cs => roArgs lk vs fun xs => K (.io cs :: xs)
    | _ => none
  | .sc u :: vs => roArgs lk vs fun xs => K (.sc u :: xs)
  | _ :: _ => none
def roGo (lk : Nat → Ob) (g : List V → Option Int) (vs : List V) (K : V → Ob → List (Nat × Option Nat) → Option R) : Option R :=
  roArgs lk vs fun xs => (g xs).bind fun n => K (.sc (.int .i64 n)) .none []
def isRp : V → Bool
  | .rp .. => true
  | _ => false
/-- what a quiet operation yields: its value, the object that it makes (under its own slot's number), the objects that it freezes -/
def qv (T : TT) (call : FuncId → List V → Option Res) (v : Operand → V) (lk : Nat → Ob) (d : Nat) (o : Oper) (K : V → Ob → List (Nat × Option Nat) → Option R) : Option R :=
  let k0 (x : V) : Option R := match x with | .dead => none | x => K x .none []
  match o.op with
  | .move x | .assign x => k0 (v x)
  | .pick c a b => pickB (v c) (v a) (v b) fun x => K x .none []
  | .alloc t => match T.zero t with
    | some cs => K (.ptr d none 0 0) (.box true cs) []
    | none => none
  | .box t x => match T.ty t with
    | .c s => boxed lk [s] (v x) fun cs s => K (.ptr d none 0 0) (.box true cs) s
    | .agg ss => boxed lk ss (v x) fun cs s => K (.ptr d none 0 0) (.box true cs) s
    | _ => none
  | .build t ps => match T.ty t, T.zero t, fnd T.offL t with
    | .agg _, some zs, some l => fillP (fun f => l[f]?) zs (ps.toList.map fun p => (p.1, v p.2)) fun cs => K (.st cs) .none []
    | _, _, _ => none
  | .buildSlice t n ps => match T.el t with
    | some (e, z) => match T.zero e with
      | some zs => bif Nat.beq n 0 && ps.toList.isEmpty then K (.ref d none none) (.row true z []) [] else bif Nat.ble (n * z) 16777216 && !Nat.beq n 0 && ps.toList.all (fun p => Nat.blt p.1 n) then sealVs lk (ps.toList.map fun p => nrmV T e (v p.2)) fun xs s =>
        wds z xs (K (.ref d none none) (.row true z (fillE (List.replicate n (oneOr zs)) ((ps.toList.map (·.1)).zip xs))) s) else none
      | none => none
    | none => none
  | .load t a => match ldRow lk (v a) with
   | some (xs, i, j) => (match T.ty t with
    | .c s => exN xs i fun x => unC s (ce x j) fun c => K c .none []
    | .agg ss => (match j with
      | 0 => exN xs i fun x => unSt ss.length x (K (.dt x) .none [])
      | j => exN xs i fun x => unCs x j ss fun cs => K (.st cs) .none [])
    | _ => none)
   | none => match v a, T.ty t with
    | .ptr k none 0 j, .c s => match lk k with
      | .box _ cs => k0 (viewC k j (cs.getD j .dead))
      | .row _ _ xs => exN xs 0 fun x => unC s (ce x j) fun c => K c .none []
      | .none => none
    | .ptr k none 0 j, .agg ss => match lk k with
      | .box _ cs => bif Nat.ble (j + ss.length) cs.length then K (.st (((view k 0 cs).drop j).take ss.length)) .none [] else none
      | .row _ _ xs => match j with
        | 0 => exN xs 0 fun x => unSt ss.length x (K (.dt x) .none [])
        | j => exN xs 0 fun x => unCs x j ss fun cs => K (.st cs) .none []
      | .none => none
    | .ptr k c i j, .c s => match obRow lk k c with
      | some (_, _, xs) => exN xs i fun x => unC s (ce x j) fun c => K c .none []
      | none => none
    | .ptr k c i j, .agg ss => match obRow lk k c with
      | some (_, _, xs) => match j with
        | 0 => exN xs i fun x => unSt ss.length x (K (.dt x) .none [])
        | j => exN xs i fun x => unCs x j ss fun cs => K (.st cs) .none []
      | none => none
    | .rp x j, .c s => unC s (ce x j) fun c => K c .none []
    | .rp x 0, .agg ss => unSt ss.length x (K (.dt x) .none [])
    | .rp x j, .agg ss => unCs x j ss fun cs => K (.st cs) .none []
    | .sg k c (.pl i), .c _ => (match segAt lk k c with
      | some (.el _, _) => none
      | some (_, _) => K (.sg k c (.el i)) .none []
      | none => none)
    | _, _ => none
  | .nilCheck x => match v x with
    | .ptr k c i j => K (.ptr k c i j) .none []
    | .rp x j => K (.rp x j) .none []
    | .sg k c (.pl i) => K (.sg k c (.pl i)) .none []
    | _ => none
  | .binOp op t x y _ => aBin (T.ty t) op (v x) (v y) fun u => K (.sc u) .none []
  | .unOp op _ x => aUn op (v x) fun u => K (.sc u) .none []
  | .convert s t x => match intTy (T.ty s), intTy (T.ty t) with
    | some _, some k => asI (v x) fun n => K (.sc (.int k (k.wrap n))) .none []
    | _, _ => bif memN T.u8L s && isStrTy (T.ty t) then asBytes lk (v x) fun xs => unBytes xs fun l => K (.sc (.string ⟨l.toArray⟩)) .none [] else
      bif isStrTy (T.ty s) && memN T.u8L t then unS (v x) fun b => K (.ref d none none) (.row true 1 (bytesV b)) [] else none
  | .makeFunc (.func f) first caps => match first.size, caps.toList with
    | 0, [] => K (.clo f []) .none []
    | 0, [c] => match v c with
      | .ptr k none 0 0 => match obBox lk k with
        | some cs => datCs cs fun cs' => K (.clo f [.rp (oneOr cs') 0]) .none [(k, none)]
        | none => none
      | _ => none
    | _, _ => none
  | .makeSlice t l c => match T.el t with
    | some (e, z) => match T.zero e, T.esz e with
      | some zs, some by_ => asI (v l) fun n => asI (v c) fun m => chk (decide (0 ≤ n) && decide (n = m) && decide (n.toNat * by_ ≤ 140737488355328)) (K (.ref d none none) (.row true z (List.replicate n.toNat (oneOr zs))) [])
      | _, _ => none
    | none => none
  | .slice t x lo hi mx => match sliceOk T t (v x), lo.map v, hi.map v with
    | .sc (.string s), none, some h => asI h fun h => chk (mx.isNone && decide (0 ≤ h) && decide (h ≤ s.size)) (K (.sc (.string (s.extract 0 h.toNat))) .none [])
    | .sc (.string s), some l, none => asI l fun l => chk (mx.isNone && decide (0 ≤ l) && decide (l ≤ s.size)) (K (.sc (.string (s.extract l.toNat s.size))) .none [])
    | .sc (.string s), some l, some h => asI l fun l => asI h fun h => chk (mx.isNone && decide (0 ≤ l) && decide (l ≤ h) && decide (h ≤ s.size)) (K (.sc (.string (s.extract l.toNat h.toNat))) .none [])
    | .sl z xs, none, some h => asI h fun h => chk (mx.isNone && decide (0 ≤ h) && decide (h ≤ xs.length)) (K (.sl z (xs.take h.toNat)) .none [])
    | .sl z xs, some l, none => asI l fun l => chk (mx.isNone && decide (0 ≤ l) && decide (l ≤ xs.length)) (K (.sl z (xs.drop l.toNat)) .none [])
    | .sl z xs, some l, some h => asI l fun l => asI h fun h => chk (mx.isNone && decide (0 ≤ l) && decide (l ≤ h) && decide (h ≤ xs.length)) (K (.sl z ((xs.take h.toNat).drop l.toNat)) .none [])
    | .ref k c m, none, some h => match obRow lk k c with
      | some (_, _, xs) => asI h fun h => match mx.map v with
        | none => chk (decide (0 ≤ h) && decide (h ≤ cutLen xs m)) (K (.ref k c (some h.toNat)) .none [])
        | some x => asI x fun x => chk (decide (x = h) && decide (0 ≤ h) && decide (h ≤ cutLen xs m)) (K (.ref k c (some h.toNat)) .none [])
      | none => none
    | .ref k c m, some l, none => match obRow lk k c with
      | some (_, z, xs) => bif (match T.el t with | some (_, z') => Nat.beq z z' | none => false) then asI l fun l => chk (mx.isNone && decide (0 ≤ l) && decide (l ≤ cutLen xs m)) (K (.sl z ((cut xs m).drop l.toNat)) .none [(k, c)]) else none
      | none => none
    | .nil, none, some h => asI h fun h => chk (mx.isNone && decide (h = 0)) (K .nil .none [])
    | .sg k c (.el i), some l, none => bif (match T.el t with | some (_, z') => Nat.beq 1 z' | none => false) then sgEl lk k c i fun x => elO x fun ys => asI l fun l => chk (mx.isNone && decide (0 ≤ l) && decide (l ≤ ys.length)) (K (.sg k c (.sub i l.toNat)) .none []) else none
    | _, _, _ => none
  | .fieldAddr t x f => match T.off t f, v x with
    | some (off, _), .ptr k c i j => K (.ptr k c i (j + off)) .none []
    | some (off, _), .rp x j => K (.rp x (j + off)) .none []
    | _, _ => none
  | .indexAddr t x i => match T.el t, T.arr t, v x with
    | some (_, z), _, .sl z' xs => bif Nat.beq z z' then asI (v i) fun i => ix xs i fun x => K (.rp x 0) .none [] else none
    | some (_, z), _, .ref k c m => match obRow lk k c with
      | some (_, z', xs) => bif Nat.beq z z' then asI (v i) fun i => chk (decide (0 ≤ i) && decide (i < cutLen xs m)) (K (.ptr k c i.toNat 0) .none []) else none
      | none => none
    | some (_, z), _, .sg k c .hd => match segAt lk k c with
      | some (_, xs) => bif Nat.beq z 1 then asI (v i) fun i => chk (decide (0 ≤ i) && decide (i < xs.length)) (K (.sg k c (.pl i.toNat)) .none []) else none
      | none => none
    | none, some (n, z), .rp x j => asI (v i) fun i => chk (decide (0 ≤ i) && decide (i < n)) (K (.rp x (j + i.toNat * z)) .none [])
    | _, _, _ => none
  | .index t x i => match v x with
    | .sc (.string s) => bif isStrTy (T.ty t) then asI (v i) fun i => ixS s i fun b => K (.sc (.int .u8 b)) .none [] else none
    | _ => none
  | .extract t i => match v t with
    | .tup vs => k0 (vs.getD i .dead)
    | _ => none
  | .call c => match c.callee with
    | .builtin .len => match c.args.toList, c.argTypes.toList with
      | [x], [t] => asLen lk (sliceOk T t (v x)) fun n => K (.sc (.int .i64 n)) .none []
      | _, _ => none
    | .builtin .max => match c.args.toList.map v with
      | [.sc (.int k a), .sc (.int _ b)] => K (.sc (.int k (if b > a then b else a))) .none []
      | _ => none
    | .builtin .min => match c.args.toList.map v with
      | [.sc (.int k a), .sc (.int _ b)] => K (.sc (.int k (if b < a then b else a))) .none []
      | _ => none
    | .value f =>
      let go (f : FuncId) (more : List V) : Option R := bif T.loud f then none else
        sealVs lk (nrmA T c.argTypes.toList (c.args.toList.map v)) fun vs s => (call f (vs ++ more)).bind fun r =>
          match T.ty o.type with
          | .c sh => unC sh r.1 fun x => K x .none s
          | .agg ss => unSt ss.length r.1 (K (.dt r.1) .none s)
          | .p ss => unIo r.1 fun cs => unCs (.st cs) 0 ss fun cs => K (.ptr d none 0 0) (.box true cs) s
          | .tup ts => unTup ts.length r.1 fun vs => unVs vs 0 ts fun vs => K (.tup vs) .none s
      match v f with
      | .sc (.func (.func f) fs cv) => bif Nat.beq fs.size 0 && Nat.beq cv.size 0 then (match fnd T.roL f with
        | some g => roGo lk g (c.args.toList.map v) K
        | none => go f []) else none
      | .clo f caps => bif caps.all isRp then go f caps else none
      | _ => none
    | _ => none
  | _ => none

end

def isTmp : Operand → Bool
  | .tmp _ => true
  | _ => false
def isQuiet (T : TT) (o : Oper) : Bool :=
  match o.op with
  | .store .. => false
  | .buildSlice t _ ps => !(memN T.nestL t && ps.toList.any fun p => isTmp p.2)
  | .box t _ => !memN T.mvL t
  | .call { callee := .builtin .append, .. } | .call { callee := .builtin .copy, .. } => false
  | .call { callee := .value (.func f), .. } => !T.loud f
  | _ => true

def setN (l : List Ob) (d : Nat) (ob : Ob) : List Ob := match ob with | .none => l | ob => l.set d ob
def putQ (σ : St) (d : Nat) (x : V) (ob : Ob) (s : List (Nat × Option Nat)) : St := ⟨σ.sl.set d x, setN (freeze σ.ob s) d ob⟩
def putN (σ : St) (d : Nat) (x : V) (ob : Ob) : St := ⟨σ.sl.set d x, setN σ.ob d ob⟩

section
variable {R : Type}
def setCe (x : V) (j : Nat) (c : V) : V :=
  match x with
  | .st cs => .st (cs.set j c)
  | _ => c
/-- the cells of a frozen value go into an object -/
def wr1 (σ : St) (k : Nat) (c : Option Nat) (i j : Nat) (x : V) (K : St → Option R) : Option R :=
  match obRow (lk σ) k c with
  | some (o, z, xs) => bif o && Nat.blt j z then exN xs i fun y => K ⟨σ.sl, setRow σ k c true z (xs.set i (setCe y j x))⟩ else none
  | none => match c, i, σ.ob.getD k .none with
    | none, 0, .box true cs => bif Nat.blt j cs.length then K ⟨(kil σ k (some j)).sl, σ.ob.set k (.box true (cs.set j x))⟩ else none
    | _, _, _ => none
def kilP (σ : St) (k j : Nat) : Nat → St
  | 0 => σ
  | n + 1 => kilP (kil σ k (some j)) k (j + 1) n
/-- the cells of a value that is known cell by cell -/
def srcC : V → List V
  | .st cs => cs
  | _ => []
def isNil : V → Bool
  | .nil => true
  | _ => false
/-- what was nothing stays so -/
def nilBack : List V → List V → List V
  | n :: ns, p :: ps => (bif isNil n then .nil else p) :: nilBack ns ps
  | _, ps => ps
def wrN (σ : St) (k : Nat) (c : Option Nat) (i j : Nat) (ss : List Sh) (ns : List V) (x : V) (K : St → Option R) : Option R :=
  match obRow (lk σ) k c with
  | some (o, z, xs) => bif o && Nat.beq j 0 && Nat.beq ss.length z then wd z x (exN xs i fun _ => K ⟨σ.sl, setRow σ k c true z (xs.set i x)⟩) else none
  | none => match c, i, σ.ob.getD k .none with
    | none, 0, .box true cs => bif Nat.ble (j + ss.length) cs.length then unSt ss.length x (unCs x 0 ss fun ps => K ⟨(kilP σ k j ss.length).sl, σ.ob.set k (.box true (setPart cs j (nilBack ns ps)))⟩) else none
    | _, _, _ => none
/-- a row goes into a cell of a box -/
def mvR (σ : St) (k j : Nat) (k' : Nat) (c' m : Option Nat) (K : St → Option R) : Option R :=
  match obRow (lk σ) k' c' with
  | some (true, z, xs) =>
    let σ' := kil (kil σ k' c') k (some j)
    match σ'.ob.getD k .none with
    | .box true cs => bif Nat.blt j cs.length && Nat.blt j 64 then K ⟨σ'.sl, σ'.ob.set k (.box true (cs.set j (.own true z (cut xs m))))⟩ else none
    | _ => none
  | _ => none
def isEl (i : Nat) : Lo → Bool
  | .el j => Nat.beq i j
  | _ => false
def isHd : Lo → Bool
  | .hd => true
  | _ => false
def setSegO (c : Nat) (l : Lo) (xs : List V) (b : Ob) : Ob :=
  match b with
  | .box b cs => .box b (cs.set c (.seg l xs))
  | b => b
def setSeg (ob : List Ob) (k c : Nat) (l : Lo) (xs : List V) : List Ob := ob.set k (setSegO c l xs (ob.getD k .none))
/-- what refers to elements of a row of rows is forgotten -/
def kleC (k c : Nat) (v : V) : V :=
  match v with
  | .sg k' c' (.el i) => bif Nat.beq k' k && (Nat.beq c' c || Nat.ble 64 c') then .dead else .sg k' c' (.el i)
  | .sg k' c' (.sub i l) => bif Nat.beq k' k && (Nat.beq c' c || Nat.ble 64 c') then .dead else .sg k' c' (.sub i l)
  | .sg k' c' m => bif Nat.beq k' k && Nat.ble 64 c' then .dead else .sg k' c' m
  | .ref k' c' m => bif Nat.beq k' k && geO c' then .dead else .ref k' c' m
  | .ptr k' c' i j => bif Nat.beq k' k && geO c' then .dead else .ptr k' c' i j
  | v => v
def kleT (k c : Nat) (v : V) : V :=
  match v with
  | .st _ => .dead
  | v => kleC k c v
def kleV (k c : Nat) (v : V) : V :=
  match v with
  | .st cs => .st (cs.map (kleC k c))
  | .tup cs => .tup (cs.map (kleT k c))
  | v => kleC k c v
def own1 (σ : St) (k : Nat) : Bool := match σ.ob.getD k .none with | .box true _ => true | _ => false
/-- an element's header goes to its place again -/
def stoEl (σ : St) (k c i k' c' i' : Nat) (K : St → Option R) : Option R :=
  match segAt (lk σ) k c with
  | some (l, xs) => bif Nat.beq k k' && Nat.beq c c' && Nat.beq i i' && isEl i l && own1 σ k then K ⟨σ.sl, setSeg σ.ob k c .no xs⟩ else none
  | none => none
/-- the header of a row of rows goes to its cell again -/
def stoHd (σ : St) (k j k' c' : Nat) (K : St → Option R) : Option R :=
  match segAt (lk σ) k j with
  | some (l, xs) => bif Nat.beq k k' && Nat.beq j c' && isHd l && own1 σ k then K ⟨σ.sl, setSeg σ.ob k j .no xs⟩ else none
  | none => none
def ownedB (σ : St) (k : Nat) (c : Option Nat) : Bool := match obRow (lk σ) k c with | some (o, _, _) => o | none => false
/-- a store through a pointer -/
def sto (T : TT) (σ : St) (t : TypeId) (a x : V) (K : St → Option R) : Option R :=
  match a, T.ty t with
  | .ptr k c i j, .c _ =>
    let plain := sealC (lkE σ) x fun x s => wr1 ⟨σ.sl, freeze σ.ob s⟩ k c i j x K
    match x with
    | .ref k' c' m => bif isBox (σ.ob.getD k .none) && isN c && ownedB σ k' c' then bif Nat.beq i 0 then mvR σ k j k' c' m K else none else plain
    | .sg k' c' .hd => bif isN c && Nat.beq i 0 then stoHd σ k j k' c' K else none
    | _ => plain
  | .sg k c (.pl i), .c _ => match x with
    | .sg k' c' (.el i') => stoEl σ k c i k' c' i' K
    | _ => none
  | .ptr k c i j, .agg ss => let ns := srcC x; sealV (lkE σ) (nrmV T t x) fun x s => wrN ⟨σ.sl, freeze σ.ob s⟩ k c i j ss ns x K
  | _, _ => none
where
  isBox : Ob → Bool | .box .. => true | _ => false
  isN : Option Nat → Bool | none => true | _ => false


def allNil : List V → Bool
  | [] => true
  | .nil :: xs => allNil xs
  | _ => false
/-- append to an element of a row of rows -/
def appE (σ : St) (d z bytes k c i : Nat) (x : V) (K : St → Option R) : Option R :=
  match segAt (lk σ) k c with
  | some (.no, xs) => bif Nat.beq z 1 && own1 σ k && !Nat.beq d k then exN xs i fun e => elL e fun olds => asList (lkE σ) 1 x fun ys =>
      chk (decide ((olds.length + ys.length) * bytes ≤ 140737488355328) && !decide (ys.length = 0))
      (let σ' := kill σ d; K ⟨(σ'.sl.map (kleV k c)).set d (.sg k c (.el i)), setSeg σ'.ob k c (.el i) (xs.set i (.own true 1 (olds ++ ys)))⟩) else none
  | _ => none
/-- append of nothings to a row of rows -/
def appH (σ : St) (d z bytes k c : Nat) (x : V) (K : St → Option R) : Option R :=
  match segAt (lk σ) k c with
  | some (.no, xs) => bif Nat.beq z 1 && own1 σ k && !Nat.beq d k then asList (lkE σ) 1 x fun ys =>
      chk (allNil ys && decide ((xs.length + ys.length) * bytes ≤ 140737488355328))
      (let σ' := kill σ d; K ⟨(σ'.sl.map (kilV k (some c))).set d (.sg k c .hd), setSeg σ'.ob k c .hd (xs ++ ys)⟩) else none
  | _ => none
/-- append: the row that is appended to is no more -/
def app (σ : St) (d : Nat) (z : Nat) (bytes : Nat) (s x : V) (K : St → Option R) : Option R :=
  bif Nat.blt d σ.ob.length then match s with
  | .nil => asList (lkE σ) z x fun ys => chk (decide (ys.length * bytes ≤ 140737488355328) && !decide (ys.length = 0))
      (let σ' := kill σ d; K ⟨σ'.sl.set d (.ref d none none), σ'.ob.set d (.row true z ys)⟩)
  | .ref k c m => match obRow (lk σ) k c with
    | some (o, z', xs) => bif o && Nat.beq z z' then asList (lkE σ) z x fun ys => chk (decide (((cut xs m).length + ys.length) * bytes ≤ 140737488355328))
        (let σ' := kill (kil σ k c) d; K ⟨σ'.sl.set d (.ref d none none), σ'.ob.set d (.row true z (cut xs m ++ ys))⟩) else none
    | _ => none
  | .sg k c (.el i) => appE σ d z bytes k c i x K
  | .sg k c .hd => appH σ d z bytes k c x K
  | _ => none
  else none

/-- a frozen row in a cell is data -/
def unO (v : V) : V :=
  match v with
  | .own false z xs => .sl z xs
  | v => v
/-- the arguments of a call that is handed pointers to boxes: what is no pointer is made fit .. -/
def ioSeal (lk : Nat → Ob) (vs : List V) (K : List V → List (Nat × Option Nat) → Option R) : Option R :=
  match vs with
  | [] => K [] []
  | .ptr k none 0 0 :: vs => ioSeal lk vs fun vs s => K (.ptr k none 0 0 :: vs) s
  | v :: vs => sealV lk v fun v s => ioSeal lk vs fun vs s' => K (.dt v :: vs) (s ++ s')
/-- .. and the boxes go in -/
def ioFill (ob : List Ob) (vs : List V) (K : List V → List Nat → Option R) : Option R :=
  match vs with
  | [] => K [] []
  | .ptr k none 0 0 :: vs => match ob.getD k .none with
    | .box true cs => ioFill ob vs fun vs q => K (.io (cs.map unO) :: vs) (k :: q)
    | _ => none
  | .dt v :: vs => ioFill ob vs fun vs q => K (v :: vs) q
  | _ :: _ => none
def cellOk : V → Bool
  | .own false _ _ => false
  | _ => true
/-- what comes back is laid into the boxes again; what referred to rows in them is forgotten -/
def unEnd (os : List V) (K : Option R) : Option R :=
  match os with
  | [] => K
  | _ :: _ => none
def unOut (os : List V) (K : List V → List V → Option R) : Option R :=
  match os with
  | .io cs :: os => K cs os
  | _ => none
def ioBack (σ : St) (ks : List Nat) (outs : List V) (K : St → Option R) : Option R :=
  match ks with
  | [] => unEnd outs (K σ)
  | k :: ks => unOut outs fun cs outs => match σ.ob.getD k .none with
    | .box _ old => bif Nat.beq cs.length old.length && cs.all cellOk then ioBack ⟨(kilP σ k 0 old.length).sl, σ.ob.set k (.box true cs)⟩ ks outs K else none
    | _ => none
end

/-! ### the cells of a box that was handed to a call, as its type has them -/
section
variable {R : Type}
def unO1 (z : Nat) (v : V) (K : List V → Option R) : Option R :=
  match v with
  | .own true z' xs => bif Nat.beq z' z then K xs else none
  | _ => none
def unNO (z : Nat) (v : V) (K0 : Option R) (K1 : List V → Option R) (K2 : List V → Option R) : Option R :=
  match v with
  | .nil => K0
  | .own true z' xs => bif Nat.beq z' z then K1 xs else none
  | .sl z' xs => bif Nat.beq z' z then K2 xs else none
  | _ => none
def unSelf (v : V) (K : Option R) : Option R :=
  match v with
  | .self => K
  | _ => none
def unPS (v : V) (K0 K1 : Option R) : Option R :=
  match v with
  | .self => K1
  | .sc (.pointer none) => K0
  | _ => none
def unSg (v : V) (K : List V → Option R) : Option R :=
  match v with
  | .seg .no xs => K xs
  | _ => none
def rsC (s : Sh) (old v : V) (K : V → Option R) : Option R :=
  match old, s with
  | .seg _ _, _ => unSg v fun xs => K (.seg .no xs)
  | .own _ z _, _ => unO1 z v fun xs => K (.own true z xs)
  | .nil, .l z => unNO z v (K .nil) (fun xs => K (.own true z xs)) (fun xs => K (.sl z xs))
  | .self, _ => unSelf v (K .self)
  | .sc (.pointer none), _ => unPS v (K (.sc (.pointer none))) (K .self)
  | _, s => unC s v K
def rsCs (olds cs : List V) (j : Nat) (ss : List Sh) (K : List V → Option R) : Option R :=
  match ss with
  | [] => K []
  | s :: ss => rsC s (olds.getD j .dead) (cs.getD j .dead) fun c => rsCs olds cs (j + 1) ss fun cs' => K (c :: cs')
def cellsOf : Ob → List V
  | .box _ cs => cs
  | _ => []
def rsB (σ0 σ : St) (k : Nat) (ss : List Sh) (K : St → Option R) : Option R :=
  match σ.ob.getD k .none with
  | .box o cs => bif Nat.beq cs.length ss.length then rsCs (cellsOf (σ0.ob.getD k .none)) cs 0 ss fun cs' => K ⟨σ.sl, σ.ob.set k (.box o cs')⟩ else none
  | _ => none
def rsA (T : TT) (σ0 σ : St) (az : List (V × TypeId)) (K : St → Option R) : Option R :=
  match az with
  | [] => K σ
  | (.ptr k none 0 0, t) :: az => match T.ty t with
    | .p ss => rsB σ0 σ k ss fun σ => rsA T σ0 σ az K
    | _ => rsA T σ0 σ az K
  | _ :: az => rsA T σ0 σ az K
end
def loudArgs (T : TT) (σ : St) (o : Oper) : List (V × TypeId) :=
  match o.op with
  | .call { callee := .value _, args, argTypes } => (args.toList.map (val T σ)).zip argTypes.toList
  | _ => []

/-! ### regions -/
/-- the slots that an operation reads -/
def readsOf (ops : List Oper) (o : Oper) : List Nat :=
  (o.op.operands.toList.filterMap fun | .tmp t => some t | _ => none) ++
  (match o.guard with | some (j, _) => ((ops[j]?).bind (·.dst)).toList | none => [])
/-- for each operation: those that stand before it in every order -/
def befores (ops : List Oper) : List (List Nat) :=
  ops.foldl (fun acc o => acc ++ [o.after.toList.foldl (fun l e => bif Region.binds .any e then e.on :: acc.getD e.on [] ++ l else l) []]) []
/-- operations i < j (by place) may be exchanged -/
def apartB (T : TT) (ops : List Oper) (x y : Oper) : Bool :=
  isQuiet T x && isQuiet T y && match x.dst, y.dst with
  | some dx, some dy => !Nat.beq dx dy && !memN (readsOf ops x) dy && !memN (readsOf ops y) dx
  | _, _ => false
def dstNe (x y : Oper) : Bool := match x.dst, y.dst with | some a, some b => !Nat.beq a b | _, _ => true
def regOk (T : TT) (ops : List Oper) : Bool :=
  let bs := befores ops
  ops.zipIdx.all fun (y, j) => y.after.toList.all (fun e => !Region.binds .any e || Nat.blt e.on j) && ops.zipIdx.all fun (x, i) => !Nat.blt i j || (dstNe x y && (memN (bs.getD j []) i || apartB T ops x y))

def keysC : V → List Nat
  | .ref k _ _ => [k]
  | .ptr k _ _ _ => [k]
  | .sg k _ _ => [k]
  | .bref k => [k]
  | _ => []
def keysN : V → List Nat
  | .st cs => cs.flatMap keysC
  | .tup vs => vs.flatMap fun | .st cs => cs.flatMap keysC | v => keysC v
  | v => keysC v
/-- what the operation reads refers to objects that are there -/
def keysOk (T : TT) (σ : St) (o : Oper) : Bool := o.op.operands.toList.all fun x => (keysN (val T σ x)).all fun k => !isNone (σ.ob.getD k .none)
def dstOf (o : Oper) : Nat := o.dst.getD 0
/-- what a region's quiet operations will make is made room for -/
def prep (T : TT) (ops : List Oper) (σ : St) : St :=
  match ops with
  | [] => σ
  | o :: ops => bif isQuiet T o then prep T ops (bif isNone (σ.ob.getD (dstOf o) .none) then σ else kill σ (dstOf o)) else prep T ops σ
/-- behind a region: what is used within it alone is dropped -/
def clean (kp : Nat → Bool) (ops : List Oper) (σ : St) : St :=
  match ops with
  | [] => σ
  | o :: ops => match o.dst with
    | some d => bif kp d then clean kp ops σ else clean kp ops (drop σ d)
    | none => clean kp ops σ
def gcs (ops : List Oper) (σ : St) : St :=
  match ops with
  | [] => σ
  | o :: ops => match o.dst with
    | some d => gcs ops (gc σ d)
    | none => gcs ops σ

/-- a row of rows out of one own row: a box -/
def nest {R : Type} (σ : St) (d : Nat) (x : V) (K : St → Option R) : Option R :=
  bif Nat.blt d σ.ob.length then match x with
  | .ref k none none => match σ.ob.getD k .none with
    | .row true 1 ys =>
      let σ' := kill (kil σ k none) d
      K ⟨σ'.sl.set d (.bref d), σ'.ob.set d (.box true [.own true 1 ys])⟩
    | _ => none
  | _ => none
  else none
/-- a box whose first cell takes a row over -/
def boxM {R : Type} (σ : St) (d : Nat) (ss : List Sh) (x : V) (K : St → Option R) : Option R :=
  bif Nat.blt d σ.ob.length then match x with
  | .st (v :: vs) => bif Nat.beq (vs.length + 1) ss.length then sealCs (lkE σ) vs fun cs s =>
    let ob := freeze σ.ob s
    match v with
    | .ref k none m => (match ob.getD k .none with
      | .row true z xs =>
        let σ' := kill (kil ⟨σ.sl, ob⟩ k none) d
        K ⟨σ'.sl.set d (.ptr d none 0 0), σ'.ob.set d (.box true (.own true z (cut xs m) :: cs))⟩
      | _ => none)
    | .bref k => (match ob.getD k .none with
      | .box true xs => bif xs.all elB then
        (let σ' := kill (kill ⟨σ.sl, ob⟩ k) d
        K ⟨σ'.sl.set d (.ptr d none 0 0), σ'.ob.set d (.box true (.seg .no xs :: cs))⟩) else none
      | _ => none)
    | _ => none else none
  | _ => none
  else none
where
  elB : V → Bool
    | .own true 1 _ => true
    | .nil => true
    | _ => false
/-- a text copied over an element's bytes -/
def cpy {R : Type} (σ : St) (d : Nat) (t : V) (b : ByteArray) (K : St → Option R) : Option R :=
  bif Nat.blt d σ.ob.length then match t with
  | .sg k c (.sub i l) => match segAt (lk σ) k c with
    | some (lo, xs) => bif own1 σ k then exN xs i fun e => elO e fun ys => chk (decide (l + b.size ≤ ys.length))
      (K ⟨σ.sl.set d (.sc (.int .i64 b.size)), setSeg σ.ob k c lo (xs.set i (.own true 1 (ys.take l ++ bytesV b ++ ys.drop (l + b.size))))⟩) else none
    | _ => none
  | _ => none
  else none

section
variable (T : TT) (call : FuncId → List V → Option Res)

/-- one loud operation -/
def exLoud0 {R : Type} (σ : St) (o : Oper) (K : St → Option R) : Option R :=
  match o.op, o.dst with
  | .store t a x, none => sto T σ t (val T σ a) (val T σ x) K
  | .call { callee := .builtin .append, args, argTypes }, some d => match args.toList, argTypes.toList with
    | [s, x], [t, t'] => match T.el t with
      | some (e, z) => bif Nat.beq t t' then match T.esz e, T.zero e with
        | some by_, some _ => app σ d z by_ (val T σ s) (val T σ x) K
        | _, _ => none else bif memN T.u8L t && isStrTy (T.ty t') && Nat.beq z 1 then match T.esz e, T.zero e with
        | some by_, some _ => unS (val T σ x) fun b => app σ d z by_ (val T σ s) (.sl 1 (bytesV b)) K
        | _, _ => none else match intTy (T.ty t'), T.esz e, T.zero e with
        | some _, some by_, some zs => asI (val T σ x) fun m => chk (decide (0 < m) && decide (m.toNat * by_ ≤ 140737488355328)) (app σ d z by_ (val T σ s) (.sl z (List.replicate m.toNat (oneOr zs))) K)
        | _, _, _ => none
      | none => none
    | _, _ => none
  | .call { callee := .builtin .copy, args, argTypes }, some d => match args.toList, argTypes.toList with
    | [s, x], [t, t'] => match T.el t with
      | some (_, 1) => bif isStrTy (T.ty t') then unS (val T σ x) fun b => cpy σ d (val T σ s) b K else none
      | _ => none
    | _, _ => none
  | .buildSlice t n ps, some d => match n, ps.toList with
    | 1, [(0, x)] => match T.el t with
      | some (e, 1) => match T.zero e with
        | some _ => nest σ d (val T σ x) K
        | none => none
      | _ => none
    | _, _ => none
  | .box t x, some d => match T.ty t with
    | .agg ss => boxM σ d ss (val T σ x) K
    | _ => none
  | .call { callee := .value f, args, argTypes }, some d => match val T σ f with
    | .sc (.func (.func f) fs cv) => bif Nat.beq fs.size 0 && Nat.beq cv.size 0 then ioSeal (lkE σ) (nrmA T argTypes.toList (args.toList.map (val T σ))) fun az s => ioFill (freeze σ.ob s) az fun vs q => bif nodup q then
        (call f vs).bind fun r => ioBack ⟨σ.sl, freeze σ.ob s⟩ q r.2 fun σ => match T.ty o.type with
          | .c sh => unC sh r.1 fun x => K ⟨σ.sl.set d x, σ.ob⟩
          | .agg ss => unSt ss.length r.1 (K ⟨σ.sl.set d (.dt r.1), σ.ob⟩)
          | .tup ts => unTup ts.length r.1 fun vs => unVs vs 0 ts fun vs => K ⟨σ.sl.set d (.tup vs), σ.ob⟩
          | .p _ => none
        else none
      else none
    | _ => none
  | _, _ => none

def exLoud {R : Type} (σ : St) (o : Oper) (K : St → Option R) : Option R := exLoud0 T call σ o fun σ' => rsA T σ σ' (loudArgs T σ o) K

/-- one operation; fs: what is frozen since the last loud one -/
def exOp (dr : Bool) (σ : St) (fs : List (Nat × Option Nat)) (o : Oper) (K : St → List (Nat × Option Nat) → Option Res) : Option Res :=
  bif isQuiet T o then bif dr && !keysOk T σ o then none else match o.dst with
    | some d => qv T call (val T σ) (lkE σ) d o fun x ob s => bif isNone ob || isNone (σ.ob.getD d .none) then K (putN σ d x ob) (fs ++ s) else none
    | none => none
  else exLoud T call ⟨σ.sl, freeze σ.ob fs⟩ o fun σ => K σ []

/-- what a step that is skipped leaves -/
def isUndef : V → Bool
  | .tup [] => true
  | _ => false
def exOps (dr : Bool) (all : List Oper) : List Oper → St → List (Nat × Option Nat) → (St → Option Res) → Option Res
  | [], σ, fs, K => K ⟨σ.sl, freeze σ.ob fs⟩
  | o :: ops, σ, fs, K =>
    match o.guard with
    | none => exOp T call dr σ fs o (fun σ fs => exOps dr all ops σ fs K)
    | some (j, want) => match (all[j]?).bind (·.dst) with
      | none => none
      | some g =>
        let go (t : Bool) : Option Res :=
          let σ := (⟨σ.sl.set g (.sc (.bool t)), σ.ob⟩ : St)
          bif t == want then exOp T call dr σ fs o (fun σ fs => exOps dr all ops σ fs K) else match o.dst with
            | some d => exOps dr all ops ⟨σ.sl.set d (.tup []), σ.ob⟩ fs K
            | none => none
        bif isUndef (σ.sl.getD g .dead) then (match o.dst with
            | some d => exOps dr all ops ⟨σ.sl.set d (.tup []), σ.ob⟩ fs K
            | none => none) else unB (σ.sl.getD g .dead) fun t => bif t then go true else go false
/-! ### drawn regions with a loud call that floats among quiet operations -/
/-- what an operation did: i: its place; us: the keys that it looked at; ts: the keys that it may have turned; x: what it put; pl: it made no object and froze nothing; ld: it is loud -/
structure Ent where
  i : Nat
  us : List Nat
  ts : List Nat
  x : V
  pl : Bool
  ld : Bool
def disj (a b : List Nat) : Bool := a.all fun k => !memN b k
/-- nothing in it is forgotten when rows in the boxes ks are -/
def trC (ks : List Nat) (v : V) : Bool :=
  match v with
  | .ref k (some _) _ => !memN ks k
  | .ptr k (some _) _ _ => !memN ks k
  | .sg k _ _ => !memN ks k
  | _ => true
def trT (ks : List Nat) (v : V) : Bool :=
  match v with
  | .st _ => false
  | v => trC ks v
def triv (ks : List Nat) (v : V) : Bool :=
  match v with
  | .st cs => cs.all (trC ks)
  | .tup cs => cs.all (trT ks)
  | v => trC ks v
def okEnt (un : List (List Nat)) (e e' : Ent) : Bool := !memN (un.getD e.i []) e'.i || !(e.ld || e'.ld) || (e.pl && e'.pl && disj e.us e'.ts && disj e'.us e.ts && triv e'.ts e.x && triv e.ts e'.x)
def okLog (un : List (List Nat)) (e : Ent) (lg : List Ent) : Bool := lg.all (okEnt un e)
def noDt : V → Bool
  | .dt _ => false
  | _ => true
def opKeys (σ : St) (o : Oper) : List Nat := o.op.operands.toList.flatMap fun x => keysN (val T σ x)
/-- the operations that stand in no order with each -/
def unOf (ops : List Oper) : List (List Nat) :=
  let bs := befores ops
  ops.zipIdx.map fun (_, j) => (ops.zipIdx.filter fun (_, i) => !Nat.beq i j && !memN (bs.getD j []) i && !memN (bs.getD i []) j).map (·.2)
def isIo (o : Oper) : Bool := match o.op with | .call { callee := .value _, .. } => o.dst.isSome | _ => false
def someDst (o : Oper) : Bool := o.dst.isSome
/-- a quiet one and a call -/
def apartL (ops : List Oper) (x y : Oper) : Bool :=
  ((isQuiet T x && !isQuiet T y && isIo y) || (!isQuiet T x && isQuiet T y && isIo x)) && match x.dst, y.dst with
  | some dx, some dy => !Nat.beq dx dy && !memN (readsOf ops x) dy && !memN (readsOf ops y) dx
  | _, _ => false
def regOk2 (ops : List Oper) : Bool :=
  let bs := befores ops
  ops.zipIdx.all fun (y, j) => y.after.toList.all (fun e => !Region.binds .any e || Nat.blt e.on j) && ops.zipIdx.all fun (x, i) => !Nat.blt i j || (dstNe x y && (memN (bs.getD j []) i || apartB T ops x y || apartL T ops x y))
/-- what the quiet ones that float make is not there ahead of the region -/
def floats (ops : List Oper) (un : List (List Nat)) (j : Nat) (o : Oper) : Bool := isQuiet T o && ops.zipIdx.any fun (x, i) => memN (un.getD j []) i && !isQuiet T x
def dropF (ops : List Oper) (un : List (List Nat)) : List (Oper × Nat) → St → St
  | [], σ => σ
  | (o, j) :: l, σ => dropF ops un l (bif floats T ops un j o then drop σ (dstOf o) else σ)
def ndOf (ops : List Oper) (un : List (List Nat)) (j : Nat) : List Nat := (un.getD j []).map fun i => match ops[i]? with | some o => dstOf o | none => 0
/-- one operation; its guard is met -/
def exD1 {R : Type} (ops : List Oper) (un : List (List Nat)) (i : Nat) (o : Oper) (σ : St) (fs : List (Nat × Option Nat)) (lg : List Ent) (K : St → List (Nat × Option Nat) → List Ent → Option R) : Option R :=
  bif isQuiet T o then bif keysOk T σ o && disj (opKeys T σ o) (ndOf ops un i) then match o.dst with
      | some d => qv T call (val T σ) (lkE σ) d o fun x ob s => bif (isNone ob || isNone (σ.ob.getD d .none)) && okLog un ⟨i, opKeys T σ o, [], x, isNone ob && s.isEmpty, false⟩ lg then
          K (putN σ d x ob) (fs ++ s) (⟨i, opKeys T σ o, [], x, isNone ob && s.isEmpty, false⟩ :: lg) else none
      | none => none
    else none
  else bif okLog un ⟨i, [], opKeys T σ o, .dead, true, true⟩ lg && ((un.getD i []).isEmpty || (σ.sl.all (triv (opKeys T σ o)) && o.op.operands.toList.all fun x => noDt (val T σ x))) then
    exLoud T call ⟨σ.sl, freeze σ.ob fs⟩ o fun σ' => K σ' [] (⟨i, [], opKeys T σ o, .dead, true, true⟩ :: lg) else none
def exG {R : Type} (all : List Oper) (σ : St) (o : Oper) (run skip : St → Option R) : Option R :=
  match o.guard with
  | none => run σ
  | some (j, want) => match (all[j]?).bind (·.dst) with
    | none => none
    | some g =>
      let go (t : Bool) : Option R :=
        let σ := (⟨σ.sl.set g (.sc (.bool t)), σ.ob⟩ : St)
        bif t == want then run σ else skip σ
      bif isUndef (σ.sl.getD g .dead) then skip σ else unB (σ.sl.getD g .dead) fun t => bif t then go true else go false
def exD {R : Type} (ops : List Oper) (un : List (List Nat)) : List (Oper × Nat) → St → List (Nat × Option Nat) → List Ent → (St → Option R) → Option R
  | [], σ, fs, lg, K => K ⟨σ.sl, freeze σ.ob fs⟩
  | (o, i) :: l, σ, fs, lg, K => exG ops σ o (fun σ => exD1 T call ops un i o σ fs lg fun σ fs lg => exD ops un l σ fs lg K)
      (fun σ => match o.dst with | some d => exD ops un l ⟨σ.sl.set d (.tup []), σ.ob⟩ fs (⟨i, [], [], .tup [], true, false⟩ :: lg) K | none => none)
def exDr {R : Type} (ops : List Oper) (σ : St) (K : St → Option R) : Option R :=
  let un := unOf ops
  exD T call ops un ops.zipIdx (dropF T ops un ops.zipIdx σ) [] [] K
end

inductive Ex where
  | normal
  | exit (id : Nat)
  | ret

structure Env where
  call : FuncId → List V → Option Res
  loop : (Nat → Bool) → Code → St → (Ex → St → Option Res) → Option Res

def cleanC (c : Operand) (σ : St) : St :=
  match c with
  | .tmp t => drop σ t
  | _ => σ

/-! ### loops: what a round makes anew is dropped at its head -/
def opsOf : Code → List Oper
  | .region _ ops _ => ops.toList
  | .seq a b => opsOf a ++ opsOf b
  | .cond _ a b => opsOf a ++ opsOf b
  | .block _ b => opsOf b
  | .loop b => opsOf b
  | _ => []
def isVar (o : Oper) : Bool :=
  match o.op with
  | .assign _ | .move _ => true
  | _ => false
def lpDrop (ops : List Oper) (σ : St) : St :=
  match ops with
  | [] => σ
  | o :: ops => match o.dst with
    | some d => bif isVar o then lpDrop ops σ else lpDrop ops (drop σ d)
    | none => lpDrop ops σ
/-- a loop's number: its first region's, and how many it has -/
def regOf : Code → Option Nat
  | .region id _ _ => some id
  | .seq a b => match regOf a with | some n => some n | none => regOf b
  | .cond _ a b => match regOf a with | some n => some n | none => regOf b
  | .block _ b => regOf b
  | .loop b => regOf b
  | _ => none
def nReg : Code → Nat
  | .region .. => 1
  | .seq a b => nReg a + nReg b
  | .cond _ a b => nReg a + nReg b
  | .block _ b => nReg b
  | .loop b => nReg b
  | _ => 0
def loopKey (b : Code) : Nat := 1000000 + 4096 * (64 * (regOf b).getD 0 + nReg b % 64)
/-- what is not read any more at a loop's head is dropped there -/
def lpDead (kp : Nat → Bool) (key : Nat) : Nat → St → St
  | 0, σ => σ
  | n + 1, σ => lpDead kp key n (bif kp (key + n) then σ else drop σ n)
def lpGc (kp : Nat → Bool) (key : Nat) : Nat → St → St
  | 0, σ => σ
  | n + 1, σ => lpGc kp key n (bif kp (key + n) then σ else gc σ n)
def lpMore (kp : Nat → Bool) (key : Nat) (σ : St) : St := bif kp (key + 4095) then lpGc kp key σ.sl.length (lpDead kp key σ.sl.length σ) else σ
def lpClean (kp : Nat → Bool) (b : Code) (σ : St) : St := lpMore kp (loopKey b) (gcs (opsOf b) (lpDrop (opsOf b) σ))

def exC (T : TT) (E : Env) (kp : Nat → Bool) : Code → St → (Ex → St → Option Res) → Option Res
  | .skip, σ, K => K .normal σ
  | .region _ ops draw, σ, K => bif draw && !regOk T ops.toList then
      (bif regOk2 T ops.toList then exDr T E.call ops.toList (prep T ops.toList σ) fun σ => K .normal (gcs ops.toList (clean kp ops.toList σ)) else none) else
      exOps T E.call draw ops.toList ops.toList (prep T ops.toList σ) [] fun σ => K .normal (gcs ops.toList (clean kp ops.toList σ))
  | .seq a b, σ, K => exC T E kp a σ fun e σ => match e with
    | .normal => exC T E kp b σ K
    | e => K e σ
  | .cond c a b, σ, K => unB (val T σ c) fun t => bif t then exC T E kp a (cleanC c σ) K else exC T E kp b (cleanC c σ) K
  | .block id b, σ, K => exC T E kp b σ fun e σ => match e with
    | .exit i => bif Nat.beq i id then K .normal σ else K (.exit i) σ
    | e => K e σ
  | .loop b, σ, K => E.loop kp b (lpClean kp b σ) K
  | .exit id, σ, K => K (.exit id) σ
  | .ret, σ, K => K .ret σ
  | _, _, _ => none

/-! ### functions -/
def init (T : TT) (n : Nat) (args : List V) (ts : List TypeId) (i : Nat) (K : List V → List Ob → Option Res) : Option Res :=
  match ts, args with
  | [], caps => bif caps.all isRp && Nat.ble (i + caps.length) n then K (caps ++ List.replicate (n - (i + caps.length)) .dead) (List.replicate (n - i) .none) else none
  | t :: ts, a :: args => match T.ty t with
    | .c s => unC s a fun a => init T n args ts (i + 1) fun sl ob => K (a :: sl) (.none :: ob)
    | .agg ss => unSt ss.length a (init T n args ts (i + 1) fun sl ob => K (.dt a :: sl) (.none :: ob))
    | .p ss => unIo a fun cs => bif Nat.beq cs.length ss.length then init T n args ts (i + 1) fun sl ob => K (.ptr i none 0 0 :: sl) (.box true cs :: ob) else none
    | .tup _ => none
  | _, _ => none

def retV (T : TT) (σ : St) (r : ResultVar) (ty : TypeId) (K : V → List (Nat × Option Nat) → Option Res) : Option Res :=
  match r with
  | .tmp t => sealV (lkE σ) (nrmV T ty (σ.sl.getD t .dead)) K
  | .cell a t => match σ.sl.getD a .dead with
    | .ptr k none 0 0 => match lkE σ k, T.ty t with
      | .box _ cs, .agg ss => bif Nat.beq cs.length ss.length then sealCs (lkE σ) (nrmCs ss (view k 0 cs)) fun cs s => K (.st cs) s else none
      | .box _ [c], .c _ => sealC (lkE σ) (viewC k 0 c) K
      | _, _ => none
    | _ => none
def retVs (T : TT) (σ : St) (rs : List ResultVar) (ts : List TypeId) (K : List V → List (Nat × Option Nat) → Option Res) : Option Res :=
  match rs with
  | [] => K [] []
  | r :: rs => retV T σ r (ts.headD 0) fun v s => retVs T σ rs ts.tail fun vs s' => K (v :: vs) (s ++ s')
/-- what the boxes that came in hold now -/
def outs (T : TT) (ob : List Ob) (ts : List TypeId) (i : Nat) (K : List V → Option Res) : Option Res :=
  match ts with
  | [] => K []
  | t :: ts => match T.ty t with
    | .p _ => match ob.getD i .none with
      | .box true cs => outs T ob ts (i + 1) fun os => K (.io (cs.map unO) :: os)
      | _ => none
    | _ => outs T ob ts (i + 1) K
def kret (T : TT) (fn : Func) (e : Ex) (σ : St) : Option Res :=
  match e with
  | .exit _ => none
  | _ =>
    let fin (v : V) (s : List (Nat × Option Nat)) : Option Res := outs T (freeze σ.ob s) fn.params.toList 0 fun os => some (v, os)
    let plain : Option Res := retVs T σ fn.results.toList fn.resultTypes.toList fun vs s => fin (match vs with | [v] => v | vs => .tup vs) s
    match fn.results.toList with
    | [.tmp t] => match σ.sl.getD t .dead with
      | .ptr k none 0 0 => bif Nat.ble fn.params.size k then match σ.ob.getD k .none with
        | .box true cs => sealCs (lkE σ) (view k 0 (cs.map eC)) fun cs s => match (freeze σ.ob s).getD k .none with
          | .box true _ => fin (.io cs) s
          | _ => none
        | _ => none else none
      | _ => plain
    | _ => plain

def isP (T : TT) (ps : List TypeId) (d : Nat) : Bool := match ps[d]? with | some t => (match T.ty t with | .p _ => true | _ => false) | none => false
def dstGe (T : TT) (ps : List TypeId) (o : Oper) : Bool := match o.dst with | some d => !isP T ps d | none => true
def runB (T : TT) (E : Env) (f : FuncId) (args : List V) : Option Res :=
  match T.fn f with
  | some fn => match fn.body with
    | some c => bif (opsOf c).all (dstGe T fn.params.toList) then init T fn.ntmps args fn.params.toList 0 fun sl ob => exC T E (T.keep f) c ⟨sl, ob⟩ (kret T fn) else none
    | none => none
  | none => none
/-- a function that is known by a contract, or its body -/
def runF (T : TT) (E : Env) (f : FuncId) (args : List V) : Option Res :=
  match fnd T.extL f with
  | some g => g args
  | none => runB T E f args

def exE (T : TT) : Nat → Env
  | 0 => ⟨fun _ _ => none, fun _ _ _ _ => none⟩
  | n + 1 => ⟨runF T (exE T n), fun kp b σ K => exC T (exE T n) kp b σ fun e σ => match e with
      | .normal => (exE T n).loop kp b (lpClean kp b σ) K
      | e => K e σ⟩

def ev (T : TT) (n : Nat) (f : FuncId) (args : List V) : Option Res := (exE T n).call f args

/-! ### places in a function's code, with what follows -/
inductive Dir where
  | l | r | t | f | b
def kAt (T : TT) (E : Env) (kp : Nat → Bool) : List Dir → Code → (Ex → St → Option Res) → Option (Code × (Ex → St → Option Res))
  | [], c, K => some (c, K)
  | .l :: p, .seq a b, K => kAt T E kp p a fun e σ => match e with
    | .normal => exC T E kp b σ K
    | e => K e σ
  | .r :: p, .seq _ b, K => kAt T E kp p b K
  | .t :: p, .cond _ a _, K => kAt T E kp p a K
  | .f :: p, .cond _ _ b, K => kAt T E kp p b K
  | .b :: p, .block id b, K => kAt T E kp p b fun e σ => match e with
    | .exit i => bif Nat.beq i id then K .normal σ else K (.exit i) σ
    | e => K e σ
  | _, _, _ => none
/-- from a place of f's body on -/
def at_ (T : TT) (E : Env) (f : FuncId) (p : List Dir) (σ : St) : Option Res :=
  match T.fn f with
  | some fn => match fn.body with
    | some c => match kAt T E (T.keep f) p c (kret T fn) with
      | some (c, K) => exC T E (T.keep f) c σ K
      | none => none
    | none => none
  | none => none
/-- the loop at a place of f's body, from a round's head on: E: what the function was entered with, L: what is left of rounds -/
def lp (T : TT) (E L : Env) (f : FuncId) (p : List Dir) (σ : St) : Option Res :=
  match T.fn f with
  | some fn => match fn.body with
    | some c => match kAt T E (T.keep f) p c (kret T fn) with
      | some (.loop b, K) => L.loop (T.keep f) b σ K
      | _ => none
    | none => none
  | none => none

end Go.Proofs.YtaapkkeogajfpaaDoor.VM

/- The abstract machine and the memory: relations and their first laws. -/
set_option linter.unusedVariables false
set_option linter.unusedSimpArgs false
namespace Go.Proofs.YtaapkkeogajfpaaDoor.VM

/-- the cells cs lie from ⟨b, o⟩ on -/
abbrev At (w : World) (b o : Nat) (cs : List Value) : Prop := w.rangeAt b o cs

/-- frozen data: the cells cs read as x, all memory behind them in blocks of A -/
inductive FR (w : World) (A : Nat → Prop) : List Value → V → Prop where
  | sc {v : Value} (h : v.oneCell' = true) : FR w A [v] (.sc v)
  | nil : FR w A [.slice none 0 0] .nil
  | sl {a : Option Addr} {n c z : Nat} {xs : List V} (b o : Nat) (ec : Nat → List Value) (hn : xs.length = n) (hc : n ≤ c)
      (ha : 0 < n → a = some ⟨b, o, none⟩ ∧ A b) (hl : ∀ i, i < n → (ec i).length = z ∧ At w b (o + i * z) (ec i))
      (hx : ∀ i x, xs[i]? = some x → FR w A (ec i) x) : FR w A [.slice a n c] (.sl z xs)
  | st {cs : List Value} {vs : List V} (hl : cs.length = vs.length) (h : ∀ (i : Nat) v x, cs[i]? = some v → vs[i]? = some x → FR w A [v] x) : FR w A cs (.st vs)
  | rp {b o j : Nat} {ecs : List Value} {x : V} (hA : A b) (hc : At w b o ecs) (hx : FR w A ecs x) : FR w A [.pointer (some ⟨b, o + j, none⟩)] (.rp x j)
  | clo {f : FuncId} {cv : Array Value} {caps : List V} (hl : cv.size = caps.length) (h : ∀ (i : Nat) v x, cv[i]? = some v → caps[i]? = some x → FR w A [v] x) : FR w A [.func (.func f) #[] cv] (.clo f caps)

theorem At.mono {w w' : World} {b o : Nat} {cs : List Value} (h : At w b o cs) (hb : w'.heap[b]? = w.heap[b]?) : At w' b o cs :=
  fun j v hv => (World.cell?_of_block (w := w) (w' := w') (a := ⟨b, o + j, none⟩) hb).trans (h j v hv)

theorem FR.mono {w w' : World} {A A' : Nat → Prop} {cs : List Value} {x : V} (h : FR w A cs x)
    (hb : ∀ b, A b → w'.heap[b]? = w.heap[b]?) (hA : ∀ b, A b → A' b) : FR w' A' cs x := by
  induction h with
  | sc h => exact .sc h
  | nil => exact .nil
  | sl b o ec hn hc ha hl _ ih =>
    refine .sl b o ec hn hc (fun h0 => ⟨(ha h0).1, hA _ (ha h0).2⟩) (fun i hi => ⟨(hl i hi).1, (hl i hi).2.mono (hb _ (ha (by omega)).2)⟩) ih
  | st hl _ ih => exact .st hl ih
  | rp hA' hc _ ih => exact .rp (hA _ hA') (hc.mono (hb _ hA')) ih
  | clo hl _ ih => exact .clo hl ih

/-- a value of a slot or of an argument reads as x -/
def VR (w : World) (A : Nat → Prop) (v : Value) (x : V) : Prop :=
  match x with
  | .st vs => ∃ arr, v = .agg arr ∧ FR w A arr.toList (.st vs)
  | x => FR w A [v] x

theorem VR.mono {w w' : World} {A A' : Nat → Prop} {v : Value} {x : V} (h : VR w A v x)
    (hb : ∀ b, A b → w'.heap[b]? = w.heap[b]?) (hA : ∀ b, A b → A' b) : VR w' A' v x := by
  unfold VR at *
  split
  · obtain ⟨arr, h1, h2⟩ := h
    exact ⟨arr, h1, h2.mono hb hA⟩
  · rename_i hx
    cases x <;> first
      | exact absurd rfl (hx _)
      | exact FR.mono h hb hA

theorem FR.one {w : World} {A : Nat → Prop} {cs : List Value} {x : V} (h : FR w A cs x) : ∀ v ∈ cs, v.oneCell' = true := by
  induction h with
  | sc h => intro v hv; simp at hv; subst hv; exact h
  | nil => intro v hv; simp at hv; subst hv; rfl
  | sl => intro v hv; simp at hv; subst hv; rfl
  | rp => intro v hv; simp at hv; subst hv; rfl
  | clo => intro v hv; simp at hv; subst hv; rfl
  | @st cs vs hl _ ih =>
    intro v hv
    obtain ⟨i, hi, rfl⟩ := List.getElem_of_mem hv
    have hv' : cs[i]? = some cs[i] := List.getElem?_eq_getElem hi
    have hx' : vs[i]? = some (vs[i]'(by omega)) := List.getElem?_eq_getElem (by omega)
    exact ih i _ _ hv' hx' _ (by simp)

theorem cells_of_one {v : Value} (h : v.oneCell' = true) : v.cells = #[v] := by
  cases v <;> first | rfl | simp [Value.oneCell'] at h

theorem VR.fr {w : World} {A : Nat → Prop} {v : Value} {x : V} (h : VR w A v x) : FR w A v.cells.toList x := by
  by_cases hx : ∃ vs, x = .st vs
  · obtain ⟨vs, rfl⟩ := hx
    obtain ⟨arr, rfl, h⟩ := h
    exact h
  · have h' : FR w A [v] x := by
      cases x <;> first | exact h | exact absurd ⟨_, rfl⟩ hx
    rw [cells_of_one (h'.one v (by simp))]
    exact h'

theorem obRow_none {lk : Nat → Ob} {k : Nat} {o : Bool} {z : Nat} {xs : List V} : obRow lk k none = some (o, z, xs) ↔ lk k = .row o z xs := by
  unfold obRow
  cases lk k <;> simp
theorem obRow_some {lk : Nat → Ob} {k c : Nat} {o : Bool} {z : Nat} {xs : List V} : obRow lk k (some c) = some (o, z, xs) ↔ ∃ b cs, lk k = .box b cs ∧ cs[c]? = some (.own o z xs) := by
  unfold obRow
  cases lk k with
  | none => simp
  | row => simp
  | box b cs =>
    simp only [List.getD_eq_getElem?_getD]
    constructor
    · intro h
      refine ⟨b, cs, rfl, ?_⟩
      cases hc : cs[c]? with
      | none => rw [hc] at h; simp at h
      | some x => rw [hc] at h; cases x <;> simp_all
    · rintro ⟨b', cs', h1, h2⟩
      injection h1 with _ h1
      subst h1
      rw [h2]
      rfl

/-! ### own memory -/
abbrev Own := Nat → Option Nat → Nat

/-- so many cells are there and may be written -/
abbrev Th (w : World) (g n : Nat) : Prop := w.there g 0 n

/-- the elements xs lie in block g, z cells each -/
def RowAt (w : World) (A : Nat → Prop) (g z : Nat) (xs : List V) : Prop :=
  ∀ (i : Nat) x, xs[i]? = some x → ∃ ecs, ecs.length = z ∧ At w g (i * z) ecs ∧ FR w A ecs x

/-- the row of a key: block g, of capacity c at least -/
structure RowOk (w : World) (A : Nat → Prop) (g z : Nat) (xs : List V) (c : Nat) : Prop where
  le : xs.length ≤ c
  th : Th w g (c * z)
  at_ : RowAt w A g z xs

/-- the key of an element of a row of rows -/
def enc (c i : Nat) : Nat := 64 * (i + 1) + c
theorem enc_mod {c : Nat} (h : c < 64) (i : Nat) : enc c i % 64 = c := by unfold enc; omega
theorem enc_div {c : Nat} (h : c < 64) (i : Nat) : enc c i / 64 - 1 = i := by unfold enc; omega
theorem enc_ge (c i : Nat) : 64 ≤ enc c i := by unfold enc; omega
theorem enc_inj {c c' i i' : Nat} (h : c < 64) (h' : c' < 64) (e : enc c i = enc c' i') : c = c' ∧ i = i' := by unfold enc at e; omega
/-- an element of a row of rows, and its header -/
def ElOk (w : World) (A : Nat → Prop) (g : Nat) (x : V) : Prop := x = .nil ∨ ∃ ys cp, x = .own true 1 ys ∧ RowOk w A g 1 ys cp
def ElH (w : World) (g : Nat) (u : Value) (x : V) : Prop :=
  (x = .nil ∧ u = .slice none 0 0) ∨ ∃ ys cp, x = .own true 1 ys ∧ u = .slice (some ⟨g, 0, none⟩) ys.length cp ∧ ys.length ≤ cp ∧ Th w g (cp * 1)
/-- a row of rows in a cell of a box -/
structure SegOk (w : World) (A : Nat → Prop) (ow : Own) (k j : Nat) (v : Value) (l : Lo) (xs : List V) : Prop where
  lt : j < 64
  th : Th w (ow k (some j)) xs.length
  hd : l ≠ .hd → ∃ cp, v = .slice (some ⟨ow k (some j), 0, none⟩) xs.length cp ∧ xs.length ≤ cp ∧ Th w (ow k (some j)) cp
  el : ∀ (i : Nat) x, xs[i]? = some x → ElOk w A (ow k (some (enc j i))) x
  hl : ∀ (i : Nat) x, xs[i]? = some x → l ≠ .el i → ∃ u, w.cell? ⟨ow k (some j), i, none⟩ = some u ∧ ElH w (ow k (some (enc j i))) u x
/-- one cell of a box -/
def BC (w : World) (A : Nat → Prop) (ow : Own) (k j : Nat) (v : Value) (x : V) : Prop :=
  match x with
  | .own _ z xs => ∃ c, (v = .slice (some ⟨ow k (some j), 0, none⟩) xs.length c ∧ j < 64) ∧ RowOk w A (ow k (some j)) z xs c
  | .seg l xs => SegOk w A ow k j v l xs
  | .dead => True
  | .st _ => False
  | .self => v = .pointer (some ⟨ow k none, 0, none⟩)
  | x => FR w A [v] x

/-- an object -/
def OR (w : World) (A : Nat → Prop) (ow : Own) (k : Nat) (o : Ob) : Prop :=
  match o with
  | .none => True
  | .box _ cs => Th w (ow k none) cs.length ∧ ∀ (j : Nat) v x, w.cell? ⟨ow k none, j, none⟩ = some v → cs[j]? = some x → BC w A ow k j v x
  | .row _ z xs => ∃ c, RowOk w A (ow k none) z xs c

/-- a key of a row of rows: its own, or an element's -/
def segK (cs : List V) (n : Nat) : Prop := ∃ l xs, cs[n % 64]? = some (.seg l xs) ∧ (n / 64 = 0 ∨ ∃ o z ys, xs[n / 64 - 1]? = some (.own o z ys))
/-- the keys that are there; those that may be written -/
def alive (ob : List Ob) (k : Nat) (c : Option Nat) : Prop :=
  match c, ob.getD k .none with
  | none, .none => False
  | none, _ => True
  | some j, .box _ cs => (∃ o z xs, cs[j]? = some (.own o z xs)) ∨ segK cs j
  | some _, _ => False
def owned (ob : List Ob) (k : Nat) (c : Option Nat) : Prop :=
  match c, ob.getD k .none with
  | none, .none => False
  | none, .box o _ => o = true
  | none, .row o _ _ => o = true
  | some j, .box _ cs => (∃ z xs, cs[j]? = some (.own true z xs)) ∨ segK cs j
  | some _, _ => False

theorem alive_of_owned {ob : List Ob} {k : Nat} {c : Option Nat} (h : owned ob k c) : alive ob k c := by
  unfold owned at h; unfold alive
  cases c <;> cases hk : ob.getD k .none <;> simp only [hk] at h ⊢
  rcases h with ⟨z, xs, h⟩ | h
  · exact .inl ⟨true, z, xs, h⟩
  · exact .inr h

/-- where frozen data may lie -/
def Fz (U : Nat → Prop) (w : World) (ow : Own) (ob : List Ob) (b : Nat) : Prop :=
  U b ∧ b < w.heap.size ∧ ∀ k c, owned ob k c → ow k c ≠ b

structure HO (U : Nat → Prop) (w : World) (ow : Own) (ob : List Ob) : Prop where
  obs : ∀ k, OR w (Fz U w ow ob) ow k (ob.getD k .none)
  inj : ∀ k c k' c', alive ob k c → alive ob k' c' → ow k c = ow k' c' → k = k' ∧ c = c'
  lt : ∀ k c, alive ob k c → ow k c < w.heap.size ∧ U (ow k c)

/-- one cell of a slot's value -/
def SC (w : World) (A : Nat → Prop) (ow : Own) (ob : List Ob) (v : Value) (x : V) : Prop :=
  match x with
  | .dead => True
  | .ref k c m => ∃ o z xs cp, obRow (fun k => ob.getD k .none) k c = some (o, z, xs) ∧ v = .slice (some ⟨ow k c, 0, none⟩) (cutLen xs m) cp ∧ cutLen xs m ≤ xs.length ∧
      cutLen xs m ≤ cp ∧ Th w (ow k c) (cp * z)
  | .ptr k none i j => (∃ o cs, ob.getD k .none = .box o cs ∧ i = 0 ∧ v = .pointer (some ⟨ow k none, j, none⟩)) ∨
      ∃ o z xs, ob.getD k .none = .row o z xs ∧ v = .pointer (some ⟨ow k none, i * z + j, none⟩)
  | .ptr k (some c) i j => ∃ o z xs, obRow (fun k => ob.getD k .none) k (some c) = some (o, z, xs) ∧ v = .pointer (some ⟨ow k (some c), i * z + j, none⟩)
  | .sg k c .hd => ∃ l xs cp, segAt (fun k => ob.getD k .none) k c = some (l, xs) ∧ v = .slice (some ⟨ow k (some c), 0, none⟩) xs.length cp ∧ xs.length ≤ cp ∧ Th w (ow k (some c)) cp
  | .sg k c (.pl i) => ∃ l xs, segAt (fun k => ob.getD k .none) k c = some (l, xs) ∧ i < xs.length ∧ v = .pointer (some ⟨ow k (some c), i, none⟩)
  | .sg k c (.el i) => c < 64 ∧ ∃ l xs x, segAt (fun k => ob.getD k .none) k c = some (l, xs) ∧ xs[i]? = some x ∧ ElH w (ow k (some (enc c i))) v x
  | .sg k c (.sub i m) => c < 64 ∧ ∃ l xs ys cp, segAt (fun k => ob.getD k .none) k c = some (l, xs) ∧ xs[i]? = some (.own true 1 ys) ∧ m ≤ ys.length ∧ ∃ m0, v = .slice (some ⟨ow k (some (enc c i)), m0, none⟩) (ys.length - m) cp ∧ (m < ys.length → m0 = m)
  | .bref k => ∃ o cs, ob.getD k .none = .box o cs ∧ v = .slice (some ⟨ow k none, 0, none⟩) cs.length cs.length
  | .io _ => False
  | .own .. => False
  | .seg .. => False
  | .tup _ => False
  | .dt _ => False
  | .st _ => False
  | x => FR w A [v] x

theorem segAt_iff {lk : Nat → Ob} {k c : Nat} {l : Lo} {xs : List V} : segAt lk k c = some (l, xs) ↔ ∃ b cs, lk k = .box b cs ∧ cs[c]? = some (.seg l xs) := by
  unfold segAt
  cases lk k with
  | none => simp
  | row => simp
  | box b cs =>
    simp only [List.getD_eq_getElem?_getD]
    constructor
    · intro h
      refine ⟨b, cs, rfl, ?_⟩
      cases hc : cs[c]? with
      | none => rw [hc] at h; simp at h
      | some x => rw [hc] at h; cases x <;> simp_all
    · rintro ⟨b', cs', h1, h2⟩
      injection h1 with _ h1
      subst h1
      rw [h2]
      rfl
theorem segK_hd {cs : List V} {j : Nat} {l : Lo} {xs : List V} (h : cs[j]? = some (.seg l xs)) (hj : j < 64) : segK cs j :=
  ⟨l, xs, by rw [Nat.mod_eq_of_lt hj]; exact h, .inl (Nat.div_eq_of_lt hj)⟩
theorem segK_el {cs : List V} {j i : Nat} {l : Lo} {xs ys : List V} {o : Bool} {z : Nat} (h : cs[j]? = some (.seg l xs)) (hj : j < 64) (hi : xs[i]? = some (.own o z ys)) : segK cs (enc j i) :=
  ⟨l, xs, by rw [enc_mod hj]; exact h, .inr ⟨o, z, ys, by rw [enc_div hj]; exact hi⟩⟩
/-- a key of rows of rows is of one of the forms -/
theorem segK_cases {cs : List V} {n : Nat} (h : segK cs n) : ∃ j l xs, j < 64 ∧ cs[j]? = some (.seg l xs) ∧ (n = j ∨ ∃ i o z ys, n = enc j i ∧ xs[i]? = some (.own o z ys)) := by
  obtain ⟨l, xs, h1, h2⟩ := h
  refine ⟨n % 64, l, xs, Nat.mod_lt _ (by omega), h1, ?_⟩
  by_cases hn : n / 64 = 0
  · exact .inl (by omega)
  · rcases h2 with h2 | ⟨o, z, ys, h2⟩
    · exact absurd h2 hn
    · exact .inr ⟨n / 64 - 1, o, z, ys, by unfold enc; omega, h2⟩
/-- rows of rows of one list are those of the other, but for what is within them -/
theorem segK_mono {cs cs' : List V} {n : Nat} (h : ∀ (j : Nat) l xs, cs'[j]? = some (.seg l xs) → ∃ l' xs', cs[j]? = some (.seg l' xs') ∧ ∀ (i : Nat) o z ys, xs[i]? = some (.own o z ys) → ∃ o' z' ys', xs'[i]? = some (.own o' z' ys')) (hk : segK cs' n) : segK cs n := by
  obtain ⟨l, xs, h1, h2⟩ := hk
  obtain ⟨l', xs', h3, h4⟩ := h _ l xs h1
  refine ⟨l', xs', h3, ?_⟩
  rcases h2 with h2 | ⟨o, z, ys, h2⟩
  · exact .inl h2
  · exact .inr (h4 _ o z ys h2)
theorem segK_sub {cs cs' : List V} {n : Nat} (h : ∀ (j : Nat) l xs, cs'[j]? = some (.seg l xs) → cs[j]? = some (.seg l xs)) (hk : segK cs' n) : segK cs n :=
  segK_mono (fun j l xs hj => ⟨l, xs, h j l xs hj, fun i o z ys hi => ⟨o, z, ys, hi⟩⟩) hk

def SV (w : World) (A : Nat → Prop) (ow : Own) (ob : List Ob) (v : Value) (x : V) : Prop :=
  match x with
  | .dt x => VR w A v x
  | .st vs => ∃ arr, v = .agg arr ∧ arr.size = vs.length ∧ ∀ (j : Nat) u y, arr[j]? = some u → vs[j]? = some y → SC w A ow ob u y
  | x => SC w A ow ob v x

def SR (w : World) (A : Nat → Prop) (ow : Own) (ob : List Ob) (v : Value) (x : V) : Prop :=
  match x with
  | .tup vs => ∃ arr, v = .tuple arr ∧ arr.size = vs.length ∧ ∀ (j : Nat) u y, arr[j]? = some u → vs[j]? = some y → SV w A ow ob u y
  | x => SV w A ow ob v x

end Go.Proofs.YtaapkkeogajfpaaDoor.VM

/- The abstract machine and the memory: how the relation is kept. -/
set_option linter.unusedVariables false
set_option linter.unusedSimpArgs false
namespace Go.Proofs.YtaapkkeogajfpaaDoor.VM

/-- w' goes on from w: but for blocks of F nothing has turned -/
structure Ext (w w' : World) (F : Nat → Prop) : Prop where
  os : w'.os = w.os
  tape : w'.tape = w.tape
  output : w'.output = w.output
  size : w.heap.size ≤ w'.heap.size
  block : ∀ b, b < w.heap.size → ¬ F b → w'.heap[b]? = w.heap[b]?

theorem Ext.refl (w : World) (F : Nat → Prop) : Ext w w F := ⟨rfl, rfl, rfl, Nat.le_refl _, fun _ _ _ => rfl⟩
theorem Ext.trans {w w1 w2 : World} {F F1 : Nat → Prop} (h : Ext w w1 F) (h1 : Ext w1 w2 F1) (hF : ∀ b, F1 b → F b ∨ w.heap.size ≤ b) : Ext w w2 F :=
  ⟨h1.os.trans h.os, h1.tape.trans h.tape, h1.output.trans h.output, Nat.le_trans h.size h1.size, fun b hb hn =>
    (h1.block b (Nat.lt_of_lt_of_le hb h.size) (fun h' => by rcases hF b h' with h' | h'; exact hn h'; omega)).trans (h.block b hb hn)⟩

theorem Th.lt {w : World} {g n : Nat} (h : Th w g n) (hn : 0 < n) : g < w.heap.size := by
  obtain ⟨v, hv⟩ := Option.isSome_iff_exists.1 (h 0 hn).1
  exact World.block_lt_of_cell? w _ hv
theorem Th.of_block {w w' : World} {g n : Nat} (h : Th w g n) (hb : w'.heap[g]? = w.heap[g]?) : Th w' g n := fun j hj => by
  have h1 := World.cell?_of_block (w := w) (w' := w') (a := ⟨g, 0 + j, none⟩) hb
  have h2 := World.frozen?_of_block (w := w) (w' := w') (a := ⟨g, 0 + j, none⟩) hb
  rw [h1, h2]; exact h j hj
theorem Ext.th {w w' : World} {F : Nat → Prop} (h : Ext w w' F) (hF : ∀ b n, F b → Th w b n → Th w' b n) (b n : Nat) (ht : Th w b n) : Th w' b n := by
  by_cases hb : F b
  · exact hF b n hb ht
  · rcases Nat.eq_zero_or_pos n with h0 | h0
    · subst h0; exact fun j hj => absurd hj (Nat.not_lt_zero _)
    · exact ht.of_block (h.block b (ht.lt h0) hb)

/-- key k is as it was, but for marks and elements -/
def same1 (ob : List Ob) (ow : Own) (ob' : List Ob) (ow' : Own) (k : Nat) : Prop :=
  match ob.getD k .none with
  | .none => True
  | .box _ cs => ∃ o' cs', ob'.getD k .none = .box o' cs' ∧ cs'.length = cs.length ∧ ow' k none = ow k none
  | .row _ z xs => ∃ o' xs', ob'.getD k .none = .row o' z xs' ∧ xs'.length = xs.length ∧ ow' k none = ow k none
/-- an element of a row of rows is as it was, but for what it holds -/
def elSh (x' x : V) : Prop := x' = x ∨ ∃ ys ys', x = .own true 1 ys ∧ x' = .own true 1 ys' ∧ ys'.length = ys.length
theorem elSh.trans {a b c : V} (h : elSh b a) (h' : elSh c b) : elSh c a := by
  rcases h' with rfl | ⟨ys, ys', rfl, rfl, e⟩
  · exact h
  · rcases h with h | ⟨zs, zs', rfl, h2, e2⟩
    · exact .inr ⟨ys, ys', h.symm, rfl, e⟩
    · cases h2; exact .inr ⟨zs, ys', rfl, rfl, e.trans e2⟩
structure same2 (ob : List Ob) (ow : Own) (ob' : List Ob) (ow' : Own) (k c : Nat) : Prop where
  row : ∀ o z xs, obRow (fun k => ob.getD k .none) k (some c) = some (o, z, xs) →
    ∃ o' xs', obRow (fun k => ob'.getD k .none) k (some c) = some (o', z, xs') ∧ xs'.length = xs.length ∧ ow' k (some c) = ow k (some c)
  hd : ∀ l xs, segAt (fun k => ob.getD k .none) k c = some (l, xs) → ∃ l' xs', segAt (fun k => ob'.getD k .none) k c = some (l', xs') ∧ xs'.length = xs.length ∧ ow' k (some c) = ow k (some c)
  el : ∀ j i, j < 64 → c = enc j i → ∀ l xs x, segAt (fun k => ob.getD k .none) k j = some (l, xs) → xs[i]? = some x →
    ∃ l' xs' x', segAt (fun k => ob'.getD k .none) k j = some (l', xs') ∧ xs'[i]? = some x' ∧ elSh x' x ∧ ow' k (some c) = ow k (some c)
/-- boxes alike -/
theorem same2.of {ob ob' : List Ob} {ow ow' : Own} {k c : Nat} (h : ∀ b cs, ob.getD k .none = .box b cs → ∃ b' cs', ob'.getD k .none = .box b' cs' ∧ (∀ o z xs, cs[c]? = some (.own o z xs) → ∃ o' xs', cs'[c]? = some (.own o' z xs') ∧ xs'.length = xs.length) ∧
      (∀ l xs, cs[c]? = some (.seg l xs) → ∃ l' xs', cs'[c]? = some (.seg l' xs') ∧ xs'.length = xs.length) ∧
      ∀ j i, j < 64 → c = enc j i → ∀ l xs x, cs[j]? = some (.seg l xs) → xs[i]? = some x → ∃ l' xs' x', cs'[j]? = some (.seg l' xs') ∧ xs'[i]? = some x' ∧ elSh x' x)
    (hw : ow' k (some c) = ow k (some c)) : same2 ob ow ob' ow' k c := by
  refine ⟨fun o z xs h1 => ?_, fun l xs h1 => ?_, fun j i hj hc l xs x h1 hx => ?_⟩
  · obtain ⟨b, cs, e, h1⟩ := obRow_some.1 h1
    obtain ⟨b', cs', e', g1, _, _⟩ := h b cs e
    obtain ⟨o', xs', g2, g3⟩ := g1 o z xs h1
    exact ⟨o', xs', obRow_some.2 ⟨b', cs', e', g2⟩, g3, hw⟩
  · obtain ⟨b, cs, e, h1⟩ := segAt_iff.1 h1
    obtain ⟨b', cs', e', _, g1, _⟩ := h b cs e
    obtain ⟨o', xs', g2, g3⟩ := g1 l xs h1
    exact ⟨o', xs', segAt_iff.2 ⟨b', cs', e', g2⟩, g3, hw⟩
  · obtain ⟨b, cs, e, h1⟩ := segAt_iff.1 h1
    obtain ⟨b', cs', e', _, _, g1⟩ := h b cs e
    obtain ⟨l', xs', x', g2, g3, g4⟩ := g1 j i hj hc l xs x h1 hx
    exact ⟨l', xs', x', segAt_iff.2 ⟨b', cs', e', g2⟩, g3, g4, hw⟩
/-- the cells in question are the same ones -/
theorem same2.cells {ob ob' : List Ob} {ow ow' : Own} {k c : Nat} (h : ∀ b cs, ob.getD k .none = .box b cs → ∃ b' cs', ob'.getD k .none = .box b' cs' ∧ cs'[c]? = cs[c]? ∧ (64 ≤ c → cs'[c % 64]? = cs[c % 64]?))
    (hw : ow' k (some c) = ow k (some c)) : same2 ob ow ob' ow' k c :=
  .of (fun b cs e => by
    obtain ⟨b', cs', e', h1, h2⟩ := h b cs e
    refine ⟨b', cs', e', fun o z xs h3 => ⟨o, xs, by rw [h1]; exact h3, rfl⟩, fun l xs h3 => ⟨l, xs, by rw [h1]; exact h3, rfl⟩, fun j i hj hc l xs x h3 hx => ⟨l, xs, x, ?_, hx, .inl rfl⟩⟩
    have := h2 (by rw [hc]; exact enc_ge _ _)
    rw [hc, enc_mod hj] at this
    rw [this]; exact h3) hw
theorem same2.refl {ob ob' : List Ob} {ow ow' : Own} {k c : Nat} (h : ob'.getD k .none = ob.getD k .none) (hw : ow' k (some c) = ow k (some c)) : same2 ob ow ob' ow' k c :=
  .cells (fun b cs e => ⟨b, cs, by rw [h]; exact e, rfl, fun _ => rfl⟩) hw
def sameK (ob : List Ob) (ow : Own) (ob' : List Ob) (ow' : Own) (k : Nat) : Option Nat → Prop
  | none => same1 ob ow ob' ow' k
  | some c => same2 ob ow ob' ow' k c
/-- the key that a cell of a slot refers to -/
def keyC : V → Option (Nat × Option Nat)
  | .ref k c _ => some (k, c)
  | .ptr k c _ _ => some (k, c)
  | .sg k c m => some (k, some (match m with | .hd => c | .pl _ => c | .el i => enc c i | .sub i _ => enc c i))
  | .bref k => some (k, none)
  | _ => none
def keysV : V → List (Nat × Option Nat)
  | .st cs => cs.filterMap keyC
  | .tup vs => vs.flatMap fun | .st cs => cs.filterMap keyC | v => (keyC v).toList
  | v => (keyC v).toList

theorem owned_one (ob : List Ob) (k : Nat) (c : Option Nat) : owned ob k c = owned [ob.getD k .none] 0 c := by unfold owned; simp
theorem alive_one (ob : List Ob) (k : Nat) (c : Option Nat) : alive ob k c = alive [ob.getD k .none] 0 c := by unfold VM.alive; simp
theorem alive_at {ob : List Ob} {k : Nat} {c : Option Nat} (h : alive [ob.getD k .none] 0 c) : alive ob k c := by rw [alive_one]; exact h
theorem alive_of {ob : List Ob} {k : Nat} {c : Option Nat} {o : Ob} (e : ob.getD k .none = o) (h : alive [o] 0 c) : alive ob k c := by rw [alive_one, e]; exact h
theorem cutLen_same {xs xs' : List V} (h : xs'.length = xs.length) (m : Option Nat) : cutLen xs' m = cutLen xs m := by
  cases m <;> simp [cutLen, h]

section
variable {w w' : World} {A A' : Nat → Prop} {ow ow' : Own} {ob ob' : List Ob}

theorem SC.keep {v : Value} {x : V} (h : SC w A ow ob v x) (hA : ∀ b, A b → A' b ∧ w'.heap[b]? = w.heap[b]?) (hT : ∀ b n, Th w b n → Th w' b n)
    (hk : ∀ k c, keyC x = some (k, c) → sameK ob ow ob' ow' k c) : SC w' A' ow' ob' v x := by
  cases x with
  | dead => trivial
  | ref k c m =>
    obtain ⟨o, z, xs, cp, h1, h2, h3, h4, h5⟩ := h
    have hs := hk k c rfl
    cases c with
    | none =>
      simp only [sameK, same1] at hs
      rw [obRow_none.1 h1] at hs
      obtain ⟨o', xs', e1, e2, e3⟩ := hs
      exact ⟨o', z, xs', cp, obRow_none.2 e1, by rw [cutLen_same e2, e3]; exact h2, by rw [cutLen_same e2, e2]; exact h3, by rw [cutLen_same e2]; exact h4, by rw [e3]; exact hT _ _ h5⟩
    | some c =>
      obtain ⟨o', xs', e1, e2, e3⟩ := hs.row _ _ _ h1
      exact ⟨o', z, xs', cp, e1, by rw [cutLen_same e2, e3]; exact h2, by rw [cutLen_same e2, e2]; exact h3, by rw [cutLen_same e2]; exact h4, by rw [e3]; exact hT _ _ h5⟩
  | ptr k c i j =>
    have hs := hk k c rfl
    cases c with
    | none =>
      simp only [sameK, same1] at hs
      rcases h with ⟨o, cs, h1, h2, h3⟩ | ⟨o, z, xs, h1, h2⟩
      · rw [h1] at hs
        obtain ⟨o', cs', e1, _, e2⟩ := hs
        exact .inl ⟨o', cs', e1, h2, by rw [e2]; exact h3⟩
      · rw [h1] at hs
        obtain ⟨o', xs', e1, _, e2⟩ := hs
        exact .inr ⟨o', z, xs', e1, by rw [e2]; exact h2⟩
    | some c =>
      obtain ⟨o, z, xs, h1, h2⟩ := h
      obtain ⟨o', xs', e1, e2, e3⟩ := hs.row _ _ _ h1
      exact ⟨o', z, xs', e1, by rw [e3]; exact h2⟩
  | sg k c m =>
    have hs := hk k _ rfl
    cases m with
    | hd =>
      obtain ⟨l, xs, cp, h1, h2, h3, h4⟩ := h
      obtain ⟨l', xs', e1, e2, e3⟩ := same2.hd hs l xs h1
      exact ⟨l', xs', cp, e1, by rw [e2, e3]; exact h2, by rw [e2]; exact h3, by rw [e3]; exact hT _ _ h4⟩
    | pl i =>
      obtain ⟨l, xs, h1, h2, h3⟩ := h
      obtain ⟨l', xs', e1, e2, e3⟩ := same2.hd hs l xs h1
      exact ⟨l', xs', e1, by rw [e2]; exact h2, by rw [e3]; exact h3⟩
    | el i =>
      obtain ⟨hc, l, xs, x, h1, h2, h3⟩ := h
      obtain ⟨l', xs', x', e1, e2, e3, e4⟩ := same2.el hs c i hc rfl l xs x h1 h2
      refine ⟨hc, l', xs', x', e1, e2, ?_⟩
      rw [e4]
      rcases h3 with ⟨rfl, h3⟩ | ⟨ys, cp, rfl, h3, h4, h5⟩
      · rcases e3 with rfl | ⟨_, _, h0, _⟩
        · exact .inl ⟨rfl, h3⟩
        · cases h0
      · rcases e3 with rfl | ⟨zs, zs', h0, rfl, e5⟩
        · exact .inr ⟨ys, cp, rfl, h3, h4, hT _ _ h5⟩
        · cases h0; exact .inr ⟨zs', cp, rfl, by rw [e5]; exact h3, by rw [e5]; exact h4, hT _ _ h5⟩
    | sub i m =>
      obtain ⟨hc, l, xs, ys, cp, h1, h2, h3, h4⟩ := h
      obtain ⟨l', xs', x', e1, e2, e3, e4⟩ := same2.el hs c i hc rfl l xs _ h1 h2
      rcases e3 with rfl | ⟨zs, zs', h0, rfl, e5⟩
      · exact ⟨hc, l', xs', ys, cp, e1, e2, h3, by rw [e4]; exact h4⟩
      · cases h0
        obtain ⟨m0, h4, h5⟩ := h4
        exact ⟨hc, l', xs', zs', cp, e1, e2, by rw [e5]; exact h3, m0, by rw [e4, e5]; exact h4, by rw [e5]; exact h5⟩
  | bref k =>
    have hs := hk k _ rfl
    obtain ⟨o, cs, h1, h2⟩ := h
    simp only [sameK, same1] at hs
    rw [h1] at hs
    obtain ⟨o', cs', e1, e2, e3⟩ := hs
    exact ⟨o', cs', e1, by rw [e2, e3]; exact h2⟩
  | seg => exact h
  | sc => exact FR.mono h (fun b hb => (hA b hb).2) (fun b hb => (hA b hb).1)
  | sl => exact FR.mono h (fun b hb => (hA b hb).2) (fun b hb => (hA b hb).1)
  | nil => exact FR.mono h (fun b hb => (hA b hb).2) (fun b hb => (hA b hb).1)
  | rp => exact FR.mono h (fun b hb => (hA b hb).2) (fun b hb => (hA b hb).1)
  | clo => exact FR.mono h (fun b hb => (hA b hb).2) (fun b hb => (hA b hb).1)
  | st => exact h
  | dt => exact h
  | own => exact h
  | io => exact h
  | tup => exact h
  | self => exact FR.mono h (fun b hb => (hA b hb).2) (fun b hb => (hA b hb).1)

theorem mem_filterMap_keyC {cs : List V} {j : Nat} {y : V} {k : Nat} {c : Option Nat} (hj : cs[j]? = some y) (hk : keyC y = some (k, c)) : (k, c) ∈ cs.filterMap keyC :=
  List.mem_filterMap.2 ⟨y, List.mem_of_getElem? hj, hk⟩

theorem SV.keep {v : Value} {x : V} (h : SV w A ow ob v x) (hA : ∀ b, A b → A' b ∧ w'.heap[b]? = w.heap[b]?) (hT : ∀ b n, Th w b n → Th w' b n)
    (hk : ∀ k c, (k, c) ∈ keysV x → sameK ob ow ob' ow' k c) : SV w' A' ow' ob' v x := by
  cases x with
  | dt x => exact VR.mono h (fun b hb => (hA b hb).2) (fun b hb => (hA b hb).1)
  | st cs =>
    obtain ⟨arr, h1, h2, h3⟩ := h
    exact ⟨arr, h1, h2, fun j u y hu hy => (h3 j u y hu hy).keep hA hT fun k c hkc => hk k c (mem_filterMap_keyC hy hkc)⟩
  | tup vs => exact h
  | _ =>
    simp only [SV] at h ⊢
    exact h.keep hA hT fun k c hkc => hk k c (by simp only [keysV, hkc, Option.toList_some, List.mem_singleton])

theorem SR.keep {v : Value} {x : V} (h : SR w A ow ob v x) (hA : ∀ b, A b → A' b ∧ w'.heap[b]? = w.heap[b]?) (hT : ∀ b n, Th w b n → Th w' b n)
    (hk : ∀ k c, (k, c) ∈ keysV x → sameK ob ow ob' ow' k c) : SR w' A' ow' ob' v x := by
  cases x with
  | tup vs =>
    obtain ⟨arr, h1, h2, h3⟩ := h
    refine ⟨arr, h1, h2, fun j u y hu hy => (h3 j u y hu hy).keep hA hT fun k c hkc => hk k c ?_⟩
    have hm := List.mem_of_getElem? hy
    simp only [keysV, List.mem_flatMap]
    refine ⟨y, hm, ?_⟩
    cases y <;> first
      | exact hkc
      | (simp [keysV, keyC] at hkc; done)
      | (exfalso; have := h3 j u _ hu hy; exact this)
  | _ =>
    simp only [SR] at h ⊢
    exact h.keep hA hT hk

theorem RowOk.keep {g z c : Nat} {xs : List V} (h : RowOk w A g z xs c) (hA : ∀ b, A b → A' b ∧ w'.heap[b]? = w.heap[b]?)
    (hg : w'.heap[g]? = w.heap[g]?) : RowOk w' A' g z xs c :=
  ⟨h.le, h.th.of_block hg, fun i x hx => by
    obtain ⟨ecs, hl, hc, hr⟩ := h.at_ i x hx
    exact ⟨ecs, hl, hc.mono hg, hr.mono (fun b hb => (hA b hb).2) (fun b hb => (hA b hb).1)⟩⟩

/-- the keys of a cell -/
def cellK (j : Nat) (x : V) (n : Nat) : Prop := (∃ o z xs, x = .own o z xs ∧ n = j) ∨ ∃ l xs, x = .seg l xs ∧ (n = j ∨ ∃ i o z ys, n = enc j i ∧ xs[i]? = some (.own o z ys))
theorem BC.keep {k j : Nat} {v : Value} {x : V} (h : BC w A ow k j v x) (hA : ∀ b, A b → A' b ∧ w'.heap[b]? = w.heap[b]?)
    (ho : ∀ n, cellK j x n → ow' k (some n) = ow k (some n) ∧ w'.heap[ow k (some n)]? = w.heap[ow k (some n)]?) (hn : x = .self → ow' k none = ow k none) : BC w' A' ow' k j v x := by
  cases x with
  | seg l xs =>
    obtain ⟨h1, h2, h3, h4, h5⟩ := h
    obtain ⟨e1, e2⟩ := ho j (.inr ⟨l, xs, rfl, .inl rfl⟩)
    have hel : ∀ (i : Nat) ys, xs[i]? = some (.own true 1 ys) → ow' k (some (enc j i)) = ow k (some (enc j i)) ∧ w'.heap[ow k (some (enc j i))]? = w.heap[ow k (some (enc j i))]? := fun i ys hi => ho _ (.inr ⟨l, xs, rfl, .inr ⟨i, true, 1, ys, rfl, hi⟩⟩)
    refine ⟨h1, by rw [e1]; exact h2.of_block e2, fun hl => ?_, fun i x hx => ?_, fun i x hx hl => ?_⟩
    · obtain ⟨cp, g1, g2, g3⟩ := h3 hl
      exact ⟨cp, by rw [e1]; exact g1, g2, by rw [e1]; exact g3.of_block e2⟩
    · rcases h4 i x hx with rfl | ⟨ys, cp, rfl, g⟩
      · exact .inl rfl
      · obtain ⟨e3, e4⟩ := hel i ys hx
        exact .inr ⟨ys, cp, rfl, by rw [e3]; exact g.keep hA e4⟩
    · obtain ⟨u, g1, g2⟩ := h5 i x hx hl
      refine ⟨u, by rw [e1, World.cell?_of_block (w := w) (w' := w') (a := ⟨ow k (some j), i, none⟩) e2]; exact g1, ?_⟩
      rcases g2 with ⟨rfl, g2⟩ | ⟨ys, cp, rfl, g2, g3, g4⟩
      · exact .inl ⟨rfl, g2⟩
      · obtain ⟨e3, e4⟩ := hel i ys hx
        exact .inr ⟨ys, cp, rfl, by rw [e3]; exact g2, g3, by rw [e3]; exact g4.of_block e4⟩
  | own o z xs =>
    obtain ⟨c, ⟨h1, h64⟩, h2⟩ := h
    obtain ⟨e1, e2⟩ := ho j (.inl ⟨o, z, xs, rfl, rfl⟩)
    refine ⟨c, ⟨by rw [e1]; exact h1, h64⟩, ?_⟩
    rw [e1]
    refine ⟨h2.le, h2.th.of_block e2, fun i x hx => ?_⟩
    obtain ⟨ecs, hl, hc, hr⟩ := h2.at_ i x hx
    exact ⟨ecs, hl, hc.mono e2, hr.mono (fun b hb => (hA b hb).2) (fun b hb => (hA b hb).1)⟩
  | dead => trivial
  | st => exact h
  | self =>
    show v = .pointer (some ⟨ow' k none, 0, none⟩)
    rw [hn rfl]; exact h
  | _ =>
    simp only [BC] at h ⊢
    exact h.mono (fun b hb => (hA b hb).2) (fun b hb => (hA b hb).1)

theorem alive_cell {k j n : Nat} {b : Bool} {cs : List V} {v : Value} {x : V} (hx : cs[j]? = some x) (hc : BC w A ow k j v x) (hn : cellK j x n) : VM.alive [.box b cs] 0 (some n) := by
  rcases hn with ⟨o, z, xs, rfl, rfl⟩ | ⟨l, xs, rfl, rfl | ⟨i, o, z, ys, rfl, hi⟩⟩
  · exact .inl ⟨o, z, xs, hx⟩
  · exact .inr (segK_hd hx hc.lt)
  · exact .inr (segK_el hx hc.lt hi)
/-- an object none of whose blocks has turned -/
theorem OR.keep {k : Nat} {o : Ob} (h : OR w A ow k o) (hA : ∀ b, A b → A' b ∧ w'.heap[b]? = w.heap[b]?)
    (h1 : o ≠ .none → ow' k none = ow k none ∧ w'.heap[ow k none]? = w.heap[ow k none]?)
    (h2 : ∀ n, VM.alive [o] 0 (some n) → ow' k (some n) = ow k (some n) ∧ w'.heap[ow k (some n)]? = w.heap[ow k (some n)]?) : OR w' A' ow' k o := by
  cases o with
  | none => trivial
  | box b cs =>
    obtain ⟨ht, hc⟩ := h
    obtain ⟨e1, e2⟩ := h1 (by simp)
    refine ⟨by rw [e1]; exact ht.of_block e2, fun j v x hv hx => ?_⟩
    rw [e1] at hv
    have hv' : w.cell? ⟨ow k none, j, none⟩ = some v := by
      rw [← World.cell?_of_block (w := w) (w' := w') (a := ⟨ow k none, j, none⟩) e2]; exact hv
    have hcx := hc j v x hv' hx
    exact hcx.keep hA (fun n hn => h2 n (alive_cell hx hcx hn)) fun _ => e1
  | row b z xs =>
    obtain ⟨c, hr⟩ := h
    obtain ⟨e1, e2⟩ := h1 (by simp)
    exact ⟨c, by rw [e1]; exact hr.keep hA e2⟩
end

/-- the listed package-level variables lie there, frozen -/
def Glb (GL : List (Nat × V)) (w : World) (A : Nat → Prop) : Prop := ∀ g x, fnd GL g = some x → A g ∧ ∃ ecs, At w g 0 ecs ∧ FR w A ecs x
theorem Glb.mono {GL : List (Nat × V)} {w w' : World} {A A' : Nat → Prop} (h : Glb GL w A) (hA : ∀ b, A b → A' b ∧ w'.heap[b]? = w.heap[b]?) : Glb GL w' A' := fun g x hg => by
  obtain ⟨h1, ecs, h2, h3⟩ := h g x hg
  exact ⟨(hA g h1).1, ecs, h2.mono (hA g h1).2, h3.mono (fun b hb => (hA b hb).2) (fun b hb => (hA b hb).1)⟩

/-- blocks that may turn; blocks of objects that came in -/
structure Fr where
  f : Nat → Prop
  pn : Nat → Option Nat
instance : CoeFun Fr fun _ => Nat → Prop := ⟨Fr.f⟩
theorem aliveOb_iff {ob : List Ob} {k : Nat} : alive ob k none ↔ ob.getD k .none ≠ .none := by
  unfold alive
  cases ob.getD k .none <;> simp

/-- the machine's state and the model's -/
structure Sim (GL : List (Nat × V)) (U : Nat → Prop) (w0 : World) (F0 : Fr) (σ : St) (a : Act) (w : World) (ow : Own) : Prop where
  len : a.tmps.size = σ.sl.length
  olen : σ.ob.length = σ.sl.length
  slots : ∀ i, SR w (Fz U w ow σ.ob) ow σ.ob (a.tmps.getD i undef) (σ.sl.getD i .dead)
  ho : HO U w ow σ.ob
  ext : Ext w0 w F0
  own0 : ∀ k c, owned σ.ob k c → F0 (ow k c) ∨ w0.heap.size ≤ ow k c
  un : ∀ b, w0.heap.size ≤ b → U b
  uF : ∀ b, F0 b → U b
  defers : a.defers = []
  gl : Glb GL w (Fz U w ow σ.ob)
  pin : ∀ k b, F0.pn k = some b → σ.ob.getD k .none = .none ∨ ow k none = b
  thk : ∀ b n, Th w0 b n → Th w b n

theorem getD_set_slots (l : List V) (d i : Nat) (x : V) : (l.set d x).getD i .dead = if i = d ∧ d < l.length then x else l.getD i .dead := by
  simp only [List.getD_eq_getElem?_getD, List.getElem?_set]
  by_cases h : d = i
  · subst h
    by_cases hl : d < l.length
    · simp [hl]
    · simp [hl]
  · rw [if_neg h, if_neg (fun hh => h hh.1.symm)]
theorem getD_put (a : Act) (d i : Nat) (v : Value) : (a.put (some d) v).tmps.getD i undef = if i = d ∧ d < a.tmps.size then v else a.tmps.getD i undef := by
  simp only [Act.put, Array.getD_eq_getD_getElem?, Array.getElem?_setIfInBounds]
  by_cases h : d = i
  · subst h
    by_cases hl : d < a.tmps.size
    · simp [hl]
    · simp [hl]
  · rw [if_neg h, if_neg (fun hh => h hh.1.symm)]

section
variable {GL : List (Nat × V)} {U : Nat → Prop} {w0 w : World} {F0 : Fr} {σ : St} {a : Act} {ow : Own}

/-- a slot is given a value -/
theorem Sim.put (h : Sim GL U w0 F0 σ a w ow) (d : Nat) {v : Value} {x : V} (hv : d < σ.sl.length → SR w (Fz U w ow σ.ob) ow σ.ob v x) : Sim GL U w0 F0 ⟨σ.sl.set d x, σ.ob⟩ (a.put (some d) v) w ow where
  len := by simp [Act.put, h.len]
  olen := by simp [h.olen]
  slots := fun i => by
    show SR w _ ow σ.ob _ ((σ.sl.set d x).getD i .dead)
    rw [getD_put, getD_set_slots, h.len]
    split
    · rename_i hh; exact hv hh.2
    · exact h.slots i
  ho := h.ho
  ext := h.ext
  own0 := h.own0
  un := h.un
  uF := h.uF
  defers := h.defers
  gl := h.gl
  pin := h.pin
  thk := h.thk

theorem SR.dead {w : World} {A : Nat → Prop} {ow : Own} {ob : List Ob} (v : Value) : SR w A ow ob v .dead := trivial

/-- a slot is forgotten -/
theorem Sim.drop (h : Sim GL U w0 F0 σ a w ow) (d : Nat) : Sim GL U w0 F0 (drop σ d) a w ow where
  len := by simp [VM.drop, h.len]
  olen := by simp [VM.drop, h.olen]
  slots := fun i => by
    show SR w _ ow σ.ob _ ((σ.sl.set d .dead).getD i .dead)
    rw [getD_set_slots]
    split
    · exact SR.dead _
    · exact h.slots i
  ho := h.ho
  ext := h.ext
  own0 := h.own0
  un := h.un
  uF := h.uF
  defers := h.defers
  gl := h.gl
  pin := h.pin
  thk := h.thk
end


/-! ### the world goes on -/
section
variable {GL : List (Nat × V)} {U : Nat → Prop} {w0 w w' : World} {F0 : Fr} {σ : St} {a : Act} {ow : Own}

theorem sameK_refl (ob : List Ob) (ow : Own) (k : Nat) (c : Option Nat) : sameK ob ow ob ow k c := by
  cases c with
  | none =>
    show same1 ob ow ob ow k
    unfold same1
    cases h : ob.getD k .none with
    | none => trivial
    | box o cs => exact ⟨o, cs, rfl, rfl, rfl⟩
    | row o z xs => exact ⟨o, xs, rfl, rfl, rfl⟩
  | some c => exact same2.refl rfl rfl

theorem Fz.grow {ob : List Ob} (hs : w.heap.size ≤ w'.heap.size) : ∀ b, Fz U w ow ob b → Fz U w' ow ob b :=
  fun _ hb => ⟨hb.1, Nat.lt_of_lt_of_le hb.2.1 hs, hb.2.2⟩

theorem aliveBox {ob : List Ob} {k j : Nat} {b o : Bool} {cs xs : List V} {z : Nat} (h : ob.getD k .none = .box b cs) (hc : cs[j]? = some (.own o z xs)) : alive ob k (some j) := by
  unfold alive; rw [h]; exact .inl ⟨o, z, xs, hc⟩
theorem aliveOb {ob : List Ob} {k : Nat} (h : ob.getD k .none ≠ .none) : alive ob k none := by
  unfold alive
  cases hk : ob.getD k .none with
  | none => exact absurd hk h
  | _ => trivial

/-- nothing that was there has turned -/
theorem Sim.world (h : Sim GL U w0 F0 σ a w ow) (hx : Ext w w' (fun _ => False)) : Sim GL U w0 F0 σ a w' ow := by
  have hA : ∀ b, Fz U w ow σ.ob b → Fz U w' ow σ.ob b ∧ w'.heap[b]? = w.heap[b]? := fun b hb => ⟨Fz.grow hx.size b hb, hx.block b hb.2.1 (fun hf => hf)⟩
  have hT : ∀ b n, Th w b n → Th w' b n := hx.th (fun _ _ hf => hf.elim)
  refine ⟨h.len, h.olen, fun i => (h.slots i).keep hA hT fun k c _ => sameK_refl _ _ _ _, ⟨fun k => ?_, h.ho.inj, fun k c hkc => ⟨Nat.lt_of_lt_of_le (h.ho.lt k c hkc).1 hx.size, (h.ho.lt k c hkc).2⟩⟩,
    h.ext.trans hx (fun _ hf => hf.elim), h.own0, h.un, h.uF, h.defers, h.gl.mono hA, h.pin, fun b n ht => hT b n (h.thk b n ht)⟩
  refine (h.ho.obs k).keep hA (fun hn => ⟨rfl, hx.block _ (h.ho.lt k none (aliveOb hn)).1 (fun hf => hf)⟩) (fun n ha => ⟨rfl, hx.block _ (h.ho.lt k (some n) (alive_at ha)).1 (fun hf => hf)⟩)

theorem Sim.drew (h : Sim GL U w0 F0 σ a w ow) : Sim GL U w0 F0 σ a w.drew ow := h.world ⟨rfl, rfl, rfl, Nat.le_refl _, fun _ _ _ => rfl⟩

/-- new keys of an object -/
def upd (ow : Own) (d : Nat) (f : Option Nat → Nat) : Own := fun k c => if k = d then f c else ow k c
theorem upd_same (ow : Own) (d : Nat) (f : Option Nat → Nat) (c : Option Nat) : upd ow d f d c = f c := by simp [upd]
theorem upd_other (ow : Own) {d k : Nat} (f : Option Nat → Nat) (c : Option Nat) (h : k ≠ d) : upd ow d f k c = ow k c := by simp [upd, h]

theorem getD_set_ob (l : List Ob) (d i : Nat) (x : Ob) : (l.set d x).getD i .none = if i = d ∧ d < l.length then x else l.getD i .none := by
  simp only [List.getD_eq_getElem?_getD, List.getElem?_set]
  by_cases h : d = i
  · subst h
    by_cases hl : d < l.length
    · simp [hl]
    · simp [hl]
  · rw [if_neg h, if_neg (fun hh => h hh.1.symm)]
theorem getD_set_ob_same (l : List Ob) {d : Nat} (x : Ob) (h : d < l.length) : (l.set d x).getD d .none = x := by rw [getD_set_ob, if_pos ⟨rfl, h⟩]
theorem getD_set_ob_other (l : List Ob) {d k : Nat} (x : Ob) (h : k ≠ d) : (l.set d x).getD k .none = l.getD k .none := by rw [getD_set_ob, if_neg (fun hh => h hh.1)]

theorem alive_congr {ob ob' : List Ob} {k : Nat} (h : ob'.getD k .none = ob.getD k .none) (c : Option Nat) : alive ob' k c = alive ob k c := by
  unfold alive; rw [h]
theorem owned_congr {ob ob' : List Ob} {k : Nat} (h : ob'.getD k .none = ob.getD k .none) (c : Option Nat) : owned ob' k c = owned ob k c := by
  unfold owned; rw [h]
theorem sameK_congr {ob ob' : List Ob} {ow ow' : Own} {k : Nat} (h : ob'.getD k .none = ob.getD k .none) (hw : ∀ c, ow' k c = ow k c) (c : Option Nat) : sameK ob ow ob' ow' k c := by
  cases c with
  | none =>
    show same1 ob ow ob' ow' k
    unfold same1
    rw [h]
    cases hk : ob.getD k .none with
    | none => trivial
    | box o cs => exact ⟨o, cs, rfl, rfl, hw _⟩
    | row o z xs => exact ⟨o, xs, rfl, rfl, hw _⟩
  | some c => exact same2.refl h (hw _)

/-- a slot refers to what is there -/
theorem SC.alive {A : Nat → Prop} {ob : List Ob} {v : Value} {x : V} (h : SC w A ow ob v x) {k : Nat} {c : Option Nat} (hk : keyC x = some (k, c)) : ob.getD k .none ≠ .none := by
  cases x <;> simp only [keyC, Option.some.injEq, Prod.mk.injEq, reduceCtorEq] at hk
  case ref k' c' m =>
    obtain ⟨rfl, rfl⟩ := hk
    obtain ⟨o, z, xs, cp, h1, _⟩ := h
    cases c' with
    | none => rw [obRow_none] at h1; rw [h1]; simp
    | some c => rw [obRow_some] at h1; obtain ⟨b, cs, h1, _⟩ := h1; rw [h1]; simp
  case ptr k' c' i j =>
    obtain ⟨rfl, rfl⟩ := hk
    cases c' with
    | none =>
      rcases h with ⟨o, cs, h1, _⟩ | ⟨o, z, xs, h1, _⟩ <;> (rw [h1]; simp)
    | some c =>
      obtain ⟨o, z, xs, h1, _⟩ := h
      rw [obRow_some] at h1; obtain ⟨b, cs, h1, _⟩ := h1; rw [h1]; simp
  case sg k' c' m =>
    obtain ⟨rfl, _⟩ := hk
    have : ∃ l xs, segAt (fun k => ob.getD k .none) k' c' = some (l, xs) := by
      cases m with
      | hd => obtain ⟨l, xs, _, h1, _⟩ := h; exact ⟨l, xs, h1⟩
      | pl i => obtain ⟨l, xs, h1, _⟩ := h; exact ⟨l, xs, h1⟩
      | el i => obtain ⟨_, l, xs, _, h1, _⟩ := h; exact ⟨l, xs, h1⟩
      | sub i j => obtain ⟨_, l, xs, _, _, h1, _⟩ := h; exact ⟨l, xs, h1⟩
    obtain ⟨l, xs, h1⟩ := this
    obtain ⟨b, cs, h1, _⟩ := segAt_iff.1 h1
    rw [h1]; simp
  case bref k' =>
    obtain ⟨rfl, _⟩ := hk
    obtain ⟨o, cs, h1, _⟩ := h
    rw [h1]; simp

theorem SV.alive {A : Nat → Prop} {ob : List Ob} {v : Value} {x : V} (h : SV w A ow ob v x) {k : Nat} {c : Option Nat} (hk : (k, c) ∈ keysV x) : ob.getD k .none ≠ .none := by
  cases x with
  | dt x => simp [keysV, keyC] at hk
  | st cs =>
    obtain ⟨arr, _, h2, h3⟩ := h
    simp only [keysV, List.mem_filterMap] at hk
    obtain ⟨y, hy, hk⟩ := hk
    obtain ⟨j, hj, rfl⟩ := List.getElem_of_mem hy
    exact (h3 j (arr[j]'(by omega)) _ (Array.getElem?_eq_getElem (by omega)) (List.getElem?_eq_getElem hj)).alive hk
  | tup vs => exact (h : False).elim
  | _ =>
    simp only [SV] at h
    simp only [keysV, Option.mem_toList] at hk
    exact h.alive hk

theorem SR.alive {A : Nat → Prop} {ob : List Ob} {v : Value} {x : V} (h : SR w A ow ob v x) {k : Nat} {c : Option Nat} (hk : (k, c) ∈ keysV x) : ob.getD k .none ≠ .none := by
  cases x with
  | tup vs =>
    obtain ⟨arr, _, h2, h3⟩ := h
    simp only [keysV, List.mem_flatMap] at hk
    obtain ⟨y, hy, hk⟩ := hk
    obtain ⟨j, hj, rfl⟩ := List.getElem_of_mem hy
    have hv := h3 j (arr[j]'(by omega)) _ (Array.getElem?_eq_getElem (by omega)) (List.getElem?_eq_getElem hj)
    refine hv.alive (c := c) ?_
    generalize vs[j] = y at hk hv ⊢
    cases y <;> first
      | exact hk
      | (exfalso; exact hv)
  | _ =>
    simp only [SR] at h
    exact h.alive hk

/-- a new object: at d there was none; its blocks are new -/
theorem Sim.create (h : Sim GL U w0 F0 σ a w ow) (hx : Ext w w' (fun _ => False)) (d : Nat) (o : Ob) (f : Option Nat → Nat) (hd : σ.ob.getD d .none = .none) (hpn : F0.pn d = none)
    (hf : ∀ c, alive (σ.ob.set d o) d c → w.heap.size ≤ f c ∧ f c < w'.heap.size)
    (hinj : ∀ c c', alive (σ.ob.set d o) d c → alive (σ.ob.set d o) d c' → f c = f c' → c = c')
    (hOR : (∀ b, Fz U w ow σ.ob b → Fz U w' (upd ow d f) (σ.ob.set d o) b) → OR w' (Fz U w' (upd ow d f) (σ.ob.set d o)) (upd ow d f) d o) :
    Sim GL U w0 F0 ⟨σ.sl, σ.ob.set d o⟩ a w' (upd ow d f) := by
  by_cases hdl : d < σ.ob.length
  case neg =>
    have hset : σ.ob.set d o = σ.ob := List.set_eq_of_length_le (by omega)
    rw [hset]
    have h' := h.world hx
    have hal : ∀ c, ¬ alive σ.ob d c := fun c hc => by
      unfold VM.alive at hc; rw [hd] at hc; cases c <;> exact hc
    have how : ∀ k c, VM.alive σ.ob k c → upd ow d f k c = ow k c := fun k c hc => upd_other _ _ _ (fun e => hal c (e ▸ hc))
    have hA : ∀ b, Fz U w' ow σ.ob b → Fz U w' (upd ow d f) σ.ob b ∧ w'.heap[b]? = w'.heap[b]? := fun b hb => ⟨⟨hb.1, hb.2.1, fun k c hkc => by rw [how k c (alive_of_owned hkc)]; exact hb.2.2 k c hkc⟩, rfl⟩
    refine ⟨h'.len, h'.olen, fun i => (h'.slots i).keep hA (fun _ _ ht => ht) (fun k c hk => sameK_congr rfl (fun c => upd_other _ _ _ (fun e => (h'.slots i).alive hk (by rw [e]; exact hd))) c), ⟨fun k => ?_, ?_, ?_⟩, h'.ext, ?_, h'.un, h'.uF, h'.defers, h'.gl.mono hA, fun k b hk => by
      by_cases hkd : k = d
      · subst hkd; exact .inl hd
      · rw [upd_other _ _ _ hkd]; exact h'.pin k b hk, h'.thk⟩
    · refine (h'.ho.obs k).keep hA (fun hn => ⟨how k none (aliveOb hn), rfl⟩) (fun n ha => ⟨how k _ (alive_at ha), rfl⟩)
    · intro k c k' c' h1 h2 he
      rw [how k c h1, how k' c' h2] at he
      exact h'.ho.inj k c k' c' h1 h2 he
    · intro k c h1; rw [how k c h1]; exact h'.ho.lt k c h1
    · intro k c h1; rw [how k c (alive_of_owned h1)]; exact h'.own0 k c h1
  case pos =>
  have hother : ∀ k, k ≠ d → (σ.ob.set d o).getD k .none = σ.ob.getD k .none := fun k hk => getD_set_ob_other _ _ hk
  have hsame : (σ.ob.set d o).getD d .none = o := getD_set_ob_same _ _ hdl
  have hA0 : ∀ b, Fz U w ow σ.ob b → Fz U w' (upd ow d f) (σ.ob.set d o) b := fun b hb => by
    refine ⟨hb.1, Nat.lt_of_lt_of_le hb.2.1 hx.size, fun k c hkc => ?_⟩
    by_cases hk : k = d
    · subst hk
      rw [upd_same]
      have := (hf c (alive_of_owned hkc)).1
      have := hb.2.1
      omega
    · rw [upd_other _ _ _ hk]
      exact hb.2.2 k c (by rw [← owned_congr (hother k hk) c]; exact hkc)
  have hA : ∀ b, Fz U w ow σ.ob b → Fz U w' (upd ow d f) (σ.ob.set d o) b ∧ w'.heap[b]? = w.heap[b]? := fun b hb => ⟨hA0 b hb, hx.block b hb.2.1 (fun hf => hf)⟩
  have hT : ∀ b n, Th w b n → Th w' b n := hx.th (fun _ _ hf => hf.elim)
  refine ⟨h.len, by simpa using h.olen, fun i => (h.slots i).keep hA hT fun k c hk => ?_, ⟨fun k => ?_, ?_, ?_⟩, h.ext.trans hx (fun _ hf => hf.elim), ?_, h.un, h.uF, h.defers, h.gl.mono hA, fun k b hk => by
    by_cases hkd : k = d
    · subst hkd; rw [hpn] at hk; cases hk
    · rw [upd_other _ _ _ hkd]
      show (σ.ob.set d o).getD k .none = .none ∨ _
      rw [hother k hkd]; exact h.pin k b hk, fun b n ht => hT b n (h.thk b n ht)⟩
  · have hne : k ≠ d := fun e => (h.slots i).alive hk (by rw [e]; exact hd)
    exact sameK_congr (hother k hne) (fun c => upd_other _ _ _ hne) c
  · by_cases hk : k = d
    · subst hk
      show OR _ _ _ k ((σ.ob.set k o).getD k .none)
      rw [hsame]; exact hOR hA0
    · show OR _ _ _ k ((σ.ob.set d o).getD k .none)
      rw [hother k hk]
      refine (h.ho.obs k).keep hA (fun hn => ⟨upd_other _ _ _ hk, hx.block _ (h.ho.lt k none (aliveOb hn)).1 (fun hf => hf)⟩) (fun n ha => ⟨upd_other _ _ _ hk, hx.block _ (h.ho.lt k (some n) (alive_at ha)).1 (fun hf => hf)⟩)
  · intro k c k' c' h1 h2 he
    by_cases hk : k = d <;> by_cases hk' : k' = d
    · subst hk; subst hk'
      rw [upd_same, upd_same] at he
      exact ⟨rfl, hinj c c' h1 h2 he⟩
    · subst hk
      rw [upd_same, upd_other _ _ _ hk'] at he
      have := (hf c h1).1
      have := (h.ho.lt k' c' (by rw [← alive_congr (hother k' hk') c']; exact h2)).1
      omega
    · subst hk'
      rw [upd_same, upd_other _ _ _ hk] at he
      have := (hf c' h2).1
      have := (h.ho.lt k c (by rw [← alive_congr (hother k hk) c]; exact h1)).1
      omega
    · rw [upd_other _ _ _ hk, upd_other _ _ _ hk'] at he
      exact h.ho.inj k c k' c' (by rw [← alive_congr (hother k hk) c]; exact h1) (by rw [← alive_congr (hother k' hk') c']; exact h2) he
  · intro k c h1
    by_cases hk : k = d
    · subst hk
      rw [upd_same]
      exact ⟨(hf c h1).2, h.un _ (Nat.le_trans h.ext.size (hf c h1).1)⟩
    · rw [upd_other _ _ _ hk]
      have := h.ho.lt k c (by rw [← alive_congr (hother k hk) c]; exact h1)
      exact ⟨Nat.lt_of_lt_of_le this.1 hx.size, this.2⟩
  · intro k c h1
    by_cases hk : k = d
    · subst hk
      rw [upd_same]
      exact .inr (Nat.le_trans h.ext.size (hf c (alive_of_owned h1)).1)
    · rw [upd_other _ _ _ hk]
      exact h.own0 k c (by rw [← owned_congr (hother k hk) c]; exact h1)
end


/-! ### objects change, the world stands -/
section
variable {GL : List (Nat × V)} {U : Nat → Prop} {w0 w : World} {F0 : Fr} {σ : St} {a : Act} {ow : Own}

theorem Sim.obs (h : Sim GL U w0 F0 σ a w ow) (sl' : List V) (ob' : List Ob) (hl : sl'.length = σ.sl.length) (hol : ob'.length = σ.ob.length)
    (ho : ∀ k c, owned ob' k c → owned σ.ob k c) (ha : ∀ k c, VM.alive ob' k c → VM.alive σ.ob k c)
    (hO : ∀ k A, OR w A ow k (σ.ob.getD k .none) → OR w A ow k (ob'.getD k .none))
    (hs : ∀ i A v, SR w A ow σ.ob v (σ.sl.getD i .dead) → SR w A ow σ.ob v (sl'.getD i .dead))
    (hk : ∀ i k c, (k, c) ∈ keysV (sl'.getD i .dead) → sameK σ.ob ow ob' ow k c) : Sim GL U w0 F0 ⟨sl', ob'⟩ a w ow := by
  have hA : ∀ b, Fz U w ow σ.ob b → Fz U w ow ob' b ∧ w.heap[b]? = w.heap[b]? := fun b hb => ⟨⟨hb.1, hb.2.1, fun k c hkc => hb.2.2 k c (ho k c hkc)⟩, rfl⟩
  refine ⟨h.len.trans hl.symm, by show ob'.length = sl'.length; rw [hol, hl]; exact h.olen, fun i => (hs i _ _ (h.slots i)).keep hA (fun _ _ ht => ht) (hk i), ⟨fun k => ?_, ?_, ?_⟩, h.ext, fun k c hkc => h.own0 k c (ho k c hkc), h.un, h.uF, h.defers, h.gl.mono hA, fun k b hk => by
    by_cases hn : ob'.getD k .none = .none
    · exact .inl hn
    · exact .inr ((h.pin k b hk).resolve_left (aliveOb_iff.1 (ha k none (aliveOb_iff.2 hn)))), h.thk⟩
  · exact (hO k _ (h.ho.obs k)).keep hA (fun _ => ⟨rfl, rfl⟩) (fun _ _ => ⟨rfl, rfl⟩)
  · exact fun k c k' c' h1 h2 he => h.ho.inj k c k' c' (ha k c h1) (ha k' c' h2) he
  · exact fun k c h1 => h.ho.lt k c (ha k c h1)

theorem getD_of_set {ob : List Ob} {k k' : Nat} {o : Ob} (h : (ob.set k o).getD k' .none ≠ ob.getD k' .none) : k' = k ∧ (ob.set k o).getD k' .none = o := by
  rw [getD_set_ob] at h ⊢
  by_cases hc : k' = k ∧ k < ob.length
  · rw [if_pos hc]; exact ⟨hc.1, rfl⟩
  · rw [if_neg hc] at h; exact absurd rfl h

/-- what a step does to one object, for the lemma above -/
structure Sub (w : World) (ow : Own) (k : Nat) (o o' : Ob) : Prop where
  or : ∀ A, OR w A ow k o → OR w A ow k o'
  al : ∀ c, VM.alive [o'] 0 c → VM.alive [o] 0 c
  ow : ∀ c, owned [o'] 0 c → owned [o] 0 c


theorem Sim.obSet (h : Sim GL U w0 F0 σ a w ow) (sl' : List V) (k0 : Nat) (o : Ob) (hl : sl'.length = σ.sl.length) (hsub : Sub w ow k0 (σ.ob.getD k0 .none) o)
    (hs : ∀ i A v, SR w A ow σ.ob v (σ.sl.getD i .dead) → SR w A ow σ.ob v (sl'.getD i .dead))
    (hk : ∀ i c, (k0, c) ∈ keysV (sl'.getD i .dead) → sameK σ.ob ow (σ.ob.set k0 o) ow k0 c) : Sim GL U w0 F0 ⟨sl', σ.ob.set k0 o⟩ a w ow := by
  have hd : ∀ k, (σ.ob.set k0 o).getD k .none = σ.ob.getD k .none ∨ (k = k0 ∧ (σ.ob.set k0 o).getD k .none = o) := fun k => by
    rw [getD_set_ob]
    split
    · rename_i hc; exact .inr ⟨hc.1, rfl⟩
    · exact .inl rfl
  refine h.obs sl' _ hl (by simp) (fun k c hkc => ?_) (fun k c hkc => ?_) (fun k A hA => ?_) hs (fun i k c hkc => ?_)
  · rcases hd k with he | ⟨rfl, he⟩
    · rw [owned_congr he] at hkc; exact hkc
    · rw [owned_one, he] at hkc; rw [owned_one]; exact hsub.ow c hkc
  · rcases hd k with he | ⟨rfl, he⟩
    · rw [alive_congr he] at hkc; exact hkc
    · rw [alive_one, he] at hkc; rw [alive_one]; exact hsub.al c hkc
  · rcases hd k with he | ⟨rfl, he⟩
    · rw [he]; exact hA
    · rw [he]; exact hsub.or A hA
  · by_cases hkk : k = k0
    · subst hkk; exact hk i c hkc
    · exact sameK_congr (getD_set_ob_other _ _ hkk) (fun _ => rfl) c

theorem getElem?_set_V (cs : List V) (c j : Nat) (x : V) : (cs.set c x)[j]? = if j = c ∧ c < cs.length then some x else cs[j]? := by
  rw [List.getElem?_set]
  by_cases h : c = j
  · subst h
    by_cases hl : c < cs.length
    · simp [hl]
    · simp [hl]
  · rw [if_neg h, if_neg (fun hh => h hh.1.symm)]

theorem frzO_sub (w : World) (ow : Own) (k : Nat) (c : Option Nat) (o : Ob) : Sub w ow k o (frzO c o) := by
  cases c with
  | none =>
    cases o with
    | none => exact ⟨fun _ h => h, fun _ h => h, fun _ h => h⟩
    | box b cs =>
      refine ⟨fun _ h => h, fun c h => ?_, fun c h => ?_⟩
      · cases c <;> exact h
      · cases c with
        | none => simp [owned, frzO] at h
        | some j => exact h
    | row b z xs =>
      refine ⟨fun _ h => h, fun c h => ?_, fun c h => ?_⟩
      · cases c <;> exact h
      · cases c <;> simp [owned, frzO] at h
  | some c =>
    cases o with
    | none => exact ⟨fun _ h => h, fun _ h => h, fun _ h => h⟩
    | row b z xs => exact ⟨fun _ h => h, fun _ h => h, fun _ h => h⟩
    | box b cs =>
      simp only [frzO]
      cases hc : cs.getD c .dead with
      | own o z xs =>
        have hc' : cs[c]? = some (.own o z xs) := by
          rw [List.getD_eq_getElem?_getD] at hc
          cases h : cs[c]? with
          | none => rw [h] at hc; simp at hc
          | some x => rw [h] at hc; simp at hc; rw [hc]
        have hlt : c < cs.length := (List.getElem?_eq_some_iff.1 hc').1
        have hsg : ∀ n, segK (cs.set c (.own false z xs)) n → segK cs n := fun n => segK_sub fun j l xs' hj => by
          rw [getElem?_set_V] at hj
          split at hj
          · simp at hj
          · exact hj
        refine ⟨fun A h => ?_, fun q h => ?_, fun q h => ?_⟩
        rotate_left
        · cases q with
          | none => exact h
          | some j =>
            rcases h with ⟨o', z', xs', h⟩ | h
            · rw [getElem?_set_V] at h
              split at h
              · rename_i hj; obtain ⟨rfl, _⟩ := hj; exact .inl ⟨o, z, xs, hc'⟩
              · exact .inl ⟨o', z', xs', h⟩
            · exact .inr (hsg _ h)
        · cases q with
          | none => exact h
          | some j =>
            rcases h with ⟨z', xs', h⟩ | h
            · rw [getElem?_set_V] at h
              split at h
              · simp at h
              · exact .inl ⟨z', xs', h⟩
            · exact .inr (hsg _ h)
        · obtain ⟨h1, h2⟩ := h
          refine ⟨by simpa using h1, fun j v x hv hx => ?_⟩
          rw [getElem?_set_V] at hx
          split at hx
          · rename_i hj; obtain ⟨rfl, _⟩ := hj
            simp only [Option.some.injEq] at hx
            subst hx
            exact (h2 j v _ hv hc' : BC w A ow k j v (.own o z xs))
          · exact h2 j v x hv hx
      | _ => exact ⟨fun _ h => h, fun _ h => h, fun _ h => h⟩

theorem frzO_box (c : Nat) (b : Bool) (cs : List V) : ∃ cs', frzO (some c) (.box b cs) = .box b cs' ∧ cs'.length = cs.length ∧ (∀ j, j ≠ c → cs'[j]? = cs[j]?) ∧ ∀ (j : Nat) l xs, cs[j]? = some (.seg l xs) → cs'[j]? = some (.seg l xs) := by
  cases h : cs.getD c .dead with
  | own o z xs =>
    refine ⟨cs.set c (.own false z xs), by simp only [frzO, h], by simp, fun j hj => by rw [getElem?_set_V, if_neg (fun hh => hj hh.1)], fun j l xs' hj => ?_⟩
    rw [getElem?_set_V, if_neg (fun hh => ?_)]
    · exact hj
    · obtain ⟨rfl, _⟩ := hh
      rw [List.getD_eq_getElem?_getD, hj] at h
      cases h
  | _ => exact ⟨cs, by simp only [frzO, h], rfl, fun _ _ => rfl, fun _ _ _ h => h⟩

theorem frz1_same (ob : List Ob) (ow : Own) (k : Nat) (c : Option Nat) (q : Option Nat) : sameK ob ow (ob.set k (frzO c (ob.getD k .none))) ow k q := by
  by_cases hl : k < ob.length
  case neg => rw [List.set_eq_of_length_le (by omega)]; exact sameK_refl _ _ _ _
  cases q with
  | none =>
    show same1 _ _ _ _ _
    unfold same1
    rw [getD_set_ob_same _ _ hl]
    cases ho : ob.getD k .none with
    | none => trivial
    | box b cs =>
      cases c with
      | none => exact ⟨false, cs, rfl, rfl, rfl⟩
      | some c =>
        obtain ⟨cs', e1, e2, _, _⟩ := frzO_box c b cs
        exact ⟨b, cs', e1, e2, rfl⟩
    | row b z xs =>
      cases c with
      | none => exact ⟨false, xs, rfl, rfl, rfl⟩
      | some c => exact ⟨b, xs, rfl, rfl, rfl⟩
  | some j =>
    have hset := getD_set_ob_same ob (frzO c (ob.getD k .none)) hl
    refine same2.of (fun b cs h1 => ?_) rfl
    cases c with
    | none => exact ⟨false, cs, by rw [hset, h1]; rfl, fun o z xs h2 => ⟨o, xs, h2, rfl⟩, fun l xs h2 => ⟨l, xs, h2, rfl⟩, fun j i hj hc l xs x h2 hx => ⟨l, xs, x, h2, hx, .inl rfl⟩⟩
    | some c =>
      obtain ⟨cs', e1, _, e2, e3⟩ := frzO_box c b cs
      refine ⟨b, cs', by rw [hset, h1]; exact e1, fun o z xs h2 => ?_, fun l xs h2 => ⟨l, xs, e3 _ _ _ h2, rfl⟩, fun j i hj hc l xs x h2 hx => ⟨l, xs, x, e3 _ _ _ h2, hx, .inl rfl⟩⟩
      by_cases hjc : j = c
      · subst hjc
        refine ⟨false, xs, ?_, rfl⟩
        have : frzO (some j) (.box b cs) = .box b (cs.set j (.own false z xs)) := by simp only [frzO, List.getD_eq_getElem?_getD, h2, Option.getD_some]
        rw [this] at e1
        injection e1 with _ e1
        rw [← e1, getElem?_set_V, if_pos ⟨rfl, (List.getElem?_eq_some_iff.1 h2).1⟩]
      · exact ⟨o, xs, by rw [e2 j hjc]; exact h2, rfl⟩

theorem Sim.frz1 (h : Sim GL U w0 F0 σ a w ow) (k : Nat) (c : Option Nat) : Sim GL U w0 F0 ⟨σ.sl, VM.frz1 σ.ob k c⟩ a w ow :=
  h.obSet σ.sl k _ rfl (frzO_sub _ _ _ _ _) (fun _ _ _ h => h) (fun _ _ _ => frz1_same _ _ _ _ _)

theorem Sim.freeze (ks : List (Nat × Option Nat)) : ∀ {σ : St}, Sim GL U w0 F0 σ a w ow → Sim GL U w0 F0 ⟨σ.sl, VM.freeze σ.ob ks⟩ a w ow := by
  induction ks with
  | nil => intro σ h; exact h
  | cons k ks ih =>
    intro σ h
    obtain ⟨k, c⟩ := k
    exact ih (h.frz1 k c)
end


/-! ### what is dropped -/
section
variable {GL : List (Nat × V)} {U : Nat → Prop} {w0 w : World} {F0 : Fr} {σ : St} {a : Act} {ow : Own}

theorem getD_map (l : List V) (f : V → V) (hf : f .dead = .dead) (i : Nat) : (l.map f).getD i .dead = f (l.getD i .dead) := by
  simp only [List.getD_eq_getElem?_getD, List.getElem?_map]
  cases l[i]? <;> simp [hf]

/-- a map of slots' values that forgets -/
structure Forget (f : V → V) (p : Nat × Option Nat → Prop) (g : V → V) (t : V → V) : Prop where
  dead : f .dead = .dead
  c : ∀ x, g x = x ∨ g x = .dead
  ck : ∀ x q, keyC (g x) = some q → ¬ p q
  t1 : ∀ cs, t (.st cs) = .dead
  t2 : ∀ x, (∀ cs, x ≠ .st cs) → t x = g x
  st : ∀ cs, f (.st cs) = .st (cs.map g)
  tup : ∀ cs, f (.tup cs) = .tup (cs.map t)
  el : ∀ x, (∀ cs, x ≠ .st cs) → (∀ cs, x ≠ .tup cs) → f x = g x

theorem SC.forget {A : Nat → Prop} {ob : List Ob} {v : Value} {x y : V} (h : SC w A ow ob v x) (hy : y = x ∨ y = .dead) : SC w A ow ob v y := by
  rcases hy with rfl | rfl
  · exact h
  · trivial
theorem SV.forget {A : Nat → Prop} {ob : List Ob} {v : Value} {x y : V} (h : SV w A ow ob v x) (hy : y = x ∨ y = .dead) : SV w A ow ob v y := by
  rcases hy with rfl | rfl
  · exact h
  · trivial
theorem SR.forget {A : Nat → Prop} {ob : List Ob} {v : Value} {x y : V} (h : SR w A ow ob v x) (hy : y = x ∨ y = .dead) : SR w A ow ob v y := by
  rcases hy with rfl | rfl
  · exact h
  · trivial

theorem Forget.sr {f g t : V → V} {p : Nat × Option Nat → Prop} (F : Forget f p g t) {A : Nat → Prop} {ob : List Ob} {v : Value} {x : V} (h : SR w A ow ob v x) : SR w A ow ob v (f x) := by
  by_cases h1 : ∃ cs, x = .st cs
  · obtain ⟨cs, rfl⟩ := h1
    obtain ⟨arr, e1, e2, e3⟩ := h
    rw [F.st]
    refine ⟨arr, e1, by simpa using e2, fun j u y hu hy => ?_⟩
    rw [List.getElem?_map] at hy
    cases hc : cs[j]? with
    | none => rw [hc] at hy; simp at hy
    | some y' =>
      rw [hc] at hy
      simp only [Option.map_some, Option.some.injEq] at hy
      subst hy
      exact (e3 j u y' hu hc).forget (F.c y')
  · by_cases h2 : ∃ cs, x = .tup cs
    · obtain ⟨cs, rfl⟩ := h2
      obtain ⟨arr, e1, e2, e3⟩ := h
      rw [F.tup]
      refine ⟨arr, e1, by simpa using e2, fun j u y hu hy => ?_⟩
      rw [List.getElem?_map] at hy
      cases hc : cs[j]? with
      | none => rw [hc] at hy; simp at hy
      | some y' =>
        rw [hc] at hy
        simp only [Option.map_some, Option.some.injEq] at hy
        subst hy
        refine (e3 j u y' hu hc).forget ?_
        by_cases hst : ∃ cs, y' = .st cs
        · obtain ⟨cs, rfl⟩ := hst; exact .inr (F.t1 cs)
        · rw [F.t2 y' (fun cs e => hst ⟨cs, e⟩)]; exact F.c y'
    · rw [F.el x (fun cs e => h1 ⟨cs, e⟩) (fun cs e => h2 ⟨cs, e⟩)]
      exact h.forget (F.c x)

theorem Forget.keys {f g t : V → V} {p : Nat × Option Nat → Prop} (F : Forget f p g t) {x : V} {q : Nat × Option Nat} (hq : q ∈ keysV (f x)) : ¬ p q := by
  by_cases h1 : ∃ cs, x = .st cs
  · obtain ⟨cs, rfl⟩ := h1
    rw [F.st] at hq
    simp only [keysV, List.mem_filterMap, List.mem_map] at hq
    obtain ⟨y, ⟨y', _, rfl⟩, hk⟩ := hq
    exact F.ck y' q hk
  · by_cases h2 : ∃ cs, x = .tup cs
    · obtain ⟨cs, rfl⟩ := h2
      rw [F.tup] at hq
      simp only [keysV, List.mem_flatMap, List.mem_map] at hq
      obtain ⟨y, ⟨y', _, rfl⟩, hk⟩ := hq
      by_cases hst : ∃ cs, y' = .st cs
      · obtain ⟨cs, rfl⟩ := hst
        rw [F.t1] at hk
        simp [keyC] at hk
      · have e := F.t2 y' (fun cs e => hst ⟨cs, e⟩)
        rw [e] at hk
        have hn : ∀ cs, g y' ≠ .st cs := fun cs e' => by
          rcases F.c y' with h | h
          · rw [h] at e'; exact hst ⟨cs, e'⟩
          · rw [h] at e'; cases e'
        revert hk
        generalize hg : g y' = z at hn
        intro hk
        cases z <;> first
          | (exact absurd rfl (hn _))
          | (simp only [Option.mem_toList] at hk; exact F.ck y' q (by rw [hg]; exact hk))
    · rw [F.el x (fun cs e => h1 ⟨cs, e⟩) (fun cs e => h2 ⟨cs, e⟩)] at hq
      have hn : ∀ cs, g x ≠ .st cs := fun cs e' => by
        rcases F.c x with h | h
        · rw [h] at e'; exact h1 ⟨cs, e'⟩
        · rw [h] at e'; cases e'
      have hn2 : ∀ cs, g x ≠ .tup cs := fun cs e' => by
        rcases F.c x with h | h
        · rw [h] at e'; exact h2 ⟨cs, e'⟩
        · rw [h] at e'; cases e'
      revert hq
      generalize hg : g x = z at hn hn2
      intro hq
      cases z <;> first
        | (exact absurd rfl (hn _))
        | (exact absurd rfl (hn2 _))
        | (simp only [keysV, Option.mem_toList] at hq; exact F.ck x q (by rw [hg]; exact hq))

theorem kill_forget (k : Nat) : Forget (killV k) (fun q => q.1 = k) (killC k) (killT k) where
  dead := rfl
  c := fun x => by
    cases x <;> first | exact .inl rfl | (simp only [killC]; cases Nat.beq _ k <;> simp)
  ck := fun x q h e => by
    have key : ∀ (k' : Nat) (y : V), keyC y = some q → q.1 = k' → keyC (bif Nat.beq k' k then .dead else y) = some q → False := fun k' y hy hq hh => by
      have : Nat.beq k' k = true := by rw [← hq, e]; exact Nat.beq_refl k
      rw [this] at hh
      cases hh
    have hx : keyC x = some q := by
      rcases (show killC k x = x ∨ killC k x = .dead by cases x <;> first | exact .inl rfl | (simp only [killC]; cases Nat.beq _ k <;> simp)) with h' | h'
      · rw [h'] at h; exact h
      · rw [h'] at h; cases h
    cases x <;> first
      | (cases hx; done)
      | (refine key _ _ hx ?_ h; simp only [keyC, Option.some.injEq] at hx; rw [← hx])
  t1 := fun _ => rfl
  t2 := fun x h => by cases x <;> first | rfl | exact absurd rfl (h _)
  st := fun _ => rfl
  tup := fun _ => rfl
  el := fun x h1 h2 => by cases x <;> first | rfl | exact absurd rfl (h1 _) | exact absurd rfl (h2 _)

theorem eqO_iff (a b : Option Nat) : eqO a b = true ↔ a = b := by
  cases a <;> cases b <;> simp [eqO]
/-- a cell that is no row of rows is set -/
theorem seg_set {cs : List V} {p j : Nat} {x y : V} {l : Lo} {xs : List V} (hp : cs[p]? = some y) (hy : ∀ l xs, y ≠ .seg l xs) (h : cs[j]? = some (.seg l xs)) : (cs.set p x)[j]? = some (.seg l xs) := by
  rw [List.getElem?_set_ne (fun e => ?_)]
  · exact h
  · subst e; rw [hp] at h; cases h; exact hy _ _ rfl
theorem seg_unset {cs : List V} {p j : Nat} {x : V} {l : Lo} {xs : List V} (hx : ∀ l xs, x ≠ .seg l xs) (h : (cs.set p x)[j]? = some (.seg l xs)) : cs[j]? = some (.seg l xs) := by
  rw [getElem?_set_V] at h
  split at h
  · cases h; exact absurd rfl (hx _ _)
  · exact h
theorem segK_unset {cs : List V} {p n : Nat} {x : V} (hx : ∀ l xs, x ≠ .seg l xs) (h : segK (cs.set p x) n) : segK cs n := segK_sub (fun _ _ _ hj => seg_unset hx hj) h
theorem cellK_ne {q p n : Nat} {x : V} (h : cellK q x n) (hq : q ≠ p) (hp : p < 64) : n ≠ p := by
  rcases h with ⟨_, _, _, _, rfl⟩ | ⟨_, _, _, rfl | ⟨i, _, _, _, rfl, _⟩⟩
  · exact hq
  · exact hq
  · have := enc_ge q i; omega
/-- the key itself, and those of rows within it -/
def kp (k : Nat) (c : Option Nat) (q : Nat × Option Nat) : Prop := q = (k, c) ∨ (q.1 = k ∧ ∃ c0 i, c = some c0 ∧ c0 < 64 ∧ q.2 = some (enc c0 i))
theorem kilC_or (k : Nat) (c : Option Nat) (x : V) : kilC k c x = x ∨ kilC k c x = .dead := by
  have key : ∀ (b : Bool) (y : V), (bif b then V.dead else y) = y ∨ (bif b then V.dead else y) = .dead := fun b y => by cases b <;> simp
  cases x <;> first | exact .inl rfl | exact key _ _
/-- what refers to a key of these is forgotten -/
theorem kilC_kp {k : Nat} {c : Option Nat} {x : V} {q : Nat × Option Nat} (hx : keyC x = some q) (hp : kp k c q) : kilC k c x = .dead := by
  have hk : q.1 = k := by
    rcases hp with e | ⟨e, _⟩
    · rw [e]
    · exact e
  have hge : q.2 ≠ c → geO q.2 = true := fun hne => by
    rcases hp with e | ⟨_, c0, i, _, _, e⟩
    · rw [e] at hne; exact absurd rfl hne
    · rw [e]; exact Nat.ble_eq_true_of_le (enc_ge _ _)
  have fin : ∀ {b : Bool} {y : V}, b = true → (bif b then V.dead else y) = .dead := fun h => by rw [h]; rfl
  have plain : (eqO q.2 c || geO q.2) = true := by
    rw [Bool.or_eq_true]
    by_cases e : q.2 = c
    · exact .inl ((eqO_iff _ _).2 e)
    · exact .inr (hge e)
  cases x <;> first | (cases hx; done) | skip
  case ptr k' c' i j =>
    simp only [keyC, Option.some.injEq] at hx
    subst hx
    exact fin (by rw [Bool.and_eq_true]; exact ⟨by rw [show k' = k from hk]; exact Nat.beq_refl _, plain⟩)
  case ref k' c' m =>
    simp only [keyC, Option.some.injEq] at hx
    subst hx
    exact fin (by rw [Bool.and_eq_true]; exact ⟨by rw [show k' = k from hk]; exact Nat.beq_refl _, plain⟩)
  case bref k' =>
    simp only [keyC, Option.some.injEq] at hx
    subst hx
    refine fin (by rw [Bool.and_eq_true]; refine ⟨by rw [show k' = k from hk]; exact Nat.beq_refl _, ?_⟩; cases c with | none => rfl | some c => have := hge (by simp); cases this)
  case sg k' c' m =>
    simp only [keyC, Option.some.injEq] at hx
    subst hx
    refine fin ?_
    rw [Bool.and_eq_true]
    refine ⟨by rw [show k' = k from hk]; exact Nat.beq_refl _, ?_⟩
    rcases hp with e | ⟨e1, c0, i, rfl, h0, e2⟩
    · cases e
      cases m with
      | hd => simp [inC]
      | pl => simp [inC]
      | el i => simp only [inC, Bool.or_eq_true]; exact .inl (.inr (Nat.ble_eq_true_of_le (enc_ge _ _)))
      | sub i j => simp only [inC, Bool.or_eq_true]; exact .inl (.inr (Nat.ble_eq_true_of_le (enc_ge _ _)))
    · simp only [inC, Bool.or_eq_true]
      simp only [Option.some.injEq] at e2
      by_cases h64 : 64 ≤ c'
      · exact .inr (Nat.ble_eq_true_of_le h64)
      · left; left
        have h64 : c' < 64 := by omega
        have hge := enc_ge c0 i
        have : c' = c0 := by
          cases m with
          | hd => simp only at e2; omega
          | pl => simp only at e2; omega
          | el j => exact (enc_inj h64 h0 e2).1
          | sub j l => exact (enc_inj h64 h0 e2).1
        rw [this]; exact Nat.beq_refl _
theorem kil_forget (k : Nat) (c : Option Nat) : Forget (kilV k c) (kp k c) (kilC k c) (kilT k c) where
  dead := rfl
  c := fun x => kilC_or k c x
  ck := fun x q h e => by
    have hx : keyC x = some q := by
      rcases kilC_or k c x with h' | h'
      · rw [h'] at h; exact h
      · rw [h'] at h; cases h
    rw [kilC_kp hx e] at h
    cases h
  t1 := fun _ => rfl
  t2 := fun x h => by cases x <;> first | rfl | exact absurd rfl (h _)
  st := fun _ => rfl
  tup := fun _ => rfl
  el := fun x h1 h2 => by cases x <;> first | rfl | exact absurd rfl (h1 _) | exact absurd rfl (h2 _)

theorem none_sub (w : World) (ow : Own) (k : Nat) (o : Ob) : Sub w ow k o .none :=
  ⟨fun _ _ => trivial, fun c h => by cases c <;> exact h.elim, fun c h => by cases c <;> exact h.elim⟩

theorem Sim.kill (h : Sim GL U w0 F0 σ a w ow) (k : Nat) : Sim GL U w0 F0 (VM.kill σ k) a w ow :=
  h.obSet (σ.sl.map (killV k)) k .none (by simp) (none_sub _ _ _ _) (fun i A v hv => by rw [getD_map _ _ (kill_forget k).dead]; exact (kill_forget k).sr hv)
    (fun i c hc => by rw [getD_map _ _ (kill_forget k).dead] at hc; exact absurd rfl ((kill_forget k).keys hc))

theorem kilB_sub (w : World) (ow : Own) (k : Nat) (c : Option Nat) (o : Ob) : Sub w ow k o (kilB c o) := by
  cases c with
  | none => cases o <;> first | exact none_sub _ _ _ _ | exact ⟨fun _ h => h, fun _ h => h, fun _ h => h⟩
  | some c =>
    cases o with
    | none => exact ⟨fun _ h => h, fun _ h => h, fun _ h => h⟩
    | row b z xs => exact ⟨fun _ h => h, fun _ h => h, fun _ h => h⟩
    | box b cs =>
      have hset : ∀ (j : Nat) x, (cs.set c .dead)[j]? = some x → x ≠ .dead → cs[j]? = some x := fun j x hx hn => by
        rw [getElem?_set_V] at hx
        split at hx
        · simp at hx; exact absurd hx.symm hn
        · exact hx
      refine ⟨fun A h => ?_, fun q h => ?_, fun q h => ?_⟩
      · obtain ⟨h1, h2⟩ := h
        refine ⟨by simpa using h1, fun j v x hv hx => ?_⟩
        by_cases hd : x = .dead
        · subst hd; trivial
        · exact h2 j v x hv (hset j x hx hd)
      · cases q with
        | none => exact h
        | some j =>
          rcases h with ⟨o, z, xs, h⟩ | h
          · exact .inl ⟨o, z, xs, hset j _ h (by simp)⟩
          · exact .inr (segK_sub (fun j l xs hj => hset j _ hj (by simp)) h)
      · cases q with
        | none => exact h
        | some j =>
          rcases h with ⟨z, xs, h⟩ | h
          · exact .inl ⟨z, xs, hset j _ h (by simp)⟩
          · exact .inr (segK_sub (fun j l xs hj => hset j _ hj (by simp)) h)

/-- what is not within a cell stands when the cell is no more -/
theorem same2_dead {ob ob' : List Ob} {k c j : Nat} {x : V} (h : ∀ b cs, ob.getD k .none = .box b cs → ob'.getD k .none = .box b (cs.set c x)) (hn : ¬ kp k (some c) (k, some j)) : same2 ob ow ob' ow k j := by
  refine same2.cells (fun b cs e => ⟨b, _, h b cs e, ?_, fun h64 => ?_⟩) rfl
  · rw [getElem?_set_V, if_neg (fun hh => hn (.inl (by rw [hh.1])))]
  · rw [getElem?_set_V, if_neg (fun hh => hn (.inr ⟨rfl, c, j / 64 - 1, rfl, by have := hh.1; omega, ?_⟩))]
    have := hh.1
    show some j = some (enc c (j / 64 - 1))
    rw [Option.some.injEq]
    unfold enc
    omega
theorem Sim.kil (h : Sim GL U w0 F0 σ a w ow) (k : Nat) (c : Option Nat) : Sim GL U w0 F0 (VM.kil σ k c) a w ow := by
  refine h.obSet (σ.sl.map (kilV k c)) k _ (by simp) (kilB_sub _ _ _ c _) (fun i A v hv => by rw [getD_map _ _ (kil_forget k c).dead]; exact (kil_forget k c).sr hv) (fun i q hq => ?_)
  rw [getD_map _ _ (kil_forget k c).dead] at hq
  have hnk : ¬ kp k c (k, q) := (kil_forget k c).keys hq
  have hne : q ≠ c := fun e => hnk (.inl (by rw [e]))
  by_cases hl : k < σ.ob.length
  case neg => rw [List.set_eq_of_length_le (by omega)]; exact sameK_refl _ _ _ _
  have hset := getD_set_ob_same σ.ob (kilB c (σ.ob.getD k .none)) hl
  cases q with
  | none =>
    show same1 _ _ _ _ _
    unfold same1
    rw [hset]
    cases ho : σ.ob.getD k .none with
    | none => trivial
    | box b cs =>
      cases c with
      | none => exact absurd rfl hne
      | some c => exact ⟨b, cs.set c .dead, rfl, by simp, rfl⟩
    | row b z xs =>
      cases c with
      | none => exact absurd rfl hne
      | some c => exact ⟨b, xs, rfl, rfl, rfl⟩
  | some j =>
    cases c with
    | none => exact same2.cells (fun b cs e => ⟨b, cs, by rw [hset, e]; rfl, rfl, fun _ => rfl⟩) rfl
    | some c => exact same2_dead (fun b cs e => by rw [hset, e]; rfl) hnk

theorem hasC_keys {k : Nat} {x : V} {c : Option Nat} (h : keyC x = some (k, c)) : hasC k x = true := by
  cases x <;> simp only [keyC, Option.some.injEq, Prod.mk.injEq, reduceCtorEq] at h
  all_goals (obtain ⟨rfl, _⟩ := h; exact Nat.beq_refl _)
theorem hasV_keys {k : Nat} {x : V} {c : Option Nat} (h : (k, c) ∈ keysV x) : hasV k x = true := by
  cases x with
  | st cs =>
    simp only [keysV, List.mem_filterMap] at h
    obtain ⟨y, hy, hk⟩ := h
    exact List.any_eq_true.2 ⟨y, hy, hasC_keys hk⟩
  | tup cs =>
    simp only [keysV, List.mem_flatMap] at h
    obtain ⟨y, hy, hk⟩ := h
    refine List.any_eq_true.2 ⟨y, hy, ?_⟩
    cases y <;> first
      | rfl
      | (simp only [Option.mem_toList] at hk; exact hasC_keys hk)
  | _ =>
    simp only [keysV, Option.mem_toList] at h
    exact hasC_keys h

theorem Sim.gc (h : Sim GL U w0 F0 σ a w ow) (k : Nat) : Sim GL U w0 F0 (VM.gc σ k) a w ow := by
  unfold VM.gc
  cases VM.isNone (σ.ob.getD k .none) with
  | true => exact h
  | false =>
    cases hh : σ.sl.any (hasV k) with
    | true => exact h
    | false =>
      refine h.obSet σ.sl k .none rfl (none_sub _ _ _ _) (fun _ _ _ h => h) (fun i c hc => ?_)
      exfalso
      have hkey := hasV_keys hc
      have hall := (List.any_eq_false.1 hh)
      rw [List.getD_eq_getElem?_getD] at hkey
      cases hi : σ.sl[i]? with
      | none => rw [hi] at hkey; simp [hasV, hasC] at hkey
      | some x => rw [hi] at hkey; exact hall x (List.mem_of_getElem? hi) hkey

theorem Sim.prep (T : TT) (ops : List Oper) : ∀ {σ : St}, Sim GL U w0 F0 σ a w ow → Sim GL U w0 F0 (VM.prep T ops σ) a w ow := by
  induction ops with
  | nil => exact fun h => h
  | cons o ops ih =>
    intro σ h
    unfold VM.prep
    cases isQuiet T o with
    | false => exact ih h
    | true =>
      cases VM.isNone (σ.ob.getD (dstOf o) .none) with
      | true => exact ih h
      | false => exact ih (h.kill _)

theorem Sim.clean (kp : Nat → Bool) (ops : List Oper) : ∀ {σ : St}, Sim GL U w0 F0 σ a w ow → Sim GL U w0 F0 (VM.clean kp ops σ) a w ow := by
  induction ops with
  | nil => exact fun h => h
  | cons o ops ih =>
    intro σ h
    unfold VM.clean
    cases o.dst with
    | none => exact ih h
    | some d =>
      show Sim GL U w0 F0 (bif kp d then VM.clean kp ops σ else VM.clean kp ops (VM.drop σ d)) a w ow
      cases kp d with
      | true => exact ih h
      | false => exact ih (h.drop d)

theorem Sim.gcs (ops : List Oper) : ∀ {σ : St}, Sim GL U w0 F0 σ a w ow → Sim GL U w0 F0 (VM.gcs ops σ) a w ow := by
  induction ops with
  | nil => exact fun h => h
  | cons o ops ih =>
    intro σ h
    unfold VM.gcs
    cases o.dst with
    | none => exact ih h
    | some d => exact ih (h.gc d)

theorem Sim.lpDrop (ops : List Oper) : ∀ {σ : St}, Sim GL U w0 F0 σ a w ow → Sim GL U w0 F0 (VM.lpDrop ops σ) a w ow := by
  induction ops with
  | nil => exact fun h => h
  | cons o ops ih =>
    intro σ h
    unfold VM.lpDrop
    cases o.dst with
    | none => exact ih h
    | some d =>
      show Sim GL U w0 F0 (bif isVar o then VM.lpDrop ops σ else VM.lpDrop ops (VM.drop σ d)) a w ow
      cases isVar o with
      | true => exact ih h
      | false => exact ih (h.drop d)

theorem Sim.lpDead (kp : Nat → Bool) (key : Nat) : ∀ (n : Nat) {σ : St}, Sim GL U w0 F0 σ a w ow → Sim GL U w0 F0 (VM.lpDead kp key n σ) a w ow := by
  intro n
  induction n with
  | zero => exact fun h => h
  | succ n ih =>
    intro σ h
    unfold VM.lpDead
    refine ih ?_
    cases kp (key + n) with
    | true => exact h
    | false => exact h.drop n
theorem Sim.lpGc (kp : Nat → Bool) (key : Nat) : ∀ (n : Nat) {σ : St}, Sim GL U w0 F0 σ a w ow → Sim GL U w0 F0 (VM.lpGc kp key n σ) a w ow := by
  intro n
  induction n with
  | zero => exact fun h => h
  | succ n ih =>
    intro σ h
    unfold VM.lpGc
    refine ih ?_
    cases kp (key + n) with
    | true => exact h
    | false => exact h.gc n
theorem Sim.lpClean (kp : Nat → Bool) (b : Code) (h : Sim GL U w0 F0 σ a w ow) : Sim GL U w0 F0 (VM.lpClean kp b σ) a w ow := by
  have h1 := (h.lpDrop (opsOf b)).gcs (opsOf b)
  unfold VM.lpClean VM.lpMore
  cases kp (loopKey b + 4095) with
  | true => exact (h1.lpDead kp _ _).lpGc kp _ _
  | false => exact h1
end

end Go.Proofs.YtaapkkeogajfpaaDoor.VM

/- The abstract machine and the memory: what the helpers say; the types' table. -/
set_option linter.unusedVariables false
set_option linter.unusedSimpArgs false
namespace Go.Proofs.YtaapkkeogajfpaaDoor.VM

section
variable {R : Type} {r : R}

theorem unI_some {k : IntKind} {v : V} {K : Int → Option R} (h : unI k v K = some r) : ∃ m, v = .sc (.int k m) ∧ K m = some r := by
  unfold unI at h
  split at h
  · rename_i k' m
    by_cases hk : k' = k
    · subst hk; simp at h; exact ⟨m, rfl, h⟩
    · simp [hk] at h
  · cases h
theorem unB_some {v : V} {K : Bool → Option R} (h : unB v K = some r) : ∃ b, v = .sc (.bool b) ∧ K b = some r := by
  unfold unB at h
  split at h
  · exact ⟨_, rfl, h⟩
  · cases h
theorem unS_some {v : V} {K : ByteArray → Option R} (h : unS v K = some r) : ∃ s, v = .sc (.string s) ∧ K s = some r := by
  unfold unS at h
  split at h
  · exact ⟨_, rfl, h⟩
  · cases h
theorem beq_nat {a b : Nat} : Nat.beq a b = true ↔ a = b := ⟨Nat.eq_of_beq_eq_true, fun h => by subst h; exact Nat.beq_refl a⟩
theorem unL_some {z : Nat} {v : V} {K : List V → Option R} (h : unL z v K = some r) : ∃ xs, (v = .sl z xs ∨ (v = .nil ∧ xs = [])) ∧ K xs = some r := by
  unfold unL at h
  split at h
  · rename_i z' xs
    cases hb : Nat.beq z' z with
    | true => rw [hb] at h; exact ⟨xs, .inl (by rw [beq_nat.1 hb]), h⟩
    | false => rw [hb] at h; cases h
  · exact ⟨[], .inr ⟨rfl, rfl⟩, h⟩
  · cases h
theorem unIo_some {v : V} {K : List V → Option R} (h : unIo v K = some r) : ∃ cs, v = .io cs ∧ K cs = some r := by
  unfold unIo at h
  split at h
  · exact ⟨_, rfl, h⟩
  · cases h
theorem unTup_some {n : Nat} {v : V} {K : List V → Option R} (h : unTup n v K = some r) : ∃ vs, v = .tup vs ∧ vs.length = n ∧ K vs = some r := by
  unfold unTup at h
  split at h
  · rename_i vs
    cases hb : Nat.beq vs.length n with
    | true => rw [hb] at h; exact ⟨vs, rfl, beq_nat.1 hb, h⟩
    | false => rw [hb] at h; cases h
  · cases h
theorem unSt_some {n : Nat} {x : V} {K : Option R} (h : unSt n x K = some r) : ∃ cs, x = .st cs ∧ cs.length = n ∧ K = some r := by
  unfold unSt at h
  split at h
  · rename_i cs
    cases hb : Nat.beq cs.length n with
    | true => rw [hb] at h; exact ⟨cs, rfl, beq_nat.1 hb, h⟩
    | false => rw [hb] at h; cases h
  · cases h
/-- of so many cells -/
def width (x : V) : Nat := match x with | .st cs => cs.length | _ => 1
theorem wd_some {n : Nat} {x : V} {K : Option R} (h : wd n x K = some r) : width x = n ∧ K = some r := by
  unfold wd at h
  split at h
  · rename_i cs
    cases hb : Nat.beq cs.length n with
    | true => rw [hb] at h; exact ⟨beq_nat.1 hb, h⟩
    | false => rw [hb] at h; cases h
  · rename_i hx
    cases hb : Nat.beq n 1 with
    | true => rw [hb] at h; refine ⟨?_, h⟩; rw [beq_nat.1 hb]; unfold width; split <;> first | rfl | exact absurd rfl (hx _)
    | false => rw [hb] at h; cases h
theorem wds_some {n : Nat} : ∀ {xs : List V} {K : Option R}, wds n xs K = some r → (∀ x ∈ xs, width x = n) ∧ K = some r
  | [], K, h => ⟨by simp, h⟩
  | x :: xs, K, h => by
    unfold wds at h
    obtain ⟨h1, h2⟩ := wd_some h
    obtain ⟨h3, h4⟩ := wds_some h2
    exact ⟨fun y hy => by rcases List.mem_cons.1 hy with rfl | hy; exact h1; exact h3 y hy, h4⟩
theorem FR.width {w : World} {A : Nat → Prop} {cs : List Value} {x : V} (h : FR w A cs x) : cs.length = VM.width x := by
  cases h <;> first | rfl | assumption

/-- data of one cell -/
def isC (c : V) : Prop := match c with | .sc _ | .sl .. | .nil | .clo .. | .rp .. => True | _ => False

theorem isC.sc {w : World} {A : Nat → Prop} {ow : Own} {ob : List Ob} {u : Value} {c : V} (hc : isC c) : SC w A ow ob u c = FR w A [u] c := by
  cases c <;> first | rfl | exact hc.elim
theorem isC.sv {w : World} {A : Nat → Prop} {ow : Own} {ob : List Ob} {u : Value} {c : V} (hc : isC c) : SV w A ow ob u c = FR w A [u] c := by
  cases c <;> first | rfl | exact hc.elim
theorem isC.sr {w : World} {A : Nat → Prop} {ow : Own} {ob : List Ob} {u : Value} {c : V} (hc : isC c) : SR w A ow ob u c = FR w A [u] c := by
  cases c <;> first | rfl | exact hc.elim
theorem isC.vr {w : World} {A : Nat → Prop} {u : Value} {c : V} (hc : isC c) : VR w A u c = FR w A [u] c := by
  cases c <;> first | rfl | exact hc.elim
theorem isC.bc {w : World} {A : Nat → Prop} {ow : Own} {k j : Nat} {u : Value} {c : V} (hc : isC c) : BC w A ow k j u c = FR w A [u] c := by
  cases c <;> first | rfl | exact hc.elim

theorem isC.ne {c : V} (h : isC c) : c ≠ .dead := by rintro rfl; exact h
theorem FR.nilsl {w : World} {A : Nat → Prop} {u : Value} (z : Nat) (h : FR w A [u] .nil) : FR w A [u] (.sl z []) := by
  cases h
  exact .sl 0 0 (fun _ => []) rfl (Nat.le_refl _) (fun h => absurd h (Nat.lt_irrefl 0)) (fun i hi => absurd hi (Nat.not_lt_zero _)) (fun i x hx => by simp at hx)
theorem unC_some {s : Sh} {v : V} {K : V → Option R} (h : unC s v K = some r) : ∃ c, K c = some r ∧ isC c ∧ isC v ∧ ∀ w A u, FR w A [u] v → FR w A [u] c := by
  cases s with
  | i k =>
    obtain ⟨m, rfl, h2⟩ := unI_some h
    exact ⟨_, h2, trivial, trivial, fun _ _ _ h => h⟩
  | b =>
    obtain ⟨m, rfl, h2⟩ := unB_some h
    exact ⟨_, h2, trivial, trivial, fun _ _ _ h => h⟩
  | tx =>
    obtain ⟨m, rfl, h2⟩ := unS_some h
    exact ⟨_, h2, trivial, trivial, fun _ _ _ h => h⟩
  | l z =>
    obtain ⟨xs, hv, h2⟩ := unL_some h
    rcases hv with rfl | ⟨rfl, rfl⟩
    · exact ⟨_, h2, trivial, trivial, fun _ _ _ h => h⟩
    · exact ⟨_, h2, trivial, trivial, fun w A u hu => hu.nilsl z⟩
  | any =>
    simp only [unC] at h
    cases v <;> first
      | (simp at h; done)
      | exact ⟨_, h, trivial, trivial, fun _ _ _ h => h⟩

theorem FR.ce {w : World} {A : Nat → Prop} {ecs : List Value} {x : V} (h : FR w A ecs x) {j : Nat} (hj : VM.ce x j ≠ .dead) : ∃ u, ecs[j]? = some u ∧ FR w A [u] (VM.ce x j) := by
  have one : ∀ {v : Value} {y : V}, FR w A [v] y → (∀ cs, y ≠ .st cs) → VM.ce y j ≠ .dead → ∃ u, [v][j]? = some u ∧ FR w A [u] (VM.ce y j) := by
    intro v y hy hn hd
    cases j with
    | zero =>
      have hce : VM.ce y 0 = y := by cases y <;> first | rfl | exact absurd rfl (hn _)
      rw [hce]; exact ⟨v, rfl, hy⟩
    | succ j =>
      have hce : VM.ce y (j + 1) = .dead := by cases y <;> first | rfl | exact absurd rfl (hn _)
      exact absurd hce hd
  cases h with
  | st hl h =>
    rename_i vs
    simp only [VM.ce, List.getD_eq_getElem?_getD] at hj ⊢
    cases hv : vs[j]? with
    | none => rw [hv] at hj; simp at hj
    | some y =>
      have hlt : j < vs.length := (List.getElem?_eq_some_iff.1 hv).1
      have hcs : ecs[j]? = some (ecs[j]'(by omega)) := List.getElem?_eq_getElem (by omega)
      refine ⟨_, hcs, ?_⟩
      simp only [Option.getD_some]
      exact h j _ _ hcs hv
  | sc h' => exact one (.sc h') (by simp) hj
  | nil => exact one .nil (by simp) hj
  | sl b o ec hn hc ha hl hx => exact one (.sl b o ec hn hc ha hl hx) (by simp) hj
  | rp hA hc hx => exact one (.rp hA hc hx) (by simp) hj
  | clo hl h' => exact one (.clo hl h') (by simp) hj

theorem unCs_some {x : V} : ∀ {ss : List Sh} {j : Nat} {K : List V → Option R}, unCs x j ss K = some r →
    ∃ cs, K cs = some r ∧ cs.length = ss.length ∧ ∀ (q : Nat) c, cs[q]? = some c → isC c ∧ isC (ce x (j + q)) ∧ ∀ w A u, FR w A [u] (ce x (j + q)) → FR w A [u] c
  | [], j, K, h => ⟨[], h, rfl, fun q c hq => by simp at hq⟩
  | s :: ss, j, K, h => by
    unfold unCs at h
    obtain ⟨c, h2, hc, hd, hr⟩ := unC_some h
    obtain ⟨cs, h3, hl, hcs⟩ := unCs_some h2
    refine ⟨c :: cs, h3, by simp [hl], fun q c' hq => ?_⟩
    cases q with
    | zero => simp at hq; subst hq; exact ⟨hc, hd, hr⟩
    | succ q =>
      have := hcs q c' (by simpa using hq)
      rw [show j + 1 + q = j + (q + 1) by omega] at this
      exact this

/-- the parts of a result -/
theorem unVs_some {vs : List V} : ∀ {ts : List Ty} {j : Nat} {K : List V → Option R}, unVs vs j ts K = some r →
    ∃ cs, K cs = some r ∧ cs.length = ts.length ∧ ∀ (q : Nat) c, cs[q]? = some c → vs.getD (j + q) .dead ≠ .dead ∧ ∀ w A ow ob u, VR w A u (vs.getD (j + q) .dead) → SV w A ow ob u c
  | [], j, K, h => ⟨[], h, rfl, fun q c hq => by simp at hq⟩
  | .c s :: ts, j, K, h => by
    unfold unVs at h
    obtain ⟨c, h2, hc, hd, hr⟩ := unC_some h
    obtain ⟨cs, h3, hl, hcs⟩ := unVs_some h2
    refine ⟨c :: cs, h3, by simp [hl], fun q c' hq => ?_⟩
    cases q with
    | zero =>
      simp at hq; subst hq
      refine ⟨hd.ne, fun w A ow ob u hu => ?_⟩
      rw [hc.sv]
      refine hr w A u ?_
      rw [Nat.add_zero, hd.vr] at hu
      exact hu
    | succ q =>
      have := hcs q c' (by simpa using hq)
      rw [show j + 1 + q = j + (q + 1) by omega] at this
      exact this
  | .agg ss :: ts, j, K, h => by
    unfold unVs at h
    obtain ⟨ds, he, _, h2⟩ := unSt_some h
    obtain ⟨cs, h3, hl, hcs⟩ := unVs_some h2
    refine ⟨_ :: cs, h3, by simp [hl], fun q c' hq => ?_⟩
    cases q with
    | zero =>
      simp at hq; subst hq
      rw [Nat.add_zero]
      refine ⟨by rw [he]; simp, fun w A ow ob u hu => ?_⟩
      simp only [List.getD_eq_getElem?_getD] at hu
      exact hu
    | succ q =>
      have := hcs q c' (by simpa using hq)
      rw [show j + 1 + q = j + (q + 1) by omega] at this
      exact this
  | .p ss :: ts, j, K, h => by simp [unVs] at h
  | .tup ss :: ts, j, K, h => by simp [unVs] at h

theorem exN_some {xs : List V} {n : Nat} {K : V → Option R} (h : exN xs n K = some r) : ∃ x, xs[n]? = some x ∧ K x = some r := by
  unfold exN at h
  split at h
  · exact ⟨_, by assumption, h⟩
  · cases h
theorem ix_some {xs : List V} {i : Int} {K : V → Option R} (h : ix xs i K = some r) : ∃ n : Nat, i = n ∧ ∃ x, xs[n]? = some x ∧ K x = some r := by
  unfold ix at h
  split at h
  · exact ⟨_, rfl, exN_some h⟩
  · cases h
theorem ixS_some {s : ByteArray} {i : Int} {K : Int → Option R} (h : ixS s i K = some r) : ∃ n : Nat, i = n ∧ ∃ b, s[n]? = some b ∧ K b.toNat = some r := by
  unfold ixS at h
  split at h
  · split at h
    · exact ⟨_, rfl, _, by assumption, h⟩
    · cases h
  · cases h
theorem chk_some {b : Bool} {K : Option R} (h : chk b K = some r) : b = true ∧ K = some r := by
  unfold chk at h
  cases b with
  | true => exact ⟨rfl, h⟩
  | false => cases h
theorem bif_some {b : Bool} {K : Option R} (h : (bif b then K else none) = some r) : b = true ∧ K = some r := by
  cases b with
  | true => exact ⟨rfl, h⟩
  | false => cases h
theorem asI_some {v : V} {K : Int → Option R} (h : asI v K = some r) : ∃ k n, v = .sc (.int k n) ∧ K n = some r := by
  unfold asI at h
  split at h
  · exact ⟨_, _, rfl, h⟩
  · cases h

/-! ### frozen values out of a state's -/
theorem sealC_some {lk : Nat → Ob} {v : V} {K : V → List (Nat × Option Nat) → Option R} (h : sealC lk v K = some r) : ∃ c s, K c s = some r ∧
    ((isC c ∧ c = v ∧ s = []) ∨ ∃ k q m o z xs, v = .ref k q m ∧ obRow lk k q = some (o, z, xs) ∧ c = .sl z (cut xs m) ∧ s = [(k, q)]) := by
  unfold sealC at h
  split at h
  · rename_i k q m
    split at h
    · rename_i o z xs he
      exact ⟨_, _, h, .inr ⟨k, q, m, o, z, xs, rfl, he, rfl, rfl⟩⟩
    · cases h
  · exact ⟨_, _, h, .inl ⟨trivial, rfl, rfl⟩⟩
  · exact ⟨_, _, h, .inl ⟨trivial, rfl, rfl⟩⟩
  · exact ⟨_, _, h, .inl ⟨trivial, rfl, rfl⟩⟩
  · exact ⟨_, _, h, .inl ⟨trivial, rfl, rfl⟩⟩
  · cases h

end


/-! ### sealing -/
/-- a key of rows of rows -/
def segO (ob : List Ob) (k : Nat) (c : Option Nat) : Prop :=
  match c, ob.getD k .none with
  | some j, .box _ cs => segK cs j
  | _, _ => False
theorem segO_frz1 {ob : List Ob} {k0 : Nat} {c0 : Option Nat} {k : Nat} {c : Option Nat} (h : segO (frz1 ob k0 c0) k c) : segO ob k c := by
  unfold frz1 at h
  by_cases hk : k = k0 ∧ k0 < ob.length
  · obtain ⟨rfl, hl⟩ := hk
    unfold segO at h ⊢
    rw [getD_set_ob_same _ _ hl] at h
    cases c with
    | none => exact h
    | some j =>
      cases ho : ob.getD k .none with
      | none => rw [ho] at h; cases c0 <;> exact h
      | row => rw [ho] at h; cases c0 <;> exact h
      | box b cs =>
        rw [ho] at h
        cases c0 with
        | none => exact h
        | some c0 =>
          cases hc : cs.getD c0 .dead with
          | own o z xs =>
            simp only [frzO, hc] at h
            exact segK_sub (fun i l xs' hi => by
              rw [getElem?_set_V] at hi
              split at hi
              · simp at hi
              · exact hi) h
          | _ => simp only [frzO, hc] at h; exact h
  · unfold segO at h ⊢
    rw [getD_set_ob, if_neg hk] at h
    exact h
theorem owned_frz1 {ob : List Ob} {k0 : Nat} {c0 : Option Nat} {k : Nat} {c : Option Nat} (h : owned (frz1 ob k0 c0) k c) : owned ob k c ∧ ((k, c) ≠ (k0, c0) ∨ segO ob k c) := by
  unfold frz1 at h
  by_cases hk : k = k0
  case neg =>
    rw [owned_congr (getD_set_ob_other _ _ hk)] at h
    exact ⟨h, .inl fun e => hk (by rw [Prod.mk.injEq] at e; exact e.1)⟩
  subst hk
  by_cases hl : k < ob.length
  case neg =>
    rw [List.set_eq_of_length_le (by omega)] at h
    have hn : ob.getD k .none = .none := by simp [List.getD_eq_getElem?_getD, List.getElem?_eq_none (by omega : ob.length ≤ k)]
    unfold owned at h; rw [hn] at h; cases c <;> exact h.elim
  rw [owned_one, getD_set_ob_same _ _ hl] at h
  refine ⟨by rw [owned_one]; exact (frzO_sub default (fun _ _ => 0) k c0 _).ow c h, ?_⟩
  by_cases hsg : segO ob k c
  · exact .inr hsg
  refine .inl fun e => ?_
  rw [Prod.mk.injEq] at e
  obtain ⟨_, rfl⟩ := e
  unfold segO at hsg
  generalize ob.getD k .none = o at h hsg
  cases c with
  | none => cases o <;> simp [owned, frzO] at h
  | some c =>
    cases o with
    | none => simp [owned, frzO] at h
    | row => simp [owned, frzO] at h
    | box b cs =>
      cases hc : cs.getD c .dead with
      | own o z xs =>
        simp only [frzO, hc] at h
        rcases h with ⟨z', xs', h⟩ | h
        · rw [getElem?_set_V] at h
          split at h
          · simp at h
          · rename_i hh
            have hlt : c < cs.length := (List.getElem?_eq_some_iff.1 h).1
            exact hh ⟨rfl, hlt⟩
        · exact hsg (segK_sub (fun i l xs' hi => by
            rw [getElem?_set_V] at hi
            split at hi
            · simp at hi
            · exact hi) h)
      | _ =>
        simp only [frzO, hc] at h
        rcases h with ⟨z', xs', h⟩ | h
        · simp [List.getD_eq_getElem?_getD, h] at hc
        · exact hsg h

theorem owned_freeze : ∀ (s : List (Nat × Option Nat)) {ob : List Ob} {k : Nat} {c : Option Nat}, owned (freeze ob s) k c → owned ob k c ∧ ((k, c) ∉ s ∨ segO ob k c)
  | [], ob, k, c, h => ⟨h, .inl (by simp)⟩
  | (k0, c0) :: s, ob, k, c, h => by
    obtain ⟨h1, h2⟩ := owned_freeze s h
    obtain ⟨h3, h4⟩ := owned_frz1 h1
    refine ⟨h3, ?_⟩
    rcases h4 with h4 | h4
    · rcases h2 with h2 | h2
      · exact .inl (by simp only [List.mem_cons, not_or]; exact ⟨h4, h2⟩)
      · exact .inr (segO_frz1 h2)
    · exact .inr h4

theorem obRow_eO {σ : St} {k : Nat} {q : Option Nat} {o : Bool} {z : Nat} {xs : List V} (h : obRow (lkE σ) k q = some (o, z, xs)) : ∃ o', obRow (lk σ) k q = some (o', z, xs) := by
  cases q with
  | none =>
    rw [obRow_none] at h
    unfold lkE at h
    cases ho : σ.ob.getD k .none with
    | row o' z' xs' =>
      rw [ho] at h
      simp only [eO, Ob.row.injEq] at h
      obtain ⟨_, rfl, rfl⟩ := h
      exact ⟨o', obRow_none.2 ho⟩
    | _ => rw [ho] at h; simp [eO] at h
  | some c =>
    rw [obRow_some] at h
    obtain ⟨b, cs, h1, h2⟩ := h
    unfold lkE at h1
    cases ho : σ.ob.getD k .none with
    | box b' cs' =>
      rw [ho] at h1
      simp only [eO, Ob.box.injEq] at h1
      obtain ⟨_, rfl⟩ := h1
      rw [List.getElem?_map] at h2
      cases hc : cs'[c]? with
      | none => rw [hc] at h2; simp at h2
      | some y =>
        rw [hc] at h2
        simp only [Option.map_some, Option.some.injEq] at h2
        cases y <;> simp only [eC, V.own.injEq, reduceCtorEq] at h2
        obtain ⟨_, rfl, rfl⟩ := h2
        exact ⟨_, obRow_some.2 ⟨b', cs', ho, hc⟩⟩
    | _ => rw [ho] at h1; simp [eO] at h1

section
variable {U : Nat → Prop} {w : World} {ow : Own} {ob : List Ob}

theorem HO.row (h : HO U w ow ob) {k : Nat} {q : Option Nat} {o : Bool} {z : Nat} {xs : List V} (hr : obRow (fun k => ob.getD k .none) k q = some (o, z, xs)) :
    ∃ c, RowOk w (Fz U w ow ob) (ow k q) z xs c := by
  cases q with
  | none =>
    rw [obRow_none] at hr
    have := h.obs k
    rw [hr] at this
    exact this
  | some j =>
    rw [obRow_some] at hr
    obtain ⟨b, cs, h1, h2⟩ := hr
    have hk := h.obs k
    rw [h1] at hk
    obtain ⟨ht, hc⟩ := hk
    have hj : j < cs.length := (List.getElem?_eq_some_iff.1 h2).1
    obtain ⟨v, hv⟩ := Option.isSome_iff_exists.1 (ht j hj).1
    rw [Nat.zero_add] at hv
    obtain ⟨c, _, hr⟩ := hc j v _ hv h2
    exact ⟨c, hr⟩
/-- own rows lie in the first cells of a box -/
theorem HO.own64 (h : HO U w ow ob) {k j : Nat} {b o : Bool} {cs xs : List V} {z : Nat} (h1 : ob.getD k .none = .box b cs) (h2 : cs[j]? = some (.own o z xs)) : j < 64 := by
  have hk := h.obs k
  rw [h1] at hk
  obtain ⟨ht, hc⟩ := hk
  have hj : j < cs.length := (List.getElem?_eq_some_iff.1 h2).1
  obtain ⟨v, hv⟩ := Option.isSome_iff_exists.1 (ht j hj).1
  rw [Nat.zero_add] at hv
  obtain ⟨c, ⟨_, h64⟩, _⟩ := hc j v _ hv h2
  exact h64
theorem HO.notSeg (h : HO U w ow ob) {k : Nat} {q : Option Nat} {o : Bool} {z : Nat} {xs : List V} (hr : obRow (fun k => ob.getD k .none) k q = some (o, z, xs)) : ¬ segO ob k q := fun hs => by
  unfold segO at hs
  cases q with
  | none => exact hs
  | some j =>
    obtain ⟨b, cs, h1, h2⟩ := obRow_some.1 hr
    have h1 : ob.getD k .none = .box b cs := h1
    rw [h1] at hs
    have h64 := h.own64 h1 h2
    obtain ⟨l, xs', h3, _⟩ := hs
    rw [Nat.mod_eq_of_lt h64, h2] at h3
    cases h3

theorem alive_row {k : Nat} {q : Option Nat} {o : Bool} {z : Nat} {xs : List V} (hr : obRow (fun k => ob.getD k .none) k q = some (o, z, xs)) : alive ob k q := by
  cases q with
  | none => rw [obRow_none] at hr; exact aliveOb (by rw [hr]; simp)
  | some j => rw [obRow_some] at hr; obtain ⟨b, cs, h1, h2⟩ := hr; exact aliveBox h1 h2

theorem HO.frozen (h : HO U w ow ob) {k : Nat} {q : Option Nat} (ha : alive ob k q) (hns : ¬ segO ob k q) {s : List (Nat × Option Nat)} (hs : (k, q) ∈ s) : Fz U w ow (freeze ob s) (ow k q) :=
  ⟨(h.lt k q ha).2, (h.lt k q ha).1, fun k' c' ho he => by
    obtain ⟨h1, h2⟩ := owned_freeze s ho
    obtain ⟨rfl, rfl⟩ := h.inj k' c' k q (alive_of_owned h1) ha he
    rcases h2 with h2 | h2
    · exact h2 hs
    · exact hns h2⟩

theorem Fz.freeze {s : List (Nat × Option Nat)} {b : Nat} (h : Fz U w ow ob b) : Fz U w ow (freeze ob s) b :=
  ⟨h.1, h.2.1, fun k c ho => h.2.2 k c (owned_freeze s ho).1⟩

theorem length_cut {xs : List V} {m : Option Nat} (h : cutLen xs m ≤ xs.length) : (cut xs m).length = cutLen xs m := by
  cases m with
  | none => rfl
  | some n => simp only [cut, cutLen, List.length_take] at *; omega
theorem getElem?_cut {xs : List V} {m : Option Nat} {i : Nat} {x : V} (h : (cut xs m)[i]? = some x) : xs[i]? = some x := by
  cases m with
  | none => exact h
  | some n =>
    simp only [cut, List.getElem?_take] at h
    split at h
    · exact h
    · cases h

/-- a row in frozen memory reads as a slice -/
theorem FR.ofRow {A : Nat → Prop} {g z c n cp : Nat} {xs ys : List V} (h : RowOk w A g z xs c) (hA : A g) (hy : ∀ (i : Nat) y, ys[i]? = some y → xs[i]? = some y) (hn : ys.length = n) (hc : n ≤ cp) :
    FR w A [.slice (some ⟨g, 0, none⟩) n cp] (.sl z ys) := by
  classical
  have key : ∀ i : Nat, ∃ ecs, ∀ x, ys[i]? = some x → ecs.length = z ∧ At w g (i * z) ecs ∧ FR w A ecs x := fun i => by
    cases hi : ys[i]? with
    | none => exact ⟨[], fun x hx => by simp at hx⟩
    | some x =>
      obtain ⟨ecs, h1⟩ := h.at_ i x (hy i x hi)
      exact ⟨ecs, fun y hy => by simp at hy; subst hy; exact h1⟩
  obtain ⟨ec, hec⟩ := Classical.axiomOfChoice key
  refine .sl g 0 ec hn hc (fun _ => ⟨rfl, hA⟩) (fun i hi => ?_) (fun i x hx => (hec i x hx).2.2)
  have hx : ys[i]? = some (ys[i]'(by omega)) := List.getElem?_eq_getElem (by omega)
  have := hec i _ hx
  refine ⟨this.1, ?_⟩
  rw [Nat.zero_add]
  exact this.2.1

theorem SC.sealed (h : HO U w ow ob) {v : Value} {k : Nat} {q m : Option Nat} {o : Bool} {z : Nat} {xs : List V} (hv : SC w (Fz U w ow ob) ow ob v (.ref k q m))
    (hr : obRow (fun k => ob.getD k .none) k q = some (o, z, xs)) {s : List (Nat × Option Nat)} (hs : (k, q) ∈ s) : FR w (Fz U w ow (freeze ob s)) [v] (.sl z (cut xs m)) := by
  obtain ⟨o', z', xs', cp, h1, rfl, h3, h4, h5⟩ := hv
  rw [hr] at h1
  simp only [Option.some.injEq, Prod.mk.injEq] at h1
  obtain ⟨_, rfl, rfl⟩ := h1
  obtain ⟨c, hrow⟩ := h.row hr
  have hrow' := hrow.keep (w' := w) (A' := Fz U w ow (freeze ob s)) (fun b hb => ⟨Fz.freeze hb, rfl⟩) rfl
  exact FR.ofRow hrow' (h.frozen (alive_row hr) (h.notSeg hr) hs) (fun i y hy => getElem?_cut hy) (length_cut h3) h4
end

section
variable {R : Type} {r : R}
/-- v was made fit: x; s: what is frozen for it -/
def SealOk (U : Nat → Prop) (w : World) (ow : Own) (ob : List Ob) (v x : V) (s : List (Nat × Option Nat)) : Prop :=
  ∀ s', (∀ q ∈ s, q ∈ s') → ∀ u, SR w (Fz U w ow ob) ow ob u v → VR w (Fz U w ow (freeze ob s')) u x
def SealOkC (U : Nat → Prop) (w : World) (ow : Own) (ob : List Ob) (v x : V) (s : List (Nat × Option Nat)) : Prop :=
  isC x ∧ ∀ s', (∀ q ∈ s, q ∈ s') → ∀ u, SC w (Fz U w ow ob) ow ob u v → FR w (Fz U w ow (freeze ob s')) [u] x

variable {U : Nat → Prop} {w : World} {ow : Own} {σ : St}

theorem isC.freeze {c : V} {ob : List Ob} {u : Value} {s : List (Nat × Option Nat)} (h : FR w (Fz U w ow ob) [u] c) : FR w (Fz U w ow (freeze ob s)) [u] c :=
  h.mono (fun _ _ => rfl) (fun _ hb => Fz.freeze hb)

theorem sealC_ok (h : HO U w ow σ.ob) {v : V} {K : V → List (Nat × Option Nat) → Option R} (he : sealC (lkE σ) v K = some r) :
    ∃ c s, K c s = some r ∧ SealOkC U w ow σ.ob v c s := by
  obtain ⟨c, s, hK, hc⟩ := sealC_some he
  refine ⟨c, s, hK, ?_⟩
  rcases hc with ⟨hc, rfl, rfl⟩ | ⟨k, q, m, o, z, xs, rfl, hr, rfl, rfl⟩
  · exact ⟨hc, fun s' _ u hu => isC.freeze (by rw [hc.sc] at hu; exact hu)⟩
  · obtain ⟨o', hr'⟩ := obRow_eO hr
    exact ⟨trivial, fun s' hs' u hu => hu.sealed h hr' (hs' _ (by simp))⟩

theorem sealCs_ok (h : HO U w ow σ.ob) : ∀ {vs : List V} {K : List V → List (Nat × Option Nat) → Option R}, sealCs (lkE σ) vs K = some r →
    ∃ cs s, K cs s = some r ∧ cs.length = vs.length ∧ ∀ (i : Nat) c v, cs[i]? = some c → vs[i]? = some v → SealOkC U w ow σ.ob v c s
  | [], K, he => ⟨[], [], he, rfl, fun i c v hc => by simp at hc⟩
  | v :: vs, K, he => by
    unfold sealCs at he
    obtain ⟨c, s, h1, hc⟩ := sealC_ok h he
    obtain ⟨cs, s', h2, hl, hcs⟩ := sealCs_ok h h1
    refine ⟨c :: cs, s ++ s', h2, by simp [hl], fun i c' v' h3 h4 => ?_⟩
    cases i with
    | zero =>
      simp at h3 h4; subst h3; subst h4
      exact ⟨hc.1, fun s'' hs u hu => hc.2 s'' (fun q hq => hs q (List.mem_append_left _ hq)) u hu⟩
    | succ i =>
      have := hcs i c' v' (by simpa using h3) (by simpa using h4)
      exact ⟨this.1, fun s'' hs u hu => this.2 s'' (fun q hq => hs q (List.mem_append_right _ hq)) u hu⟩

theorem sealV_ok (h : HO U w ow σ.ob) {v : V} {K : V → List (Nat × Option Nat) → Option R} (he : sealV (lkE σ) v K = some r) :
    ∃ x s, K x s = some r ∧ SealOk U w ow σ.ob v x s := by
  by_cases h1 : ∃ cs, v = .st cs
  · obtain ⟨cs, rfl⟩ := h1
    obtain ⟨cs', s, h2, hl, hcs⟩ := sealCs_ok h he
    refine ⟨_, s, h2, fun s' hs u hu => ?_⟩
    obtain ⟨arr, rfl, e2, e3⟩ := hu
    refine ⟨arr, rfl, .st (by simp [e2, hl]) fun i v x hv hx => ?_⟩
    have hi : i < cs.length := by have := (List.getElem?_eq_some_iff.1 hx).1; omega
    have hc := hcs i x _ hx (List.getElem?_eq_getElem hi)
    exact hc.2 s' hs v (e3 i v _ (by simpa using hv) (List.getElem?_eq_getElem hi))
  · by_cases h2 : ∃ y, v = .dt y
    · obtain ⟨y, rfl⟩ := h2
      exact ⟨y, [], he, fun s' _ u hu => VR.mono hu (fun _ _ => rfl) (fun _ hb => Fz.freeze hb)⟩
    · have he' : sealC (lkE σ) v K = some r := by
        cases v <;> first | exact he | exact absurd ⟨_, rfl⟩ h1 | exact absurd ⟨_, rfl⟩ h2
      obtain ⟨c, s, h3, hc⟩ := sealC_ok h he'
      refine ⟨c, s, h3, fun s' hs u hu => ?_⟩
      rw [hc.1.vr]
      refine hc.2 s' hs u ?_
      have hnt : ∀ vs, v ≠ .tup vs := by
        rintro vs rfl
        simp [sealC] at he'
      cases v <;> first
        | exact hu
        | exact absurd ⟨_, rfl⟩ h1
        | exact absurd ⟨_, rfl⟩ h2
        | exact absurd rfl (hnt _)

theorem sealVs_ok (h : HO U w ow σ.ob) : ∀ {vs : List V} {K : List V → List (Nat × Option Nat) → Option R}, sealVs (lkE σ) vs K = some r →
    ∃ xs s, K xs s = some r ∧ xs.length = vs.length ∧ ∀ (i : Nat) x v, xs[i]? = some x → vs[i]? = some v → SealOk U w ow σ.ob v x s
  | [], K, he => ⟨[], [], he, rfl, fun i c v hc => by simp at hc⟩
  | v :: vs, K, he => by
    unfold sealVs at he
    obtain ⟨c, s, h1, hc⟩ := sealV_ok h he
    obtain ⟨cs, s', h2, hl, hcs⟩ := sealVs_ok h h1
    refine ⟨c :: cs, s ++ s', h2, by simp [hl], fun i c' v' h3 h4 => ?_⟩
    cases i with
    | zero =>
      simp at h3 h4; subst h3; subst h4
      exact fun s'' hs u hu => hc s'' (fun q hq => hs q (List.mem_append_left _ hq)) u hu
    | succ i =>
      have := hcs i c' v' (by simpa using h3) (by simpa using h4)
      exact fun s'' hs u hu => this s'' (fun q hq => hs q (List.mem_append_right _ hq)) u hu
end


/-! ### the empty list for nothing -/
theorem FR.nil_sl {w : World} {A : Nat → Prop} {v : Value} {z : Nat} (h : FR w A [v] .nil) : FR w A [v] (.sl z []) := by
  cases h
  exact .sl 0 0 (fun _ => []) rfl (Nat.le_refl _) (fun h => by omega) (fun i hi => by omega) (fun i x hx => by simp at hx)
theorem SC.nrm {w : World} {A : Nat → Prop} {ow : Own} {ob : List Ob} {u : Value} {c : V} {s : Sh} (h : SC w A ow ob u c) : SC w A ow ob u (nrmC s c) := by
  unfold nrmC
  split
  · exact FR.nil_sl h
  · exact h
theorem nrmCs_length : ∀ (ss : List Sh) (cs : List V), (nrmCs ss cs).length = cs.length
  | [], _ => rfl
  | _ :: _, [] => rfl
  | _ :: ss, _ :: cs => by unfold nrmCs; simp [nrmCs_length ss cs]
theorem nrmCs_get : ∀ (ss : List Sh) (cs : List V) (i : Nat) {x : V}, (nrmCs ss cs)[i]? = some x → ∃ c, cs[i]? = some c ∧ (x = c ∨ ∃ s, x = nrmC s c)
  | [], _, i, x, h => ⟨x, h, .inl rfl⟩
  | _ :: _, [], i, x, h => by simp [nrmCs] at h
  | s :: ss, c :: cs, i, x, h => by
    unfold nrmCs at h
    cases i with
    | zero => simp at h; exact ⟨c, rfl, .inr ⟨s, h.symm⟩⟩
    | succ i => simpa using nrmCs_get ss cs i (by simpa using h)
theorem nrmV_el {T : TT} {t : TypeId} {v : V} (h : ∀ cs, v ≠ .st cs) : nrmV T t v = v := by cases v <;> first | rfl | exact absurd rfl (h _)
theorem nrmV_st {T : TT} {t : TypeId} {cs : List V} : nrmV T t (.st cs) = .st cs ∨ ∃ ss, nrmV T t (.st cs) = .st (nrmCs ss cs) := by
  unfold nrmV
  simp only
  split
  · exact .inr ⟨_, rfl⟩
  · exact .inl rfl
theorem SR.nrm {w : World} {A : Nat → Prop} {ow : Own} {ob : List Ob} {u : Value} {v : V} {T : TT} {t : TypeId} (h : SR w A ow ob u v) : SR w A ow ob u (nrmV T t v) := by
  by_cases hs : ∃ cs, v = .st cs
  · obtain ⟨cs, rfl⟩ := hs
    rcases nrmV_st (T := T) (t := t) (cs := cs) with e | ⟨ss, e⟩
    · rw [e]; exact h
    · rw [e]
      obtain ⟨arr, h1, h2, h3⟩ := h
      refine ⟨arr, h1, by rw [nrmCs_length]; exact h2, fun j q y hq hy => ?_⟩
      obtain ⟨c, hc, e⟩ := nrmCs_get ss cs j hy
      have := h3 j q c hq hc
      rcases e with rfl | ⟨s, rfl⟩
      · exact this
      · exact this.nrm
  · rw [nrmV_el fun cs e => hs ⟨cs, e⟩]; exact h
theorem nrmA_length {T : TT} : ∀ (ts : List TypeId) (vs : List V), (nrmA T ts vs).length = vs.length
  | [], _ => rfl
  | _ :: _, [] => rfl
  | _ :: ts, _ :: vs => by unfold nrmA; simp [nrmA_length ts vs]
theorem nrmA_get {T : TT} : ∀ (ts : List TypeId) (vs : List V) (i : Nat) {x : V}, (nrmA T ts vs)[i]? = some x → ∃ v, vs[i]? = some v ∧ (x = v ∨ ∃ t, x = nrmV T t v)
  | [], _, i, x, h => ⟨x, h, .inl rfl⟩
  | _ :: _, [], i, x, h => by simp [nrmA] at h
  | t :: ts, v :: vs, i, x, h => by
    unfold nrmA at h
    cases i with
    | zero => simp at h; exact ⟨v, rfl, .inr ⟨t, h.symm⟩⟩
    | succ i => simpa using nrmA_get ts vs i (by simpa using h)
theorem nrmA_sr {w : World} {A : Nat → Prop} {ow : Own} {ob : List Ob} {u : Value} {v x : V} {T : TT} (h : SR w A ow ob u v) (e : x = v ∨ ∃ t, x = nrmV T t v) : SR w A ow ob u x := by
  rcases e with rfl | ⟨t, rfl⟩
  · exact h
  · exact h.nrm
/-- what it refers to stays -/
theorem keyC_nrm {s : Sh} {c : V} : keyC (nrmC s c) = keyC c := by
  unfold nrmC
  split <;> rfl
theorem keysV_nrm {T : TT} {t : TypeId} {v : V} : keysV (nrmV T t v) = keysV v := by
  by_cases hs : ∃ cs, v = .st cs
  · obtain ⟨cs, rfl⟩ := hs
    rcases nrmV_st (T := T) (t := t) (cs := cs) with e | ⟨ss, e⟩
    · rw [e]
    · rw [e]
      show (nrmCs ss cs).filterMap keyC = cs.filterMap keyC
      clear e
      induction ss generalizing cs with
      | nil => rfl
      | cons s ss ih =>
        cases cs with
        | nil => rfl
        | cons c cs => unfold nrmCs; rw [List.filterMap_cons, List.filterMap_cons, keyC_nrm, ih]
  · rw [nrmV_el fun cs e => hs ⟨cs, e⟩]
end Go.Proofs.YtaapkkeogajfpaaDoor.VM

/- The abstract machine and the memory: the quiet operations. -/
set_option linter.unusedVariables false
set_option linter.unusedSimpArgs false
namespace Go.Proofs.YtaapkkeogajfpaaDoor.VM
open Go.RowKit

/-- what a shape says of a type -/
def ShOk (sh : Sh) (d : TypeDesc) : Prop :=
  match sh with
  | .i k => d = .int k
  | .b => d = .bool
  | .tx => d = .string
  | _ => True
def zc (v : Value) : V := constC v

/-- a function that only looks at the boxes that it is handed -/
def RoArg (ow : Own) (ob : List Ob) (c : Value) (x : V) : Prop :=
  match x with
  | .io cs => ∃ k b cs0, ob.getD k .none = .box b cs0 ∧ cs = cs0.map eC ∧ c = .pointer (some ⟨ow k none, 0, none⟩)
  | .sc u => c = u
  | _ => False
structure RoFn (P : Program) (f : FuncId) (g : List V → Option Int) : Prop where
  fn : ∃ fn c, P.funcs[f]? = some fn ∧ (fn.name == "runtime.NumGoroutine") = false ∧ fn.body = some c
  ok : ∀ (U : Nat → Prop) (w : World) (ow : Own) (ob : List Ob) (vs : List V) (cargs : Array Value) (n : Int), HO U w ow ob → cargs.size = vs.length → (∀ (i : Nat) c x, cargs[i]? = some c → vs[i]? = some x → RoArg ow ob c x) → g vs = some n →
    Calls P f cargs w fun e w' => e = .returned (.int .i64 n) ∧ Ext w w' (fun _ => False)
/-- the table tells the truth -/
structure TOk (P : Program) (T : TT) : Prop where
  mixed : P.follows .mixedOrders = true
  fn : ∀ f fn, T.fn f = some fn → P.funcs[f]? = some fn ∧ (fn.name == "runtime.NumGoroutine") = false
  tyc : ∀ t s, T.ty t = .c s → ∃ d i, P.underlying t = some d ∧ d.isRow = false ∧ P.info? t = some i ∧ i.size = 1 ∧ ShOk s d
  tya : ∀ t ss, T.ty t = .agg ss → ∃ d i, P.underlying t = some d ∧ d.isRow = true ∧ P.info? t = some i ∧ i.size = ss.length
  off : ∀ t l, fnd T.offL t = some l → ∃ fs, P.underlying t = some (.struct fs) ∧ fs.toList.mapM (fun f => (P.info? f.type).map fun i => (f.offset, i.size)) = some l
  offz : ∀ t f o z, T.off t f = some (o, z) → ∃ fs fd i, P.underlying t = some (.struct fs) ∧ fs[f]? = some fd ∧ fd.offset = o ∧ P.info? fd.type = some i ∧ i.size = z ∧ 0 < z
  el : ∀ t e z, T.el t = some (e, z) → ∃ i, P.underlying t = some (.slice e) ∧ P.info? e = some i ∧ i.size = z ∧ 0 < z
  arr : ∀ t n z, T.arr t = some (n, z) → ∃ e i, P.underlying t = some (.array n e) ∧ P.info? e = some i ∧ i.size = z
  zero : ∀ t cs, T.zero t = some cs → ∃ i v, P.info? t = some i ∧ i.zero = some v ∧ v.cells.toList.map constC = cs ∧ (∀ c ∈ cs, c ≠ .dead) ∧ i.size = cs.length
  esz : ∀ e b, T.esz e = some b → ∃ i, P.info? e = some i ∧ i.bytes = b ∧ 0 < b
  u8 : ∀ s, memN T.u8L s = true → ∃ e, P.underlying s = some (.slice e) ∧ P.underlying e = some (.int .u8)
  ro : ∀ f g, fnd T.roL f = some g → RoFn P f g

section
variable {P : Program} {T : TT} {U : Nat → Prop} {w0 w : World} {F0 : Fr} {σ : St} {a : Act} {ow : Own} {R : Type} {r : R}

theorem constC_fr {A : Nat → Prop} (v : Value) (h : constC v ≠ .dead) : isC (constC v) ∧ FR w A [v] (constC v) := by
  unfold constC at *
  split at h
  · exact ⟨trivial, .nil⟩
  · exact absurd rfl h
  · exact absurd rfl h
  · rename_i h1 h2 h3
    exact ⟨trivial, .sc (by cases v <;> first | rfl | exact absurd rfl (h2 _) | exact absurd rfl (h3 _))⟩
theorem constC_sc {A : Nat → Prop} {ob : List Ob} (v : Value) : SC w A ow ob v (constC v) := by
  by_cases h : constC v = .dead
  · rw [h]; trivial
  · obtain ⟨h1, h2⟩ := constC_fr (w := w) (A := A) v h
    rw [h1.sc]; exact h2

theorem constC_sr {A : Nat → Prop} {ob : List Ob} (v : Value) : SR w A ow ob v (constC v) := by
  by_cases h : constC v = .dead
  · rw [h]; trivial
  · obtain ⟨h1, h2⟩ := constC_fr (w := w) (A := A) v h
    rw [h1.sr]; exact h2

theorem val_sr (h : Sim T.globL U w0 F0 σ a w ow) (x : Operand) : SR w (Fz U w ow σ.ob) ow σ.ob (a.eval x) (val T σ x) := by
  cases x with
  | tmp t => exact h.slots t
  | const v =>
    show SR _ _ _ _ v (constV v)
    cases v with
    | agg cs =>
      refine ⟨cs, rfl, by simp [constV], fun j u y hu hy => ?_⟩
      simp only [List.getElem?_map, Array.getElem?_toList, hu, Option.map_some, Option.some.injEq] at hy
      subst hy
      exact constC_sc u
    | _ => exact constC_sr _
  | global g =>
    show SR _ _ _ _ (.pointer (some ⟨g, 0, none⟩)) (match T.glob g with | some x => .rp x 0 | none => .dead)
    cases hg : T.glob g with
    | none => trivial
    | some x =>
      obtain ⟨h1, ecs, h2, h3⟩ := h.gl g x hg
      exact .rp (b := g) (o := 0) (j := 0) h1 h2 h3
  | func f => exact .sc rfl

/-- the operation yields, and the state goes on so -/
def Done (P : Program) (GL : List (Nat × V)) (U : Nat → Prop) (w0 : World) (F0 : Fr) (a : Act) (w : World) (o : Oper) (d : Nat) (σ' : St) : Prop :=
  ∃ u w' ow', (execOp a.eval o).run P w = .ok (.value u) w' ∧ Sim GL U w0 F0 σ' (a.put (some d) u) w' ow'

/-- no object is made, nothing frozen -/
theorem done_plain {o : Oper} {d : Nat} {x : V} {u : Value} (h : Sim T.globL U w0 F0 σ a w ow) (hr : (execOp a.eval o).run P w = .ok (.value u) w)
    (hv : SR w (Fz U w ow σ.ob) ow σ.ob u x) : Done P T.globL U w0 F0 a w o d (putQ σ d x .none []) :=
  ⟨u, w, ow, hr, h.put d fun _ => hv⟩

theorem exec_move {o : Oper} {x : Operand} (ho : o.op = .move x) : (execOp a.eval o).run P w = .ok (.value (a.eval x)) w := by simp [execOp, ho]
theorem exec_load {o : Oper} {t : TypeId} {x : Operand} {u : Value} {w' : World} (ho : o.op = .load t x) (hr : (Instr.loadAt t (a.eval x)).run P w = .ok u w') : (execOp a.eval o).run P w = .ok (.value u) w' := by simp [execOp, ho, hr]
theorem exec_alloc {o : Oper} {t : TypeId} {u : Value} {w' : World} (ho : o.op = .alloc t) (hr : (Instr.alloc t true (.tuple #[])).run P w = .ok u w') : (execOp a.eval o).run P w = .ok (.value u) w' := by simp [execOp, ho, hr]
theorem exec_box {o : Oper} {t : TypeId} {x : Operand} {u : Value} {w' : World} (ho : o.op = .box t x) (hr : (Instr.box t (a.eval x)).run P w = .ok u w') : (execOp a.eval o).run P w = .ok (.value u) w' := by simp [execOp, ho, hr]
theorem exec_fieldAddr {o : Oper} {t : TypeId} {x : Operand} {f : Nat} {u : Value} {w' : World} (ho : o.op = .fieldAddr t x f) (hr : (Instr.fieldAt t (a.eval x) f).run P w = .ok u w') : (execOp a.eval o).run P w = .ok (.value u) w' := by simp [execOp, ho, hr]
theorem exec_indexAddr {o : Oper} {t : TypeId} {x i : Operand} {u : Value} {w' : World} (ho : o.op = .indexAddr t x i) (hr : (Instr.indexAt t (a.eval x) (a.eval i)).run P w = .ok u w') : (execOp a.eval o).run P w = .ok (.value u) w' := by simp [execOp, ho, hr]
theorem exec_index {o : Oper} {t : TypeId} {x i : Operand} {u : Value} {w' : World} (ho : o.op = .index t x i) (hr : (Instr.index t (a.eval x) (a.eval i)).run P w = .ok u w') : (execOp a.eval o).run P w = .ok (.value u) w' := by simp [execOp, ho, hr]
theorem exec_binOp {o : Oper} {op : BinOp} {t t' : TypeId} {x y : Operand} {u : Value} {w' : World} (ho : o.op = .binOp op t x y t')
    (hr : ((eqGuard op t x y (a.eval x) (a.eval y)).run P w = .ok () w) ∧ (binOp op t (a.eval x) (a.eval y)).run P w = .ok u w') : (execOp a.eval o).run P w = .ok (.value u) w' := by simp [execOp, ho, hr.1, hr.2]
theorem exec_unOp {o : Oper} {op : UnOp} {t : TypeId} {x : Operand} {u : Value} {w' : World} (ho : o.op = .unOp op t x) (hr : (Op.unary op (a.eval x)).run P w = .ok u w') : (execOp a.eval o).run P w = .ok (.value u) w' := by simp [execOp, ho, hr]
theorem exec_convert {o : Oper} {s t : TypeId} {x : Operand} {u : Value} {w' : World} (ho : o.op = .convert s t x) (hr : (convert s t (a.eval x)).run P w = .ok u w') : (execOp a.eval o).run P w = .ok (.value u) w' := by simp [execOp, ho, hr]
theorem exec_extract {o : Oper} {x : Operand} {i : Nat} {u : Value} {w' : World} (ho : o.op = .extract x i) (hr : (Instr.extract (a.eval x) i).run P w = .ok u w') : (execOp a.eval o).run P w = .ok (.value u) w' := by simp [execOp, ho, hr]
theorem exec_makeSlice {o : Oper} {t : TypeId} {l c : Operand} {u : Value} {w' : World} (ho : o.op = .makeSlice t l c) (hr : (Instr.makeSlice t (a.eval l) (a.eval c)).run P w = .ok u w') : (execOp a.eval o).run P w = .ok (.value u) w' := by simp [execOp, ho, hr]
theorem exec_makeFunc {o : Oper} {f : Fn} {fs cs : Array Operand} (ho : o.op = .makeFunc f fs cs) : (execOp a.eval o).run P w = .ok (.value (.func f (fs.map a.eval) (cs.map a.eval))) w := by simp [execOp, ho, Instr.makeFunc]
theorem exec_slice {o : Oper} {t : TypeId} {x : Operand} {lo hi mx : Option Operand} {u : Value} {w' : World} (ho : o.op = .slice t x lo hi mx)
    (hr : (Instr.sliceAt t (a.eval x) (lo.map a.eval) (hi.map a.eval) (mx.map a.eval)).run P w = .ok u w') : (execOp a.eval o).run P w = .ok (.value u) w' := by simp [execOp, ho, hr]
theorem exec_build {o : Oper} {t : TypeId} {ps : Array (Nat × Operand)} {u : Value} {w' : World} (ho : o.op = .build t ps) (hr : (Instr.build t (ps.map fun (i, x) => (i, a.eval x))).run P w = .ok u w') : (execOp a.eval o).run P w = .ok (.value u) w' := by simp [execOp, ho, hr]
theorem exec_buildSlice {o : Oper} {t : TypeId} {n : Nat} {ps : Array (Nat × Operand)} {u : Value} {w' : World} (ho : o.op = .buildSlice t n ps) (hr : (Instr.buildSlice t n (ps.map fun (i, x) => (i, a.eval x))).run P w = .ok u w') : (execOp a.eval o).run P w = .ok (.value u) w' := by simp [execOp, ho, hr]
theorem exec_pick {o : Oper} {c x y : Operand} {b : Bool} (ho : o.op = .pick c x y) (hb : a.eval c = .bool b) : (execOp a.eval o).run P w = .ok (.value (if b then a.eval x else a.eval y)) w := by simp [execOp, ho, hb, asBool]
theorem exec_builtin {o : Oper} {b : Builtin} {args : Array Operand} {ts : Array TypeId} {u : Value} {w' : World} (ho : o.op = .call { callee := .builtin b, args, argTypes := ts })
    (hr : (builtin b ts o.type (args.map fun | .const _ => true | _ => false) (args.map a.eval)).run P w = .ok (.value u) w') : (execOp a.eval o).run P w = .ok (.value u) w' := by
  simp only [execOp, ho, resolve, Sem.run_bind, Sem.run_pure, Result.andThen_ok]
  exact hr

/-! ### new objects -/
theorem freeze_none : ∀ (s : List (Nat × Option Nat)) {ob : List Ob} {d : Nat}, ob.getD d .none = .none → (freeze ob s).getD d .none = .none
  | [], ob, d, h => h
  | (k, c) :: s, ob, d, h => by
    refine freeze_none s ?_
    unfold frz1
    rw [getD_set_ob]
    split
    · rename_i hh
      obtain ⟨rfl, _⟩ := hh
      rw [h]
      cases c <;> rfl
    · exact h
theorem freeze_length : ∀ (s : List (Nat × Option Nat)) (ob : List Ob), (freeze ob s).length = ob.length
  | [], _ => rfl
  | (k, c) :: s, ob => by
    show (freeze (frz1 ob k c) s).length = _
    rw [freeze_length s]
    simp [frz1]

theorem ext_alloc (w : World) (o : Obj) : Ext w (w.alloc o) (fun _ => False) :=
  ⟨rfl, rfl, rfl, by simp, fun b hb _ => Below.heap_alloc w o b hb⟩
theorem th_alloc (w : World) (arr : Array Value) (e : TypeId) {n : Nat} (hn : n ≤ arr.size) : Th (w.alloc (.cells arr e)) w.heap.size n := fun j hj => by
  rw [Nat.zero_add, World.cell?_alloc_at arr e _ _ rfl, World.frozen?_alloc_at arr e _ _ rfl]
  exact ⟨by rw [Array.getElem?_eq_getElem (by omega)]; rfl, rfl⟩
theorem at_alloc (w : World) (arr : Array Value) (e : TypeId) {o : Nat} {cs : List Value} (h : ∀ (j : Nat) v, cs[j]? = some v → arr[o + j]? = some v) : At (w.alloc (.cells arr e)) w.heap.size o cs := fun j v hv => by
  rw [World.cell?_alloc_at arr e _ _ rfl]
  exact h j v hv

theorem alive_box {ob : List Ob} {d : Nat} {b : Bool} {cs : List V} (hb : ob.getD d .none = .box b cs) (hc : ∀ c ∈ cs, isC c) {q : Option Nat} (h : alive ob d q) : q = none := by
  cases q with
  | none => rfl
  | some j =>
    unfold alive at h
    rw [hb] at h
    rcases h with ⟨o, z, xs, h⟩ | ⟨l, xs, h, _⟩
    · exact (hc _ (List.mem_of_getElem? h)).elim
    · exact (hc _ (List.mem_of_getElem? h)).elim
theorem alive_row1 {ob : List Ob} {d : Nat} {b : Bool} {z : Nat} {xs : List V} (hb : ob.getD d .none = .row b z xs) {q : Option Nat} (h : alive ob d q) : q = none := by
  cases q with
  | none => rfl
  | some j => unfold alive at h; rw [hb] at h; exact h.elim

theorem Sim.newBox {GL : List (Nat × V)} (h : Sim GL U w0 F0 σ a w ow) (d : Nat) (hd : σ.ob.getD d .none = .none) (hpn : F0.pn d = none) (arr : Array Value) (e : TypeId) (cs : List V) (hl : arr.size = cs.length)
    (hc : ∀ (j : Nat) v c, arr[j]? = some v → cs[j]? = some c → isC c ∧ FR w (Fz U w ow σ.ob) [v] c) :
    Sim GL U w0 F0 ⟨σ.sl.set d (.ptr d none 0 0), σ.ob.set d (.box true cs)⟩ (a.put (some d) (.pointer (some ⟨w.heap.size, 0, none⟩))) (w.alloc (.cells arr e)) (upd ow d fun _ => w.heap.size) := by
  have hcs : ∀ c ∈ cs, isC c := fun c hm => by
    obtain ⟨j, hj, rfl⟩ := List.getElem_of_mem hm
    exact (hc j (arr[j]'(by omega)) _ (Array.getElem?_eq_getElem (by omega)) (List.getElem?_eq_getElem hj)).1
  have hal : ∀ q, alive (σ.ob.set d (.box true cs)) d q → q = none := fun q hq => by
    by_cases hdl : d < σ.ob.length
    · exact alive_box (getD_set_ob_same _ _ hdl) hcs hq
    · rw [List.set_eq_of_length_le (by omega)] at hq
      unfold alive at hq; rw [hd] at hq; cases q <;> exact hq.elim
  have h1 := h.create (w' := w.alloc (.cells arr e)) (ext_alloc _ _) d (.box true cs) (fun _ => w.heap.size) hd hpn
    (fun q _ => ⟨Nat.le_refl _, by simp⟩) (fun q q' hq hq' _ => by rw [hal q hq, hal q' hq'])
    (fun hA => ⟨by rw [upd_same]; exact th_alloc _ _ _ (by omega), fun j v x hv hx => by
      rw [upd_same, World.cell?_alloc_at arr e _ _ rfl] at hv
      obtain ⟨h1, h2⟩ := hc j v x hv hx
      rw [h1.bc]
      exact h2.mono (fun b hb => Below.heap_alloc w _ b hb.2.1) hA⟩)
  refine h1.put d fun hlt => ?_
  have hdl : d < σ.ob.length := by rw [h.olen]; exact hlt
  exact .inl ⟨true, cs, getD_set_ob_same _ _ hdl, rfl, by rw [upd_same]⟩

theorem Sim.newRow {GL : List (Nat × V)} (h : Sim GL U w0 F0 σ a w ow) (d : Nat) (hd : σ.ob.getD d .none = .none) (hpn : F0.pn d = none) (arr : Array Value) (e : TypeId) (z cp : Nat) (xs : List V) (hcp : xs.length ≤ cp) (hl : cp * z ≤ arr.size)
    (hx : ∀ (i : Nat) x, xs[i]? = some x → ∃ ecs, ecs.length = z ∧ (∀ (j : Nat) v, ecs[j]? = some v → arr[i * z + j]? = some v) ∧ FR w (Fz U w ow σ.ob) ecs x) :
    Sim GL U w0 F0 ⟨σ.sl.set d (.ref d none none), σ.ob.set d (.row true z xs)⟩ (a.put (some d) (.slice (some ⟨w.heap.size, 0, none⟩) xs.length cp)) (w.alloc (.cells arr e)) (upd ow d fun _ => w.heap.size) := by
  have hal : ∀ q, alive (σ.ob.set d (.row true z xs)) d q → q = none := fun q hq => by
    by_cases hdl : d < σ.ob.length
    · exact alive_row1 (getD_set_ob_same _ _ hdl) hq
    · rw [List.set_eq_of_length_le (by omega)] at hq
      unfold alive at hq; rw [hd] at hq; cases q <;> exact hq.elim
  have hth : Th (w.alloc (.cells arr e)) w.heap.size (cp * z) := th_alloc _ _ _ hl
  have h1 := h.create (w' := w.alloc (.cells arr e)) (ext_alloc _ _) d (.row true z xs) (fun _ => w.heap.size) hd hpn
    (fun q _ => ⟨Nat.le_refl _, by simp⟩) (fun q q' hq hq' _ => by rw [hal q hq, hal q' hq'])
    (fun hA => ⟨cp, by
      rw [upd_same]
      refine ⟨hcp, hth, fun i x hi => ?_⟩
      obtain ⟨ecs, e1, e2, e3⟩ := hx i x hi
      exact ⟨ecs, e1, at_alloc _ _ _ e2, e3.mono (fun b hb => Below.heap_alloc w _ b hb.2.1) hA⟩⟩)
  refine h1.put d fun hlt => ?_
  have hdl : d < σ.ob.length := by rw [h.olen]; exact hlt
  refine ⟨true, z, xs, cp, obRow_none.2 (getD_set_ob_same _ _ hdl), by rw [upd_same]; rfl, Nat.le_refl _, hcp, ?_⟩
  rw [upd_same]; exact hth

theorem Sim.newRowW {GL : List (Nat × V)} (h : Sim GL U w0 F0 σ a w ow) (d : Nat) (hd : σ.ob.getD d .none = .none) (hpn : F0.pn d = none) {w' : World} (hext : Ext w w' fun _ => False) (hlt' : w.heap.size < w'.heap.size) (z cp : Nat) (xs : List V) (hcp : xs.length ≤ cp) (hth : Th w' w.heap.size (cp * z))
    (hx : ∀ (i : Nat) x, xs[i]? = some x → ∃ ecs, ecs.length = z ∧ At w' w.heap.size (i * z) ecs ∧ FR w (Fz U w ow σ.ob) ecs x) :
    Sim GL U w0 F0 ⟨σ.sl.set d (.ref d none none), σ.ob.set d (.row true z xs)⟩ (a.put (some d) (.slice (some ⟨w.heap.size, 0, none⟩) xs.length cp)) w' (upd ow d fun _ => w.heap.size) := by
  have hal : ∀ q, alive (σ.ob.set d (.row true z xs)) d q → q = none := fun q hq => by
    by_cases hdl : d < σ.ob.length
    · exact alive_row1 (getD_set_ob_same _ _ hdl) hq
    · rw [List.set_eq_of_length_le (by omega)] at hq
      unfold alive at hq; rw [hd] at hq; cases q <;> exact hq.elim
  have h1 := h.create (w' := w') hext d (.row true z xs) (fun _ => w.heap.size) hd hpn
    (fun q _ => ⟨Nat.le_refl _, hlt'⟩) (fun q q' hq hq' _ => by rw [hal q hq, hal q' hq'])
    (fun hA => ⟨cp, by
      rw [upd_same]
      refine ⟨hcp, hth, fun i x hi => ?_⟩
      obtain ⟨ecs, e1, e2, e3⟩ := hx i x hi
      exact ⟨ecs, e1, e2, e3.mono (fun b hb => hext.block b hb.2.1 fun hf => hf) hA⟩⟩)
  refine h1.put d fun hlt => ?_
  have hdl : d < σ.ob.length := by rw [h.olen]; exact hlt
  refine ⟨true, z, xs, cp, obRow_none.2 (getD_set_ob_same _ _ hdl), by rw [upd_same]; rfl, Nat.le_refl _, hcp, ?_⟩
  rw [upd_same]; exact hth

theorem val_sc (h : Sim T.globL U w0 F0 σ a w ow) {x : Operand} {u : Value} (hx : val T σ x = .sc u) : a.eval x = u ∧ u.oneCell' = true := by
  have h2 := val_sr h x
  rw [hx] at h2
  have h3 : FR w (Fz U w ow σ.ob) [a.eval x] (.sc u) := h2
  generalize a.eval x = y at h3
  cases h3 with
  | sc h => exact ⟨rfl, h⟩

/-- what a quiet operation owes -/
def Good (P : Program) (T : TT) (U : Nat → Prop) (w0 : World) (F0 : Fr) (σ : St) (a : Act) (w : World) (o : Oper) (d : Nat) (K : V → Ob → List (Nat × Option Nat) → Option R) (r : R) : Prop :=
  ∃ x ob s, K x ob s = some r ∧ ((ob = .none ∨ (σ.ob.getD d .none = .none ∧ F0.pn d = none)) → Done P T.globL U w0 F0 a w o d (putQ σ d x ob s))

variable {o : Oper} {d : Nat} {K : V → Ob → List (Nat × Option Nat) → Option R}

theorem q_move (h : Sim T.globL U w0 F0 σ a w ow) {x : Operand} (ho : o.op = .move x) (hk : (match val T σ x with | .dead => none | x => K x .none []) = some r) : Good P T U w0 F0 σ a w o d K r := by
  have hv := val_sr h x
  generalize val T σ x = y at hv hk
  have : K y .none [] = some r := by cases y <;> first | exact hk | cases hk
  exact ⟨y, .none, [], this, fun _ => done_plain h (exec_move ho) hv⟩

theorem q_pick (h : Sim T.globL U w0 F0 σ a w ow) {c x y : Operand} (ho : o.op = .pick c x y) (hk : pickB (val T σ c) (val T σ x) (val T σ y) (fun x => K x .none []) = some r) : Good P T U w0 F0 σ a w o d K r := by
  unfold pickB at hk
  split at hk
  · rename_i t hc
    obtain ⟨hc', _⟩ := val_sc h hc
    have hx := val_sr h x
    have hy := val_sr h y
    have hrun := exec_pick (P := P) (w := w) ho hc'
    split at hk
    · rename_i p q hp hq
      refine ⟨_, _, _, hk, fun _ => done_plain h hrun ?_⟩
      rw [hp] at hx; rw [hq] at hy
      cases t
      · exact hy
      · exact hx
    · cases t
      · exact ⟨_, _, _, hk, fun _ => done_plain h hrun hy⟩
      · exact ⟨_, _, _, hk, fun _ => done_plain h hrun hx⟩
  · cases hk

theorem q_nilCheck (h : Sim T.globL U w0 F0 σ a w ow) {x : Operand} (ho : o.op = .nilCheck x)
    (hk : (match val T σ x with | .ptr k c i j => K (.ptr k c i j) .none [] | .rp x j => K (.rp x j) .none [] | .sg k c (.pl i) => K (.sg k c (.pl i)) .none [] | _ => none) = some r) : Good P T U w0 F0 σ a w o d K r := by
  have hv := val_sr h x
  have hrun : ∀ ad, a.eval x = .pointer (some ad) → (execOp a.eval o).run P w = .ok (.value (a.eval x)) w := fun ad e => by simp [execOp, ho, e]
  split at hk
  · rename_i k c i j hx
    rw [hx] at hv
    have : ∃ ad, a.eval x = .pointer (some ad) := by
      cases c with
      | none => rcases hv with ⟨_, _, _, _, e⟩ | ⟨_, _, _, _, e⟩ <;> exact ⟨_, e⟩
      | some c => obtain ⟨_, _, _, _, e⟩ := hv; exact ⟨_, e⟩
    obtain ⟨ad, e⟩ := this
    exact ⟨_, _, _, hk, fun _ => done_plain h (hrun ad e) hv⟩
  · rename_i y j hx
    rw [hx] at hv
    have : ∃ ad, a.eval x = .pointer (some ad) := by
      have hv' : FR w (Fz U w ow σ.ob) [a.eval x] (.rp y j) := hv
      generalize a.eval x = u at hv'
      cases hv' with
      | rp => exact ⟨_, rfl⟩
    obtain ⟨ad, e⟩ := this
    exact ⟨_, _, _, hk, fun _ => done_plain h (hrun ad e) hv⟩
  · rename_i k c i hx
    rw [hx] at hv
    obtain ⟨_, _, _, _, e⟩ := id hv
    exact ⟨_, _, _, hk, fun _ => done_plain h (hrun _ e) hv⟩
  · cases hk

theorem q_alloc (hT : TOk P T) (h : Sim T.globL U w0 F0 σ a w ow) {t : TypeId} (ho : o.op = .alloc t)
    (hk : (match T.zero t with | some cs => K (.ptr d none 0 0) (.box true cs) [] | none => none) = some r) : Good P T U w0 F0 σ a w o d K r := by
  split at hk
  · rename_i cs hz
    obtain ⟨i, v, hi, hv, hcs, hnd, hsz⟩ := hT.zero t cs hz
    refine ⟨_, _, _, hk, fun hd => ?_⟩
    have hd2 : σ.ob.getD d .none = .none ∧ F0.pn d = none := by rcases hd with hd | hd; cases hd; exact hd
    have hd' := hd2.1
    have hrun : (Instr.alloc t true (.tuple #[])).run P w = .ok (.pointer (some ⟨w.heap.size, 0, none⟩)) (w.alloc (.cells v.cells t)) := by
      simp [Instr.alloc, zeroValue, typeInfo, hi, hv, newVar, newRow]
    refine ⟨_, _, upd ow d (fun _ => w.heap.size), exec_alloc ho hrun, ?_⟩
    refine h.newBox d hd' hd2.2 v.cells t cs (by rw [← hcs]; simp) fun j u c hu hc => ?_
    have hc' : c = constC u := by
      rw [← hcs, List.getElem?_map, Array.getElem?_toList, hu] at hc
      simpa using hc.symm
    subst hc'
    exact constC_fr u (hnd _ (List.mem_of_getElem? hc))
  · cases hk


theorem SR.sv {A : Nat → Prop} {ob : List Ob} {v : Value} {x : V} (h : SR w A ow ob v x) (hx : ∀ vs, x ≠ .tup vs) : SV w A ow ob v x := by
  cases x <;> first | exact h | exact absurd rfl (hx _)
theorem SR.sc {A : Nat → Prop} {ob : List Ob} {v : Value} {x : V} (h : SR w A ow ob v x) (h1 : ∀ vs, x ≠ .tup vs) (h2 : ∀ vs, x ≠ .st vs) (h3 : ∀ y, x ≠ .dt y) : SC w A ow ob v x := by
  cases x <;> first | exact h | exact absurd rfl (h1 _) | exact absurd rfl (h2 _) | exact absurd rfl (h3 _)
theorem SC.one {A : Nat → Prop} {ob : List Ob} {v : Value} {x : V} (h : SC w A ow ob v x) (hx : x ≠ .dead) : v.oneCell' = true := by
  cases x with
  | dead => exact absurd rfl hx
  | ref k c m => obtain ⟨_, _, _, _, _, rfl, _⟩ := h; rfl
  | ptr k c i j =>
    cases c with
    | none => rcases h with ⟨_, _, _, _, rfl⟩ | ⟨_, _, _, _, rfl⟩ <;> rfl
    | some c => obtain ⟨_, _, _, _, rfl⟩ := h; rfl
  | sg k c m =>
    cases m with
    | hd => obtain ⟨_, _, _, _, rfl, _⟩ := h; rfl
    | pl i => obtain ⟨_, _, _, _, rfl⟩ := h; rfl
    | el i =>
      obtain ⟨_, _, _, _, _, _, h3⟩ := h
      rcases h3 with ⟨_, rfl⟩ | ⟨_, _, _, rfl, _⟩ <;> rfl
    | sub i j => obtain ⟨_, _, _, _, _, _, _, _, _, rfl, _⟩ := h; rfl
  | bref k => obtain ⟨_, _, _, rfl⟩ := h; rfl
  | seg => exact h.elim
  | io => exact h.elim
  | own => exact h.elim
  | tup => exact h.elim
  | dt => exact h.elim
  | st => exact h.elim
  | _ => exact FR.one h v (by simp)

/-- the cells of a value that goes into a box -/
theorem boxed_ok {GL : List (Nat × V)} (h : Sim GL U w0 F0 σ a w ow) {ss : List Sh} {u : Value} {v : V} (hu : SR w (Fz U w ow σ.ob) ow σ.ob u v) {K : List V → List (Nat × Option Nat) → Option R} (hk : boxed (lkE σ) ss v K = some r) :
    ∃ cs s, K cs s = some r ∧ cs.length = ss.length ∧ u.cells.size = cs.length ∧
      ∀ (j : Nat) q c, u.cells[j]? = some q → cs[j]? = some c → isC c ∧ FR w (Fz U w ow (freeze σ.ob s)) [q] c := by
  have single : ∀ (s1 : Sh), ss = [s1] → sealC (lkE σ) v (fun c s => K [c] s) = some r → (∀ cs, v ≠ .st cs) → (∀ y, v ≠ .dt y) →
      ∃ cs s, K cs s = some r ∧ cs.length = ss.length ∧ u.cells.size = cs.length ∧ ∀ (j : Nat) q c, u.cells[j]? = some q → cs[j]? = some c → isC c ∧ FR w (Fz U w ow (freeze σ.ob s)) [q] c := by
    intro s1 hs he h1 h2
    have h0 : ∀ vs, v ≠ .tup vs := by rintro vs rfl; simp [sealC] at he
    have hd : v ≠ .dead := by rintro rfl; simp [sealC] at he
    have hc := hu.sc h0 h1 h2
    obtain ⟨c, s, hK, hok⟩ := sealC_ok h.ho he
    have hone := cells_of_one (hc.one hd)
    refine ⟨[c], s, hK, by rw [hs]; rfl, by rw [hone]; rfl, fun j q c' hq hc' => ?_⟩
    rw [hone] at hq
    cases j with
    | succ j => simp at hc'
    | zero =>
      simp at hq hc'
      subst hq; subst hc'
      exact ⟨hok.1, hok.2 s (fun _ h => h) _ hc⟩
  cases v with
  | st cs =>
    simp only [boxed] at hk
    obtain ⟨hl, he⟩ := bif_some hk
    obtain ⟨cs', s, hK, hl', hok⟩ := sealCs_ok h.ho he
    obtain ⟨arr, rfl, e2, e3⟩ := hu
    have hl := beq_nat.1 hl
    refine ⟨cs', s, hK, by omega, by show arr.size = _; omega, fun j q c hq hc => ?_⟩
    have hi : j < cs.length := by have := (List.getElem?_eq_some_iff.1 hc).1; omega
    have := hok j c _ hc (List.getElem?_eq_getElem hi)
    exact ⟨this.1, this.2 s (fun _ h => h) _ (e3 j q _ hq (List.getElem?_eq_getElem hi))⟩
  | dt y =>
    simp only [boxed] at hk
    obtain ⟨ds, rfl, hl, he⟩ := unSt_some hk
    obtain ⟨cs, hK, hl', hok⟩ := unCs_some he
    have hu' : VR w (Fz U w ow σ.ob) u (.st ds) := hu
    obtain ⟨arr, rfl, hfr⟩ := hu'
    have hw := hfr.width
    simp only [width, Array.length_toList] at hw
    refine ⟨cs, [], hK, hl', by show arr.size = _; omega, fun j q c hq hc => ?_⟩
    obtain ⟨hc1, hc2, hc3⟩ := hok j c hc
    rw [Nat.zero_add] at hc2 hc3
    refine ⟨hc1, hc3 w _ q ?_⟩
    obtain ⟨q', hq', hfr'⟩ := hfr.ce hc2.ne
    rw [Array.getElem?_toList] at hq'
    have : (Value.agg arr).cells = arr := rfl
    rw [this] at hq
    rw [hq] at hq'
    cases hq'
    exact hfr'
  | _ =>
    simp only [boxed] at hk
    split at hk
    · exact single _ rfl hk (by simp) (by simp)
    · cases hk

theorem q_box (h : Sim T.globL U w0 F0 σ a w ow) {t : TypeId} {x : Operand} (ho : o.op = .box t x)
    (hk : (match T.ty t with
      | .c s => boxed (lkE σ) [s] (val T σ x) fun cs s => K (.ptr d none 0 0) (.box true cs) s
      | .agg ss => boxed (lkE σ) ss (val T σ x) fun cs s => K (.ptr d none 0 0) (.box true cs) s
      | _ => none) = some r) : Good P T U w0 F0 σ a w o d K r := by
  have hv := val_sr h x
  have key : ∀ ss, boxed (lkE σ) ss (val T σ x) (fun cs s => K (.ptr d none 0 0) (.box true cs) s) = some r → Good P T U w0 F0 σ a w o d K r := fun ss he => by
    obtain ⟨cs, s, hK, _, hsz, hok⟩ := boxed_ok h hv he
    refine ⟨_, _, _, hK, fun hd => ?_⟩
    have hd2 : σ.ob.getD d .none = .none ∧ F0.pn d = none := by rcases hd with hd | hd; cases hd; exact hd
    have hd' := hd2.1
    have hrun : (Instr.box t (a.eval x)).run P w = .ok (.pointer (some ⟨w.heap.size, 0, none⟩)) (w.alloc (.cells (a.eval x).cells t)) := by
      simp [Instr.box, newVar, newRow]
    exact ⟨_, _, upd ow d (fun _ => w.heap.size), exec_box ho hrun, (h.freeze s).newBox d (freeze_none s hd') hd2.2 (a.eval x).cells t cs hsz hok⟩
  split at hk
  · exact key _ hk
  · exact key _ hk
  · cases hk

/-- a load out of frozen memory -/
theorem load_fr {A : Nat → Prop} (hT : TOk P T) {t : TypeId} {s : Sh} (ht : T.ty t = .c s) {b o j : Nat} {ecs : List Value} {x : V} (hA : At w b o ecs) (hx : FR w A ecs x) (hn : isC (ce x j)) :
    ∃ u, (Instr.loadAt t (.pointer (some ⟨b, o + j, none⟩))).run P w = .ok u w ∧ FR w A [u] (ce x j) := by
  obtain ⟨u, hu, hfr⟩ := hx.ce hn.ne
  obtain ⟨dd, i, hd, hrow, _⟩ := hT.tyc t s ht
  have hc := hA j u hu
  refine ⟨u, ?_, hfr⟩
  have hagg : (isAgg t).run P w = .ok false w := by
    unfold isAgg
    rw [Sem.run_bind, run_underlying hd w]
    cases dd <;> first | rfl | (simp [TypeDesc.isRow] at hrow)
  simp [Instr.loadAt, Instr.sureAddr, loadVar, hagg, hc]
theorem loadA_fr (hT : TOk P T) {t : TypeId} {ss : List Sh} (ht : T.ty t = .agg ss) {b o : Nat} {ecs : List Value} (hA : At w b o ecs) (hl : ecs.length = ss.length) :
    (Instr.loadAt t (.pointer (some ⟨b, o, none⟩))).run P w = .ok (.agg ecs.toArray) w := by
  obtain ⟨dd, i, hd, hrow, hi, hs⟩ := hT.tya t ss ht
  exact run_loadAt_mid w b o t ecs dd hA hd hrow (by rw [hi]; simp [hs, hl])

theorem fr_agg {A : Nat → Prop} {ecs : List Value} {x : V} (h : FR w A ecs x) {cs : List V} (hx : x = .st cs) : VR w A (.agg ecs.toArray) x := by
  subst hx
  exact ⟨ecs.toArray, rfl, by simpa using h⟩

/-- whole elements and parts of elements, out of memory -/
theorem load_elem (hT : TOk P T) (h : Sim T.globL U w0 F0 σ a w ow) {t : TypeId} {p : Operand} (ho : o.op = .load t p) {b off : Nat} {ecs : List Value} {x : V}
    (hA : At w b off ecs) (hx : FR w (Fz U w ow σ.ob) ecs x) {j : Nat} (hp : a.eval p = .pointer (some ⟨b, off + j, none⟩)) {s : Sh} (ht : T.ty t = .c s)
    (hk : unC s (ce x j) (fun c => K c .none []) = some r) : Good P T U w0 F0 σ a w o d K r := by
  obtain ⟨c, hK, hc, hd, hr⟩ := unC_some hk
  obtain ⟨u, hrun, hfr⟩ := load_fr hT ht hA hx hd
  refine ⟨c, .none, [], hK, fun _ => done_plain h (exec_load ho (by rw [hp]; exact hrun)) ?_⟩
  rw [hc.sr]
  exact hr _ _ _ hfr
theorem load_whole (hT : TOk P T) (h : Sim T.globL U w0 F0 σ a w ow) {t : TypeId} {p : Operand} (ho : o.op = .load t p) {b off : Nat} {ecs : List Value} {x : V}
    (hA : At w b off ecs) (hx : FR w (Fz U w ow σ.ob) ecs x) (hp : a.eval p = .pointer (some ⟨b, off, none⟩)) {ss : List Sh} (ht : T.ty t = .agg ss)
    (hk : unSt ss.length x (K (.dt x) .none []) = some r) : Good P T U w0 F0 σ a w o d K r := by
  obtain ⟨cs, hxs, hl, hK⟩ := unSt_some hk
  have hw := hx.width
  rw [hxs] at hw
  simp only [width] at hw
  refine ⟨_, .none, [], hK, fun _ => done_plain h (exec_load ho (by rw [hp]; exact loadA_fr hT ht hA (by omega))) ?_⟩
  exact fr_agg hx hxs
theorem load_part (hT : TOk P T) (h : Sim T.globL U w0 F0 σ a w ow) {t : TypeId} {p : Operand} (ho : o.op = .load t p) {b off : Nat} {ecs : List Value} {x : V}
    (hA : At w b off ecs) (hx : FR w (Fz U w ow σ.ob) ecs x) {j : Nat} (hp : a.eval p = .pointer (some ⟨b, off + j, none⟩)) {ss : List Sh} (ht : T.ty t = .agg ss)
    (hk : unCs x j ss (fun cs => K (.st cs) .none []) = some r) : Good P T U w0 F0 σ a w o d K r := by
  obtain ⟨cs, hK, hl, hcs⟩ := unCs_some hk
  have hin : ∀ q, q < ss.length → ∃ u, ecs[j + q]? = some u ∧ FR w (Fz U w ow σ.ob) [u] (ce x (j + q)) := fun q hq => by
    have hcq : cs[q]? = some (cs[q]'(by omega)) := List.getElem?_eq_getElem (by omega)
    exact hx.ce (hcs q _ hcq).2.1.ne
  have hlen : ((ecs.drop j).take ss.length).length = ss.length := by
    rw [List.length_take, List.length_drop]
    rcases Nat.eq_zero_or_pos ss.length with h0 | h0
    · omega
    · obtain ⟨u, hu, _⟩ := hin (ss.length - 1) (by omega)
      have := (List.getElem?_eq_some_iff.1 hu).1
      omega
  have hA' : At w b (off + j) ((ecs.drop j).take ss.length) := fun q u hu => by
    rw [List.getElem?_take] at hu
    split at hu
    · rw [List.getElem?_drop] at hu
      rw [Nat.add_assoc]; exact hA (j + q) u hu
    · cases hu
  refine ⟨.st cs, .none, [], hK, fun _ => done_plain h (exec_load ho (by rw [hp]; exact loadA_fr hT ht hA' hlen)) ?_⟩
  refine ⟨_, rfl, by simp only [List.size_toArray]; omega, fun q u y hu hy => ?_⟩
  have hq : q < ss.length := by have := (List.getElem?_eq_some_iff.1 hy).1; omega
  obtain ⟨u', hu', hfr⟩ := hin q hq
  have : u = u' := by
    simp only [List.getElem?_toArray] at hu
    rw [List.getElem?_take, if_pos hq, List.getElem?_drop, hu'] at hu
    cases hu; rfl
  subst this
  obtain ⟨h1, h2, h3⟩ := hcs q y hy
  rw [h1.sc]
  exact h3 _ _ _ hfr

theorem SC.ptrRow {A : Nat → Prop} {ob : List Ob} {v : Value} {k : Nat} {c : Option Nat} {i j : Nat} {oo : Bool} {z : Nat} {xs : List V} (h : SC w A ow ob v (.ptr k c i j))
    (hr : obRow (fun k => ob.getD k .none) k c = some (oo, z, xs)) : v = .pointer (some ⟨ow k c, i * z + j, none⟩) := by
  cases c with
  | none =>
    rw [obRow_none] at hr
    rcases h with ⟨o', cs, h1, _⟩ | ⟨o', z', xs', h1, h2⟩
    · rw [hr] at h1; cases h1
    · rw [hr] at h1; cases h1; exact h2
  | some c =>
    obtain ⟨o', z', xs', h1, h2⟩ := h
    rw [hr] at h1
    cases h1
    exact h2

theorem lkE_box {σ : St} {k : Nat} {o : Bool} {cs : List V} (h : lkE σ k = .box o cs) : ∃ o' cs', σ.ob.getD k .none = .box o' cs' ∧ cs = cs'.map eC := by
  unfold lkE at h
  cases ho : σ.ob.getD k .none with
  | box o' cs' => rw [ho] at h; simp only [eO, Ob.box.injEq] at h; exact ⟨o', cs', rfl, h.2.symm⟩
  | _ => rw [ho] at h; simp [eO] at h
theorem lkE_row {σ : St} {k : Nat} {o : Bool} {z : Nat} {xs : List V} (h : lkE σ k = .row o z xs) : ∃ o', σ.ob.getD k .none = .row o' z xs := by
  obtain ⟨o', h'⟩ := obRow_eO (obRow_none.2 h)
  exact ⟨o', obRow_none.1 h'⟩

theorem segAt_eO {σ : St} {k c : Nat} {l : Lo} {xs : List V} (h : segAt (lkE σ) k c = some (l, xs)) : segAt (fun k => σ.ob.getD k .none) k c = some (l, xs) := by
  obtain ⟨b, cs, h1, h2⟩ := segAt_iff.1 h
  obtain ⟨b', cs', h3, rfl⟩ := lkE_box h1
  refine segAt_iff.2 ⟨b', cs', h3, ?_⟩
  rw [List.getElem?_map] at h2
  obtain ⟨y, hy, h2⟩ := Option.map_eq_some_iff.1 h2
  rw [hy]
  cases y <;> simp only [eC, reduceCtorEq] at h2
  rw [h2]
/-- the row of rows in a cell -/
theorem Sim.seg {GL : List (Nat × V)} (h : Sim GL U w0 F0 σ a w ow) {k c : Nat} {l : Lo} {xs : List V} (hs : segAt (fun k => σ.ob.getD k .none) k c = some (l, xs)) : ∃ v, w.cell? ⟨ow k none, c, none⟩ = some v ∧ SegOk w (Fz U w ow σ.ob) ow k c v l xs := by
  obtain ⟨b, cs, h1, h2⟩ := segAt_iff.1 hs
  have hk := h.ho.obs k
  rw [show σ.ob.getD k .none = .box b cs from h1] at hk
  obtain ⟨ht, hc⟩ := hk
  obtain ⟨u, hu⟩ := Option.isSome_iff_exists.1 (ht c (List.getElem?_eq_some_iff.1 h2).1).1
  rw [Nat.zero_add] at hu
  exact ⟨u, hu, hc c u _ hu h2⟩
/-- a cell of a box as a slot's value -/
theorem box_cell {GL : List (Nat × V)} (h : Sim GL U w0 F0 σ a w ow) {k j : Nat} {b : Bool} {cs : List V} (hb : σ.ob.getD k .none = .box b cs) (hj : j < cs.length) :
    ∃ u, w.cell? ⟨ow k none, j, none⟩ = some u ∧ SC w (Fz U w ow σ.ob) ow σ.ob u (viewC k j ((cs.map eC).getD j .dead)) := by
  have hk := h.ho.obs k
  rw [hb] at hk
  obtain ⟨ht, hc⟩ := hk
  obtain ⟨u, hu⟩ := Option.isSome_iff_exists.1 (ht j hj).1
  rw [Nat.zero_add] at hu
  refine ⟨u, hu, ?_⟩
  have hx : cs[j]? = some cs[j] := List.getElem?_eq_getElem hj
  have hg : (cs.map eC).getD j .dead = eC cs[j] := by simp [List.getD_eq_getElem?_getD, hx]
  rw [hg]
  have hbc := hc j u _ hu hx
  generalize hy : cs[j] = y at hbc hx
  cases y with
  | own o z xs =>
    obtain ⟨cp, ⟨rfl, _⟩, hr⟩ := hbc
    exact ⟨o, z, xs, cp, obRow_some.2 ⟨b, cs, hb, hx⟩, rfl, Nat.le_refl _, hr.le, hr.th⟩
  | seg l xs =>
    cases l with
    | no =>
      obtain ⟨cp, h1, h2, h3⟩ := SegOk.hd hbc (by simp)
      exact ⟨.no, xs, cp, segAt_iff.2 ⟨b, cs, hb, hx⟩, h1, h2, h3⟩
    | _ => trivial
  | sg => exact absurd hbc (by intro hh; cases hh)
  | bref => exact absurd hbc (by intro hh; cases hh)
  | dead => trivial
  | self => trivial
  | sc => exact hbc
  | sl => exact hbc
  | nil => exact hbc
  | clo => exact hbc
  | rp => exact hbc
  | st cs => exact hbc.elim
  | dt x => exact absurd hbc (by intro hh; cases hh)
  | ptr => exact absurd hbc (by intro hh; cases hh)
  | ref => exact absurd hbc (by intro hh; cases hh)
  | io => exact absurd hbc (by intro hh; cases hh)
  | tup => exact absurd hbc (by intro hh; cases hh)

theorem view_get (k : Nat) : ∀ (cs : List V) (j q : Nat), (view k j cs)[q]? = (cs[q]?).map (viewC k (j + q))
  | [], j, q => by simp [view]
  | c :: cs, j, q => by
    unfold view
    cases q with
    | zero => simp
    | succ q =>
      simp only [List.getElem?_cons_succ]
      rw [view_get k cs (j + 1) q, show j + 1 + q = j + (q + 1) by omega]

theorem isAgg_false (hT : TOk P T) {t : TypeId} {s : Sh} (ht : T.ty t = .c s) : (isAgg t).run P w = .ok false w := by
  obtain ⟨dd, i, hd, hrow, _⟩ := hT.tyc t s ht
  unfold isAgg
  rw [Sem.run_bind, run_underlying hd w]
  cases dd <;> first | rfl | (simp [TypeDesc.isRow] at hrow)

theorem q_load0 (hT : TOk P T) (h : Sim T.globL U w0 F0 σ a w ow) {t : TypeId} {p : Operand} (ho : o.op = .load t p)
    (hk : (match val T σ p, T.ty t with
    | .ptr k none 0 j, .c s => match lkE σ k with
      | .box _ cs => (match viewC k j (cs.getD j .dead) with | .dead => none | x => K x .none [])
      | .row _ _ xs => exN xs 0 fun x => unC s (ce x j) fun c => K c .none []
      | .none => none
    | .ptr k none 0 j, .agg ss => match lkE σ k with
      | .box _ cs => bif Nat.ble (j + ss.length) cs.length then K (.st (((view k 0 cs).drop j).take ss.length)) .none [] else none
      | .row _ _ xs => match j with
        | 0 => exN xs 0 fun x => unSt ss.length x (K (.dt x) .none [])
        | j => exN xs 0 fun x => unCs x j ss fun cs => K (.st cs) .none []
      | .none => none
    | .ptr k c i j, .c s => match obRow (lkE σ) k c with
      | some (_, _, xs) => exN xs i fun x => unC s (ce x j) fun c => K c .none []
      | none => none
    | .ptr k c i j, .agg ss => match obRow (lkE σ) k c with
      | some (_, _, xs) => match j with
        | 0 => exN xs i fun x => unSt ss.length x (K (.dt x) .none [])
        | j => exN xs i fun x => unCs x j ss fun cs => K (.st cs) .none []
      | none => none
    | .rp x j, .c s => unC s (ce x j) fun c => K c .none []
    | .rp x 0, .agg ss => unSt ss.length x (K (.dt x) .none [])
    | .rp x j, .agg ss => unCs x j ss fun cs => K (.st cs) .none []
    | .sg k c (.pl i), .c _ => (match segAt (lkE σ) k c with
      | some (.el _, _) => none
      | some (_, _) => K (.sg k c (.el i)) .none []
      | none => none)
    | _, _ => none) = some r) : Good P T U w0 F0 σ a w o d K r := by
  have hv := val_sr h p
  -- an element of a row
  have elem : ∀ (k : Nat) (c : Option Nat) (i j : Nat) (oo : Bool) (z : Nat) (xs : List V) (x : V), val T σ p = .ptr k c i j → obRow (fun k => σ.ob.getD k .none) k c = some (oo, z, xs) → xs[i]? = some x →
      ∃ ecs, At w (ow k c) (i * z) ecs ∧ FR w (Fz U w ow σ.ob) ecs x ∧ a.eval p = .pointer (some ⟨ow k c, i * z + j, none⟩) := fun k c i j oo z xs x hp hr hx => by
    rw [hp] at hv
    obtain ⟨cp, hrow⟩ := h.ho.row hr
    obtain ⟨ecs, _, h2, h3⟩ := hrow.at_ i x hx
    exact ⟨ecs, h2, h3, SC.ptrRow hv hr⟩
  have row1 : ∀ (k : Nat) (c : Option Nat) (i j : Nat) (oo : Bool) (z : Nat) (xs : List V) (s : Sh), val T σ p = .ptr k c i j → T.ty t = .c s → obRow (fun k => σ.ob.getD k .none) k c = some (oo, z, xs) →
      exN xs i (fun x => unC s (ce x j) fun c => K c .none []) = some r → Good P T U w0 F0 σ a w o d K r := fun k c i j oo z xs s hp ht hr he => by
    obtain ⟨x, hx, he⟩ := exN_some he
    obtain ⟨ecs, h1, h2, h3⟩ := elem k c i j oo z xs x hp hr hx
    exact load_elem hT h ho h1 h2 h3 ht he
  have rowA : ∀ (k : Nat) (c : Option Nat) (i j : Nat) (oo : Bool) (z : Nat) (xs : List V) (ss : List Sh), val T σ p = .ptr k c i j → T.ty t = .agg ss → obRow (fun k => σ.ob.getD k .none) k c = some (oo, z, xs) →
      (match j with
        | 0 => exN xs i fun x => unSt ss.length x (K (.dt x) .none [])
        | j => exN xs i fun x => unCs x j ss fun cs => K (.st cs) .none []) = some r → Good P T U w0 F0 σ a w o d K r := fun k c i j oo z xs ss hp ht hr he => by
    split at he
    · obtain ⟨x, hx, he⟩ := exN_some he
      obtain ⟨ecs, h1, h2, h3⟩ := elem k c i 0 oo z xs x hp hr hx
      exact load_whole hT h ho h1 h2 h3 ht he
    · obtain ⟨x, hx, he⟩ := exN_some he
      obtain ⟨ecs, h1, h2, h3⟩ := elem k c i _ oo z xs x hp hr hx
      exact load_part hT h ho h1 h2 h3 ht he
  have frz : ∀ (x : V) (j : Nat), val T σ p = .rp x j → ∃ b off ecs, At w b off ecs ∧ FR w (Fz U w ow σ.ob) ecs x ∧ a.eval p = .pointer (some ⟨b, off + j, none⟩) := fun x j hp => by
    rw [hp] at hv
    have hv' : FR w (Fz U w ow σ.ob) [a.eval p] (.rp x j) := hv
    generalize a.eval p = u at hv'
    cases hv' with
    | rp hA hc hx => exact ⟨_, _, _, hc, hx, rfl⟩
  split at hk
  · -- one cell of a box, or of the first element of a row
    rename_i k j s hp ht
    split at hk
    · rename_i b cs hb
      obtain ⟨b', cs', hb', rfl⟩ := lkE_box hb
      have hjl : j < cs'.length := by
        by_cases hj : j < cs'.length
        · exact hj
        · exfalso
          have : (cs'.map eC).getD j .dead = .dead := by simp [List.getD_eq_getElem?_getD, List.getElem?_eq_none (by omega : cs'.length ≤ j)]
          rw [this] at hk
          simp [viewC] at hk
      obtain ⟨u, hu, hsc⟩ := box_cell h hb' hjl
      rw [hp] at hv
      have hptr : a.eval p = .pointer (some ⟨ow k none, j, none⟩) := by
        rcases hv with ⟨o', cs'', _, _, e⟩ | ⟨o', z, xs, e, _⟩
        · exact e
        · rw [hb'] at e; cases e
      have hrun : (Instr.loadAt t (a.eval p)).run P w = .ok u w := by
        rw [hptr]
        simp [Instr.loadAt, Instr.sureAddr, loadVar, isAgg_false hT ht, hu]
      generalize viewC k j ((cs'.map eC).getD j .dead) = y at hk hsc
      have hsr : SR w (Fz U w ow σ.ob) ow σ.ob u y := by
        cases y <;> first | exact hsc | exact hsc.elim
      have : K y .none [] = some r := by cases y <;> first | exact hk | cases hk
      exact ⟨y, .none, [], this, fun _ => done_plain h (exec_load ho hrun) hsr⟩
    · rename_i b z xs hb
      obtain ⟨b', hb'⟩ := lkE_row hb
      exact row1 k none 0 j b' z xs s hp ht (obRow_none.2 hb') hk
    · cases hk
  · rename_i k j ss hp ht
    split at hk
    · rename_i b cs hb
      obtain ⟨b', cs', hb', rfl⟩ := lkE_box hb
      obtain ⟨hle, hK⟩ := bif_some hk
      have hle := Nat.le_of_ble_eq_true hle
      rw [List.length_map] at hle
      rw [hp] at hv
      have hptr : a.eval p = .pointer (some ⟨ow k none, j, none⟩) := by
        rcases hv with ⟨o', cs'', _, _, e⟩ | ⟨o', z, xs, e, _⟩
        · exact e
        · rw [hb'] at e; cases e
      classical
      have hex : ∀ q : Nat, ∃ u, q < ss.length → w.cell? ⟨ow k none, j + q, none⟩ = some u ∧ SC w (Fz U w ow σ.ob) ow σ.ob u (viewC k (j + q) ((cs'.map eC).getD (j + q) .dead)) := fun q => by
        by_cases hq : q < ss.length
        · obtain ⟨u, h1, h2⟩ := box_cell h hb' (j := j + q) (by omega)
          exact ⟨u, fun _ => ⟨h1, h2⟩⟩
        · exact ⟨undef, fun hh => absurd hh hq⟩
      obtain ⟨f, hf⟩ := Classical.axiomOfChoice hex
      let ecs := (List.range ss.length).map f
      have hl : ecs.length = ss.length := by simp [ecs]
      have hA : At w (ow k none) j ecs := fun q u hu => by
        simp only [ecs, List.getElem?_map] at hu
        by_cases hq : q < ss.length
        · rw [List.getElem?_range hq] at hu
          simp at hu; subst hu
          exact (hf q hq).1
        · rw [List.getElem?_eq_none (by simp; omega)] at hu; simp at hu
      refine ⟨_, .none, [], hK, fun _ => done_plain h (exec_load ho (by rw [hptr]; exact loadA_fr hT ht hA hl)) ?_⟩
      have hvl : ∀ (cs : List V) (j : Nat), (view k j cs).length = cs.length := fun cs => by
        induction cs with
        | nil => intro j; rfl
        | cons c cs ih => intro j; simp [view, ih]
      refine ⟨ecs.toArray, rfl, by simp only [List.size_toArray, List.length_take, List.length_drop, hvl, List.length_map]; omega, fun q u y hu hy => ?_⟩
      have hq : q < ss.length := by
        have := (List.getElem?_eq_some_iff.1 hy).1
        simp only [List.length_take, List.length_drop] at this
        omega
      have hu' : u = f q := by
        simp only [List.getElem?_toArray, ecs, List.getElem?_map, List.getElem?_range hq, Option.map_some, Option.some.injEq] at hu
        exact hu.symm
      subst hu'
      rw [List.getElem?_take, if_pos hq, List.getElem?_drop, view_get, Nat.zero_add] at hy
      have hsc := (hf q hq).2
      rw [List.getD_eq_getElem?_getD] at hsc
      cases hc : (cs'.map eC)[j + q]? with
      | none => rw [hc] at hy; simp at hy
      | some c =>
        rw [hc] at hy hsc
        simp only [Option.map_some, Option.some.injEq] at hy
        subst hy
        exact hsc
    · rename_i b z xs hb
      obtain ⟨b', hb'⟩ := lkE_row hb
      exact rowA k none 0 j b' z xs ss hp ht (obRow_none.2 hb') hk
    · cases hk
  · rename_i k c i j s hnot hp ht
    split at hk
    · rename_i o' z xs hr
      obtain ⟨o'', hr'⟩ := obRow_eO hr
      exact row1 k c i j o'' z xs s hp ht hr' hk
    · cases hk
  · rename_i k c i j ss hnot hp ht
    split at hk
    · rename_i o' z xs hr
      obtain ⟨o'', hr'⟩ := obRow_eO hr
      exact rowA k c i j o'' z xs ss hp ht hr' hk
    · cases hk
  · rename_i x j s hp ht
    obtain ⟨b, off, ecs, h1, h2, h3⟩ := frz x j hp
    exact load_elem hT h ho h1 h2 h3 ht hk
  · rename_i x ss hp ht
    obtain ⟨b, off, ecs, h1, h2, h3⟩ := frz x 0 hp
    exact load_whole hT h ho h1 h2 h3 ht hk
  · rename_i x j ss hj hp ht
    obtain ⟨b, off, ecs, h1, h2, h3⟩ := frz x _ hp
    exact load_part hT h ho h1 h2 h3 ht hk
  · rename_i k c i s hp ht
    have key : ∀ l xs, segAt (lkE σ) k c = some (l, xs) → (∀ j, l ≠ .el j) → K (.sg k c (.el i)) .none [] = some r → Good P T U w0 F0 σ a w o d K r := fun l xs hs hl hK => by
      have hs := segAt_eO hs
      rw [hp] at hv
      obtain ⟨l', xs', e1, e2, e3⟩ := hv
      rw [hs] at e1
      cases e1
      obtain ⟨v, _, hseg⟩ := h.seg hs
      obtain ⟨u, g1, g2⟩ := hseg.hl i _ (List.getElem?_eq_getElem e2) (hl i)
      refine ⟨_, .none, [], hK, fun _ => done_plain h (exec_load ho (u := u) ?_) ⟨hseg.lt, l, xs, _, hs, List.getElem?_eq_getElem e2, g2⟩⟩
      rw [e3]
      simp [Instr.loadAt, Instr.sureAddr, loadVar, isAgg_false hT ht, g1]
    split at hk
    · cases hk
    · rename_i l xs hl hs
      exact key _ _ hs (fun j e => hl j e) hk
    · cases hk
  · cases hk

theorem q_load (hT : TOk P T) (h : Sim T.globL U w0 F0 σ a w ow) {t : TypeId} {p : Operand} (ho : o.op = .load t p)
    (hk : (match ldRow (lkE σ) (val T σ p) with
   | some (xs, i, j) => (match T.ty t with
    | .c s => exN xs i fun x => unC s (ce x j) fun c => K c .none []
    | .agg ss => (match j with
      | 0 => exN xs i fun x => unSt ss.length x (K (.dt x) .none [])
      | j => exN xs i fun x => unCs x j ss fun cs => K (.st cs) .none [])
    | _ => none)
   | none => match val T σ p, T.ty t with
    | .ptr k none 0 j, .c s => match lkE σ k with
      | .box _ cs => (match viewC k j (cs.getD j .dead) with | .dead => none | x => K x .none [])
      | .row _ _ xs => exN xs 0 fun x => unC s (ce x j) fun c => K c .none []
      | .none => none
    | .ptr k none 0 j, .agg ss => match lkE σ k with
      | .box _ cs => bif Nat.ble (j + ss.length) cs.length then K (.st (((view k 0 cs).drop j).take ss.length)) .none [] else none
      | .row _ _ xs => match j with
        | 0 => exN xs 0 fun x => unSt ss.length x (K (.dt x) .none [])
        | j => exN xs 0 fun x => unCs x j ss fun cs => K (.st cs) .none []
      | .none => none
    | .ptr k c i j, .c s => match obRow (lkE σ) k c with
      | some (_, _, xs) => exN xs i fun x => unC s (ce x j) fun c => K c .none []
      | none => none
    | .ptr k c i j, .agg ss => match obRow (lkE σ) k c with
      | some (_, _, xs) => match j with
        | 0 => exN xs i fun x => unSt ss.length x (K (.dt x) .none [])
        | j => exN xs i fun x => unCs x j ss fun cs => K (.st cs) .none []
      | none => none
    | .rp x j, .c s => unC s (ce x j) fun c => K c .none []
    | .rp x 0, .agg ss => unSt ss.length x (K (.dt x) .none [])
    | .rp x j, .agg ss => unCs x j ss fun cs => K (.st cs) .none []
    | .sg k c (.pl i), .c _ => (match segAt (lkE σ) k c with
      | some (.el _, _) => none
      | some (_, _) => K (.sg k c (.el i)) .none []
      | none => none)
    | _, _ => none) = some r) : Good P T U w0 F0 σ a w o d K r := by
  have hv := val_sr h p
  -- an element of a row
  have elem : ∀ (k : Nat) (c : Option Nat) (i j : Nat) (oo : Bool) (z : Nat) (xs : List V) (x : V), val T σ p = .ptr k c i j → obRow (fun k => σ.ob.getD k .none) k c = some (oo, z, xs) → xs[i]? = some x →
      ∃ ecs, At w (ow k c) (i * z) ecs ∧ FR w (Fz U w ow σ.ob) ecs x ∧ a.eval p = .pointer (some ⟨ow k c, i * z + j, none⟩) := fun k c i j oo z xs x hp hr hx => by
    rw [hp] at hv
    obtain ⟨cp, hrow⟩ := h.ho.row hr
    obtain ⟨ecs, _, h2, h3⟩ := hrow.at_ i x hx
    exact ⟨ecs, h2, h3, SC.ptrRow hv hr⟩
  have row1 : ∀ (k : Nat) (c : Option Nat) (i j : Nat) (oo : Bool) (z : Nat) (xs : List V) (s : Sh), val T σ p = .ptr k c i j → T.ty t = .c s → obRow (fun k => σ.ob.getD k .none) k c = some (oo, z, xs) →
      exN xs i (fun x => unC s (ce x j) fun c => K c .none []) = some r → Good P T U w0 F0 σ a w o d K r := fun k c i j oo z xs s hp ht hr he => by
    obtain ⟨x, hx, he⟩ := exN_some he
    obtain ⟨ecs, h1, h2, h3⟩ := elem k c i j oo z xs x hp hr hx
    exact load_elem hT h ho h1 h2 h3 ht he
  have rowA : ∀ (k : Nat) (c : Option Nat) (i j : Nat) (oo : Bool) (z : Nat) (xs : List V) (ss : List Sh), val T σ p = .ptr k c i j → T.ty t = .agg ss → obRow (fun k => σ.ob.getD k .none) k c = some (oo, z, xs) →
      (match j with
        | 0 => exN xs i fun x => unSt ss.length x (K (.dt x) .none [])
        | j => exN xs i fun x => unCs x j ss fun cs => K (.st cs) .none []) = some r → Good P T U w0 F0 σ a w o d K r := fun k c i j oo z xs ss hp ht hr he => by
    split at he
    · obtain ⟨x, hx, he⟩ := exN_some he
      obtain ⟨ecs, h1, h2, h3⟩ := elem k c i 0 oo z xs x hp hr hx
      exact load_whole hT h ho h1 h2 h3 ht he
    · obtain ⟨x, hx, he⟩ := exN_some he
      obtain ⟨ecs, h1, h2, h3⟩ := elem k c i _ oo z xs x hp hr hx
      exact load_part hT h ho h1 h2 h3 ht he
  split at hk
  · rename_i xs i j hld
    have : ∃ k c oo z, val T σ p = .ptr k c i j ∧ obRow (lkE σ) k c = some (oo, z, xs) := by
      unfold ldRow at hld
      split at hld
      · rename_i k c i' j' hp
        split at hld
        · rename_i oo z xs' hr
          cases hld
          exact ⟨k, c, oo, z, hp, hr⟩
        · cases hld
      · cases hld
    obtain ⟨k, c, oo, z, hp, hr⟩ := this
    obtain ⟨o'', hr'⟩ := obRow_eO hr
    split at hk
    · rename_i s ht; exact row1 k c i j o'' z xs s hp ht hr' hk
    · rename_i ss ht; exact rowA k c i j o'' z xs ss hp ht hr' hk
    · cases hk
  · exact q_load0 hT h ho hk

theorem add_addr (b o j : Nat) : (⟨b, o, none⟩ : Addr).add j = ⟨b, o + j, none⟩ := Addr.add_mid b o j

theorem q_fieldAddr (hT : TOk P T) (h : Sim T.globL U w0 F0 σ a w ow) {t : TypeId} {p : Operand} {f : Nat} (ho : o.op = .fieldAddr t p f)
    (hk : (match T.off t f, val T σ p with
    | some (off, _), .ptr k c i j => K (.ptr k c i (j + off)) .none []
    | some (off, _), .rp x j => K (.rp x (j + off)) .none []
    | _, _ => none) = some r) : Good P T U w0 F0 σ a w o d K r := by
  have hv := val_sr h p
  have run : ∀ (off b q : Nat), (∃ z, T.off t f = some (off, z)) → a.eval p = .pointer (some ⟨b, q, none⟩) → (Instr.fieldAt t (a.eval p) f).run P w = .ok (.pointer (some ⟨b, q + off, none⟩)) w := fun off b q ⟨z, hoff⟩ he => by
    obtain ⟨fs, fd, i, h1, h2, h3, h4, h5, h6⟩ := hT.offz t f off z hoff
    rw [he]
    have h7 : i.size ≠ 0 := by omega
    simp [Instr.fieldAt, run_underlying h1, h2, Instr.sureAddr, fieldPlace, sizeOf, typeInfo, h4, h7, h3, add_addr]
  split at hk
  · rename_i off z0 k c i j hoff hp
    rw [hp] at hv
    refine ⟨_, .none, [], hk, fun _ => ?_⟩
    cases c with
    | none =>
      rcases hv with ⟨o', cs, h1, rfl, e⟩ | ⟨o', z, xs, h1, e⟩
      · exact done_plain h (exec_fieldAddr ho (run off _ _ ⟨_, hoff⟩ e)) (.inl ⟨o', cs, h1, rfl, rfl⟩)
      · exact done_plain h (exec_fieldAddr ho (run off _ _ ⟨_, hoff⟩ e)) (.inr ⟨o', z, xs, h1, by rw [Nat.add_assoc]⟩)
    | some c =>
      obtain ⟨o', z, xs, h1, e⟩ := hv
      exact done_plain h (exec_fieldAddr ho (run off _ _ ⟨_, hoff⟩ e)) ⟨o', z, xs, h1, by rw [Nat.add_assoc]⟩
  · rename_i off z0 x j hoff hp
    rw [hp] at hv
    have hv' : FR w (Fz U w ow σ.ob) [a.eval p] (.rp x j) := hv
    refine ⟨_, .none, [], hk, fun _ => ?_⟩
    generalize hu : a.eval p = u at hv'
    cases hv' with
    | rp hA hc hx =>
      refine done_plain h (exec_fieldAddr ho (run off _ _ ⟨_, hoff⟩ hu)) ?_
      show FR _ _ _ _
      rw [Nat.add_assoc]
      exact .rp hA hc hx
  · cases hk

theorem at_shift {b off i z : Nat} {ecs : List Value} (h : At w b (off + i * z) ecs) : At w b (off + i * z) ecs := h

theorem q_indexAddr (hT : TOk P T) (h : Sim T.globL U w0 F0 σ a w ow) {t : TypeId} {p q : Operand} (ho : o.op = .indexAddr t p q)
    (hk : (match T.el t, T.arr t, val T σ p with
    | some (_, z), _, .sl z' xs => bif Nat.beq z z' then asI (val T σ q) fun i => ix xs i fun x => K (.rp x 0) .none [] else none
    | some (_, z), _, .ref k c m => match obRow (lkE σ) k c with
      | some (_, z', xs) => bif Nat.beq z z' then asI (val T σ q) fun i => chk (decide (0 ≤ i) && decide (i < cutLen xs m)) (K (.ptr k c i.toNat 0) .none []) else none
      | none => none
    | some (_, z), _, .sg k c .hd => match segAt (lkE σ) k c with
      | some (_, xs) => bif Nat.beq z 1 then asI (val T σ q) fun i => chk (decide (0 ≤ i) && decide (i < xs.length)) (K (.sg k c (.pl i.toNat)) .none []) else none
      | none => none
    | none, some (n, z), .rp x j => asI (val T σ q) fun i => chk (decide (0 ≤ i) && decide (i < n)) (K (.rp x (j + i.toNat * z)) .none [])
    | _, _, _ => none) = some r) : Good P T U w0 F0 σ a w o d K r := by
  have hv := val_sr h p
  split at hk
  · rename_i e z z' xs hel hp
    obtain ⟨hz, hk2⟩ := bif_some hk
    cases beq_nat.1 hz
    obtain ⟨ik, i, hq, hk3⟩ := asI_some hk2
    obtain ⟨n, rfl, x, hx, hk4⟩ := ix_some hk3
    obtain ⟨hq', _⟩ := val_sc h hq
    obtain ⟨ii, h1, h2, h3, _⟩ := hT.el t e z hel
    rw [hp] at hv
    have hv' : FR w (Fz U w ow σ.ob) [a.eval p] (.sl z xs) := hv
    refine ⟨_, .none, [], hk4, fun _ => ?_⟩
    generalize hu : a.eval p = u at hv'
    cases hv' with
    | sl b off ec hn hc ha hl hfr =>
      have hlt : n < xs.length := (List.getElem?_eq_some_iff.1 hx).1
      rw [hn] at hlt
      obtain ⟨rfl, hA⟩ := ha (by omega)
      refine done_plain h (exec_indexAddr ho (u := .pointer (some ⟨b, off + n * z, none⟩)) ?_) ?_
      · rw [hu, hq']
        simp [Instr.indexAt, asIntOf, run_underlying h1, sizeOf, typeInfo, h2, h3, add_addr]
        omega
      · have hr := FR.rp (j := 0) hA (hl n hlt).2 (hfr n x hx)
        exact hr
  · rename_i e z k c m hel hp
    split at hk
    · rename_i o' z' xs hr
      obtain ⟨o'', hr'⟩ := obRow_eO hr
      obtain ⟨hz, hk2⟩ := bif_some hk
      cases beq_nat.1 hz
      obtain ⟨ik, i, hq, hk3⟩ := asI_some hk2
      obtain ⟨hi, hk4⟩ := chk_some hk3
      simp only [Bool.and_eq_true, decide_eq_true_eq] at hi
      obtain ⟨hq', _⟩ := val_sc h hq
      obtain ⟨ii, h1, h2, h3, _⟩ := hT.el t e z hel
      rw [hp] at hv
      obtain ⟨o3, z3, xs3, cp, e1, e2, e3, e4, e5⟩ := hv
      have hr'' : obRow (fun k => σ.ob.getD k .none) k c = some (o'', z, xs) := hr'
      rw [hr''] at e1
      cases e1
      refine ⟨_, .none, [], hk4, fun _ => ?_⟩
      refine done_plain h (exec_indexAddr ho (u := .pointer (some ⟨ow k c, i.toNat * z, none⟩)) ?_) ?_
      · rw [e2, hq']
        simp [Instr.indexAt, asIntOf, run_underlying h1, sizeOf, typeInfo, h2, h3, add_addr]
        omega
      · cases c with
        | none => exact .inr ⟨o'', z, xs, obRow_none.1 hr'', rfl⟩
        | some c => exact ⟨o'', z, xs, hr'', rfl⟩
    · cases hk
  · rename_i e z k c hel hp
    split at hk
    · rename_i l xs hs
      have hs := segAt_eO hs
      obtain ⟨hz, hk2⟩ := bif_some hk
      have hz := beq_nat.1 hz
      subst hz
      obtain ⟨ik, i, hq, hk3⟩ := asI_some hk2
      obtain ⟨hi, hk4⟩ := chk_some hk3
      simp only [Bool.and_eq_true, decide_eq_true_eq] at hi
      obtain ⟨hq', _⟩ := val_sc h hq
      obtain ⟨ii, h1, h2, h3, _⟩ := hT.el t e 1 hel
      rw [hp] at hv
      obtain ⟨l', xs', cp, e1, e2, e3, e4⟩ := hv
      rw [hs] at e1
      cases e1
      refine ⟨_, .none, [], hk4, fun _ => ?_⟩
      refine done_plain h (exec_indexAddr ho (u := .pointer (some ⟨ow k (some c), i.toNat, none⟩)) ?_) ⟨l, xs, hs, by omega, rfl⟩
      rw [e2, hq']
      simp [Instr.indexAt, asIntOf, run_underlying h1, sizeOf, typeInfo, h2, h3, add_addr]
      omega
    · cases hk
  · rename_i n z x j hel harr hp
    obtain ⟨ik, i, hq, hk⟩ := asI_some hk
    obtain ⟨hi, hk⟩ := chk_some hk
    simp only [Bool.and_eq_true, decide_eq_true_eq] at hi
    obtain ⟨hq', _⟩ := val_sc h hq
    obtain ⟨e, ii, h1, h2, h3⟩ := hT.arr t n z harr
    rw [hp] at hv
    have hv' : FR w (Fz U w ow σ.ob) [a.eval p] (.rp x j) := hv
    refine ⟨_, .none, [], hk, fun _ => ?_⟩
    generalize hu : a.eval p = u at hv'
    cases hv' with
    | rp hA hc hx =>
      rename_i b off ecs
      refine done_plain h (exec_indexAddr ho (u := .pointer (some ⟨b, off + (j + i.toNat * z), none⟩)) ?_) (.rp hA hc hx)
      rw [hu, hq']
      have hi2 : ¬ (i < 0) := by omega
      simp [Instr.indexAt, asIntOf, run_underlying h1, sizeOf, typeInfo, h2, h3, add_addr, Instr.sureAddr, hi.1, hi.2, Nat.add_assoc]
  · cases hk

theorem q_index (hT : TOk P T) (h : Sim T.globL U w0 F0 σ a w ow) {t : TypeId} {p q : Operand} (ho : o.op = .index t p q)
    (hk : (match val T σ p with
    | .sc (.string s) => bif isStrTy (T.ty t) then asI (val T σ q) fun i => ixS s i fun b => K (.sc (.int .u8 b)) .none [] else none
    | _ => none) = some r) : Good P T U w0 F0 σ a w o d K r := by
  split at hk
  · rename_i s hp
    obtain ⟨hty, hk⟩ := bif_some hk
    obtain ⟨ik, i, hq, hk⟩ := asI_some hk
    obtain ⟨n, rfl, b, hb, hk⟩ := ixS_some hk
    obtain ⟨hp', _⟩ := val_sc h hp
    obtain ⟨hq', _⟩ := val_sc h hq
    have hty' : T.ty t = .c .tx := by
      unfold isStrTy at hty
      split at hty
      · assumption
      · cases hty
    obtain ⟨dd, ii, h1, _, _, _, h2⟩ := hT.tyc t _ hty'
    have h2 : dd = .string := h2
    subst h2
    refine ⟨_, .none, [], hk, fun _ => done_plain h (exec_index ho ?_) (FR.sc rfl : FR w (Fz U w ow σ.ob) [.int .u8 b.toNat] (.sc (.int .u8 b.toNat)))⟩
    rw [hp', hq']
    simp [Instr.index, asIntOf, run_underlying h1, hb]
  · cases hk

theorem q_extract (h : Sim T.globL U w0 F0 σ a w ow) {p : Operand} {i : Nat} (ho : o.op = .extract p i)
    (hk : (match val T σ p with
    | .tup vs => (match vs.getD i .dead with | .dead => none | x => K x .none [])
    | _ => none) = some r) : Good P T U w0 F0 σ a w o d K r := by
  have hv := val_sr h p
  split at hk
  · rename_i vs hp
    rw [hp] at hv
    obtain ⟨arr, e1, e2, e3⟩ := hv
    rw [List.getD_eq_getElem?_getD] at hk
    cases hi : vs[i]? with
    | none => rw [hi] at hk; simp at hk
    | some y =>
      rw [hi] at hk
      simp only [Option.getD_some] at hk
      have hlt := (List.getElem?_eq_some_iff.1 hi).1
      have hu : arr[i]? = some (arr[i]'(by omega)) := Array.getElem?_eq_getElem (by omega)
      have hsv := e3 i _ y hu hi
      have hK : K y .none [] = some r := by cases y <;> first | exact hk | cases hk
      refine ⟨y, .none, [], hK, fun _ => done_plain h (exec_extract ho (u := arr[i]'(by omega)) ?_) ?_⟩
      · rw [e1]; simp [Instr.extract, hu]
      · cases y <;> first | exact hsv | exact (hsv : False).elim
  · cases hk
end

end Go.Proofs.YtaapkkeogajfpaaDoor.VM
