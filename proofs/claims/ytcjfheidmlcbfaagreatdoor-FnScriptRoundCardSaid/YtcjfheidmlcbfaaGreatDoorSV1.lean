/- An abstract interpreter of the program's operations over values (no memory): definitions alone. -/
import Derived.Calls
import Derived.RowKit
import Derived.KernelRfl
import Derived.Deep.Quiet
set_option linter.unusedVariables false
namespace Go.Proofs.YtcjfheidmlcbfaaGreatDoor.V
open Go.RowKit

/-- Kinds of data. -/
inductive Ty where
  | int (k : IntKind)
  | bool
  | str
  | sl (t : Ty)
  | pair (a b : Ty)
  deriving DecidableEq

@[reducible] def Ty.den : Ty → Type
  | .int _ => Int
  | .bool => Bool
  | .str => ByteArray
  | .sl t => List t.den
  | .pair a b => a.den × b.den

def Ty.width : Ty → Nat
  | .pair a b => a.width + b.width
  | _ => 1

/-- No memory behind it. -/
def Ty.flat : Ty → Bool
  | .sl _ => false
  | .pair a b => a.flat && b.flat
  | _ => true

def Ty.zero : (t : Ty) → t.den
  | .int _ => (0 : Int)
  | .bool => false
  | .str => ByteArray.empty
  | .sl _ => []
  | .pair a b => (a.zero, b.zero)

/-- What one cell of memory, or one temporary, is known to hold. -/
inductive Cell where
  | int (k : IntKind) (n : Int)
  | lit (b : Bool)
  | bool (b : Bool)
  | nbool (b : Bool)
  | prop (p : Prop) (d : Decidable p)
  | nprop (p : Prop) (d : Decidable p)
  | str (s : ByteArray)
  | nil
  | emp
  | sl (f : Bool) (t : Ty) (l : List t.den)
  | own (b : Nat)
  | ptr (b o : Nat)
  | eptr (b i o : Nat)
  | nst (b i o v : Nat)
  | neptr (b i o v j q : Nat)
  | nsv (b i o v lo : Nat)
  | sptr (f : Bool) (t : Ty) (x : t.den) (o : Nat)
  | fn (f : FuncId) (caps : List ((t : Ty) × t.den))
  | fnp (f : FuncId) (caps : List Nat)
  | isn (n : Nat)
  | nisn (n : Nat)
  | un
  | undef

inductive AV where
  | c (x : Cell)
  | agg (l : List Cell)
  | tup (l : List (Bool × List Cell))

/-- How what a row's elements lead to is held: by it alone; the call's own make, read only; anybody's. -/
inductive Md where
  | un
  | fr
  | sh
def Md.eqb : Md → Md → Bool
  | .un, .un => true
  | .fr, .fr => true
  | .sh, .sh => true
  | _, _ => false
def Md.join : Md → Md → Md
  | .un, m => m
  | .fr, .un => .fr
  | .fr, m => m
  | .sh, _ => .sh
def Md.isUn : Md → Bool
  | .un => true
  | _ => false
def Md.isSh : Md → Bool
  | .sh => true
  | _ => false
def mdOf (f : Bool) : Md := cond f .fr .sh

/-- A block of the call's own: gone; one of named cells (a variable); a row that a slice stands for (its elements' kind, what they are, how what they lead to is held, a count of the changes to their slices, a place taken out); one of which the elements below n hold what they lead to alone, the others lead to anybody's. -/
inductive Blk where
  | dead
  | cells (ty : Nat) (l : List Cell)
  | arr (t : Ty) (l : List t.den) (m : Md) (v : Nat) (h : Option (Nat × Nat))
  | mix (t : Ty) (l : List t.den) (n : Nat)
  | bld (t u : Nat) (s : ByteArray)

def Blk.live : Blk → Bool
  | .dead => false
  | _ => true
def Blk.full : Blk → Bool
  | .arr _ _ _ _ (some _) => false
  | _ => true

structure St where
  tmps : List (Nat × AV)
  heap : List Blk

inductive TK where
  | int (k : IntKind)
  | bool
  | str
  | slice (e : Nat)
  | struct
  | arr (n e : Nat)
  | bld (u : Nat)
  | other

structure TI where
  k : TK
  size : Nat
  bytes : Nat
  ty : Option Ty
  offs : List (Nat × Nat)
  zero : List Cell
  eq : Bool

def TI.agg (t : TI) : Bool := match t.k with | .struct => true | .arr _ _ => true | .bld _ => true | _ => false
def TK.isBld : TK → Bool
  | .bld _ => true
  | _ => false

def look : List (Nat × AV) → Nat → AV
  | [], _ => .c .undef
  | (i, v) :: r, t => cond (Nat.beq i t) v (look r t)

def St.get (s : St) (t : Nat) : AV := look s.tmps t
def St.put (s : St) (d : Option Nat) (v : AV) : St :=
  match d with
  | none => s
  | some d => ⟨(d, v) :: s.tmps, s.heap⟩

def constCell : Value → Cell
  | .int k n => .int k n
  | .bool b => .lit b
  | .string s => .str s
  | .slice none 0 0 => .nil
  | _ => .undef
def ofConst : Value → AV
  | .agg cs => .agg (cs.toList.map constCell)
  | .tuple _ => .c .undef
  | v => .c (constCell v)

def St.ev (s : St) : Operand → AV
  | .tmp t => s.get t
  | .const v => ofConst v
  | .global _ => .c .undef
  | .func f => .c (.fn f [])

def wrapK (k : IntKind) (n : Int) : Int :=
  match k with
  | .i64 => wrap64 n
  | .i8 => IntKind.wrap .i8 n
  | .i16 => IntKind.wrap .i16 n
  | .i32 => IntKind.wrap .i32 n
  | .u8 => IntKind.wrap .u8 n
  | .u16 => IntKind.wrap .u16 n
  | .u32 => IntKind.wrap .u32 n
  | .u64 => IntKind.wrap .u64 n

def bt (s : ByteArray) (i : Int) : Int := if h : i.toNat < s.size then ((s[i.toNat]'h).toNat : Int) else 0
def mx (a b : Int) : Int := if a < b then b else a
def mn (a b : Int) : Int := if b < a then b else a
def bitAnd (k : IntKind) (a b : Int) : Int := k.wrap (BitVec.ofInt k.bits a &&& BitVec.ofInt k.bits b).toNat
def bitOr (k : IntKind) (a b : Int) : Int := k.wrap (BitVec.ofInt k.bits a ||| BitVec.ofInt k.bits b).toNat
def bitXor (k : IntKind) (a b : Int) : Int := k.wrap (BitVec.ofInt k.bits a ^^^ BitVec.ofInt k.bits b).toNat
def bitAndNot (k : IntKind) (a b : Int) : Int := k.wrap (BitVec.ofInt k.bits a &&& ~~~ BitVec.ofInt k.bits b).toNat
def shl (k : IntKind) (x y : Int) : Int := k.wrap (x * 2 ^ min y.toNat k.bits)
def shr (k : IntKind) (x y : Int) : Int := x / 2 ^ min y.toNat k.bits

def Cell.toB : Cell → Option Bool
  | .lit b => some b
  | .bool b => some b
  | .nbool b => some (!b)
  | .prop p d => some (@decide p d)
  | .nprop p d => some (!(@decide p d))
  | _ => none

def enc (f : Bool) : (t : Ty) → t.den → List Cell
  | .int k, n => [.int k n]
  | .bool, b => [.bool b]
  | .str, s => [.str s]
  | .sl t, l => [.sl f t l]
  | .pair a b, x => enc f a x.1 ++ enc f b x.2

/-- The cells of element i of a row (b, at version v). -/
def encM (m : Md) (b i v : Nat) : (t : Ty) → t.den → Nat → List Cell
  | .int k, n, _ => [.int k n]
  | .bool, b, _ => [.bool b]
  | .str, s, _ => [.str s]
  | .sl t, l, o => [match m with | .un => .nst b i o v | .fr => .sl true t l | .sh => .sl false t l]
  | .pair x y, p, o => encM m b i v x p.1 o ++ encM m b i v y p.2 (o + x.width)

def castL {t' t : Ty} (h : t' = t) (l : List t'.den) : List t.den := h ▸ l

/-- The slice at cell o of a datum. -/
def getF : (t : Ty) → t.den → Nat → Option ((t : Ty) × List t.den)
  | .sl t, l, 0 => some ⟨t, l⟩
  | .pair a b, x, o => cond (Nat.blt o a.width) (getF a x.1 o) (getF b x.2 (o - a.width))
  | _, _, _ => none
def setF : (t : Ty) → t.den → Nat → (u : Ty) → List u.den → Option t.den
  | .sl t, _, 0, u, l => if h : u = t then some (castL h l) else none
  | .pair a b, x, o, u, l => cond (Nat.blt o a.width) (match setF a x.1 o u l with | some y => some (y, x.2) | none => none) (match setF b x.2 (o - a.width) u l with | some y => some (x.1, y) | none => none)
  | _, _, _, _, _ => none

def dec : (t : Ty) → List Cell → Option t.den
  | .int k, cs => match cs with
    | [.int k' n] => if k' = k then some n else none
    | _ => none
  | .bool, cs => match cs with
    | [c] => c.toB
    | _ => none
  | .str, cs => match cs with
    | [.str s] => some s
    | _ => none
  | .sl t, cs => match cs with
    | [.sl _ t' l] => if h : t' = t then some (castL h l) else none
    | [.nil] => some []
    | _ => none
  | .pair a b, cs => match dec a (cs.take a.width) with
    | none => none
    | some x => match dec b (cs.drop a.width) with
      | none => none
      | some y => some (x, y)

/-- Whatever memory the cells lead to is the call's own make. -/
def freshC : Cell → Bool
  | .sl f _ _ => f
  | .sptr f _ _ _ => f
  | .fn _ l => match l with | [] => true | _ => false
  | _ => true
def fresh : List Cell → Bool
  | [] => true
  | c :: r => cond (freshC c) (fresh r) false

/-- A length that the kernel does not look into. -/
noncomputable def lenZ {α : Type} (l : List α) : Int := Classical.choose (⟨(l.length : Int), rfl⟩ : ∃ n : Int, n = (l.length : Int))
theorem lenZ_eq {α : Type} (l : List α) : lenZ l = (l.length : Int) := Classical.choose_spec (⟨(l.length : Int), rfl⟩ : ∃ n : Int, n = (l.length : Int))
noncomputable def lenI : (y : Ty) → List y.den → Int
  | .int .u32, l => lenZ l
  | .int .u8, l => lenZ l
  | _, l => (l.length : Int)
/-- .. of a row of the call's own: rows of three numbers an element are not looked into. -/
noncomputable def lenO : (y : Ty) → List y.den → Int
  | .pair (.int .i64) (.pair (.int .i64) (.int .i64)), l => lenZ l
  | _, l => (l.length : Int)
theorem lenO_eq (y : Ty) (l : List y.den) : lenO y l = (l.length : Int) := by
  unfold lenO
  split
  · exact lenZ_eq _
  · rfl
theorem lenI_eq (y : Ty) (l : List y.den) : lenI y l = (l.length : Int) := by
  unfold lenI
  split
  · exact lenZ_eq _
  · exact lenZ_eq _
  · rfl

noncomputable section
variable {R : Type}

open Classical in
/-- Both ways come to the same. -/
def sameO (x y : Option R) : Option R := if x = y then x else none

def condC (c : Cell) (x y : Option R) : Option R :=
  match c with
  | .lit b => match b with | true => x | false => y
  | .bool b => if b = true then x else y
  | .nbool b => if b = true then y else x
  | .prop p d => @ite _ p d x y
  | .nprop p d => @ite _ p d y x
  | .isn n => if n = 0 then sameO x y else y
  | .nisn n => if n = 0 then sameO x y else x
  | _ => none

def condA (c : AV) (x y : Option R) : Option R :=
  match c with
  | .c c => condC c x y
  | _ => none

def splitT (s : St) (t : Nat) (k : Bool → St → Option R) : Option R :=
  match s.get t with
  | .c (.lit b) => match b with | true => k true s | false => k false s
  | .c c => condC c (k true (s.put (some t) (.c (.lit true)))) (k false (s.put (some t) (.c (.lit false))))
  | _ => none

def guardK (ops : List Oper) (o : Oper) (s : St) (yes no : St → Option R) : Option R :=
  match o.guard with
  | none => yes s
  | some (j, want) => match (ops[j]?).bind (·.dst) with
    | none => none
    | some t => match s.get t with
      | .c .un => no s
      | _ => splitT s t fun b s' => cond (b == want) (yes s') (no s')

def mkV (agg : Bool) (cs : List Cell) (k : AV → Option R) : Option R :=
  match agg with
  | true => k (.agg cs)
  | false => match cs with
    | [x] => k (.c x)
    | _ => none

def cutK (ti : TI) (l : List Cell) (o : Nat) (k : AV → Option R) : Option R :=
  cond (Nat.ble (o + ti.size) l.length) (mkV ti.agg ((l.drop o).take ti.size) k) none

variable (T : Nat → Option TI)

def loadK (s : St) (t : Nat) (p : AV) (k : AV → Option R) : Option R :=
  match T t with
  | none => none
  | some ti => match p with
    | .c (.ptr b o) => match s.heap[b]? with
      | some (.cells _ l) => cutK ti l o k
      | _ => none
    | .c (.eptr b i o) => match s.heap[b]? with
      | some (.arr y l m v none) => cutK ti (encM m b i v y (l.getD i y.zero) 0) o k
      | some (.mix y l n) => if n ≤ i then cutK ti (enc false y (l.getD i y.zero)) o k else none
      | _ => none
    | .c (.sptr f y x o) => cutK ti (enc f y x) o k
    | .c (.neptr b i o v j q) => match s.heap[b]? with
      | some (.arr y l .un v' none) => cond (Nat.beq v' v) (match getF y (l.getD i y.zero) o with
        | some ⟨u, l'⟩ => cond u.flat (cutK ti (enc false u (l'.getD j u.zero)) q k) none
        | none => none) none
      | _ => none
    | _ => none

def fieldAddrK (s : St) (t : Nat) (p : AV) (f : Nat) (k : AV → Option R) : Option R :=
  match T t with
  | none => none
  | some ti => match ti.k, ti.offs[f]? with
    | .struct, some (off, sz) => cond (Nat.beq sz 0) none (match p with
      | .c (.ptr b o) => match s.heap[b]? with
        | some (.cells _ _) => k (.c (.ptr b (o + off)))
        | _ => none
      | .c (.eptr b i o) => match s.heap[b]? with
        | some (.arr _ _ _ _ _) => k (.c (.eptr b i (o + off)))
        | some (.mix _ _ _) => k (.c (.eptr b i (o + off)))
        | _ => none
      | .c (.sptr fl y x o) => k (.c (.sptr fl y x (o + off)))
      | .c (.neptr b i o v j q) => k (.c (.neptr b i o v j (q + off)))
      | _ => none)
    | _, _ => none

def indexAddrK (s : St) (t : Nat) (x i : AV) (k : AV → Option R) : Option R :=
  match T t with
  | none => none
  | some ti => match ti.k with
    | .slice e => match T e with
      | none => none
      | some te => match x, i with
        | .c (.sl f y l), .c (.int _ i) => cond (Nat.beq te.size y.width) (if 0 ≤ i then if i < (l.length : Int) then k (.c (.sptr f y (l.getD i.toNat y.zero) 0)) else none else none) none
        | .c (.own b), .c (.int _ i) => match s.heap[b]? with
          | some (.arr y l _ _ _) => cond (Nat.beq te.size y.width) (if 0 ≤ i then if i < (l.length : Int) then k (.c (.eptr b i.toNat 0)) else none else none) none
          | some (.mix y l _) => cond (Nat.beq te.size y.width) (if 0 ≤ i then if i < (l.length : Int) then k (.c (.eptr b i.toNat 0)) else none else none) none
          | _ => none
        | .c (.nst b i o v), .c (.int _ j) => match s.heap[b]? with
          | some (.arr y l .un v' none) => cond (Nat.beq v' v) (match getF y (l.getD i y.zero) o with
            | some ⟨u, l'⟩ => cond (Nat.beq te.size u.width) (if 0 ≤ j then if j < (l'.length : Int) then k (.c (.neptr b i o v j.toNat 0)) else none else none) none
            | none => none) none
          | _ => none
        | _, _ => none
    | _ => none

def ints (kd : IntKind) : List Cell → Option (List Int)
  | [] => some []
  | .int k n :: r => if k = kd then (match ints kd r with | some l => some (n :: l) | none => none) else none
  | _ => none

def indexK (t : Nat) (x i : AV) (k : AV → Option R) : Option R :=
  match T t with
  | none => none
  | some ti => match ti.k, x, i with
    | .str, .c (.str s), .c (.int _ i) => if 0 ≤ i then if i < (s.size : Int) then k (.c (.int .u8 (bt s i))) else none else none
    | .arr n _, .agg (.int kd a :: r), .c (.int _ i) => match ints kd (.int kd a :: r) with
      | some l => if 0 ≤ i then if i < (n : Int) then cond (Nat.beq (.int kd a :: r : List Cell).length n) (k (.c (.int kd (l.getD i.toNat 0)))) none else none else none
      | none => none
    | _, _, _ => none

def binI (op : BinOp) (kd : IntKind) (a b : Int) (k : AV → Option R) : Option R :=
  match op with
  | .add => k (.c (.int kd (wrapK kd (a + b))))
  | .sub => k (.c (.int kd (wrapK kd (a - b))))
  | .mul => k (.c (.int kd (wrapK kd (a * b))))
  | .quo => if b = 0 then none else k (.c (.int kd (wrapK kd (Int.tdiv a b))))
  | .rem => if b = 0 then none else k (.c (.int kd (Int.tmod a b)))
  | .and => k (.c (.int kd (bitAnd kd a b)))
  | .or => k (.c (.int kd (bitOr kd a b)))
  | .xor => k (.c (.int kd (bitXor kd a b)))
  | .andNot => k (.c (.int kd (bitAndNot kd a b)))
  | .eql => k (.c (.prop (a = b) (Int.instDecidableEq a b)))
  | .neq => k (.c (.nprop (a = b) (Int.instDecidableEq a b)))
  | .lss => k (.c (.prop (a < b) (Int.decLt a b)))
  | .leq => k (.c (.prop (a ≤ b) (Int.decLe a b)))
  | .gtr => k (.c (.prop (a > b) (Int.decLt b a)))
  | .geq => k (.c (.prop (a ≥ b) (Int.decLe b a)))
  | _ => none

def binS (op : BinOp) (a b : ByteArray) (k : AV → Option R) : Option R :=
  match op with
  | .add => if a.size + b.size ≤ 9223372036854775807 then k (.c (.str (a ++ b))) else none
  | .eql => k (.c (.prop (a = b) inferInstance))
  | .neq => k (.c (.nprop (a = b) inferInstance))
  | _ => none

/-- Equality of data is decided. -/
def Ty.deq : (t : Ty) → DecidableEq t.den
  | .int _ => (inferInstance : DecidableEq Int)
  | .bool => (inferInstance : DecidableEq Bool)
  | .str => (inferInstance : DecidableEq ByteArray)
  | .sl t => @instDecidableEqList t.den t.deq
  | .pair a b => @instDecidableEqProd a.den b.den a.deq b.deq

def binA (t : Nat) (op : BinOp) (x y : List Cell) (k : AV → Option R) : Option R :=
  match T t with
  | none => none
  | some ti => match ti.eq, ti.ty with
    | true, some ty => cond ty.flat (match dec ty x, dec ty y with
      | some a, some b => match op with
        | .eql => k (.c (.prop (a = b) (ty.deq a b)))
        | .neq => k (.c (.nprop (a = b) (ty.deq a b)))
        | _ => none
      | _, _ => none) none
    | _, _ => none

def binK (t : Nat) (op : BinOp) (x y : AV) (k : AV → Option R) : Option R :=
  match x, y with
  | .c (.int kd a), .c (.int kd' b) => match op with
    | .shl => if b < 0 then none else k (.c (.int kd (shl kd a b)))
    | .shr => if b < 0 then none else k (.c (.int kd (shr kd a b)))
    | op => cond (decide (kd = kd')) (binI op kd a b k) none
  | .c (.str a), .c (.str b) => binS op a b k
  | .c x, .c y => match T t with
    | none => none
    | some ti => match ti.k, x.toB, y.toB with
      | .bool, some a, some b => match op with
        | .eql => k (.c (.bool (a == b)))
        | .neq => k (.c (.nbool (a == b)))
        | _ => none
      | _, _, _ => none
  | .agg x, .agg y => binA T t op x y k
  | _, _ => none

def unK (op : UnOp) (x : AV) (k : AV → Option R) : Option R :=
  match op, x with
  | .not, .c (.lit b) => k (.c (.lit (!b)))
  | .not, .c (.bool b) => k (.c (.nbool b))
  | .not, .c (.nbool b) => k (.c (.bool b))
  | .not, .c (.prop p d) => k (.c (.nprop p d))
  | .not, .c (.nprop p d) => k (.c (.prop p d))
  | .not, .c (.isn n) => k (.c (.nisn n))
  | .not, .c (.nisn n) => k (.c (.isn n))
  | .neg, .c (.int kd n) => k (.c (.int kd (wrapK kd (0 - n))))
  | _, _ => none

/-- Bytes as a string, and back. -/
def strOf (l : List Int) : ByteArray := ByteArray.mk (l.map fun n => UInt8.ofNat n.toNat).toArray
def bytesOf (s : ByteArray) : List Int := s.data.toList.map fun b => (b.toNat : Int)

/-- The bytes that a slice stands for. -/
def bytesK (s : St) : Cell → Option (List Int)
  | .nil => some []
  | .emp => some []
  | .sl _ (.int .u8) l => some l
  | .own b => match s.heap[b]? with
    | some (.arr (.int .u8) l _ _ none) => some l
    | _ => none
  | .nst b i o v => match s.heap[b]? with
    | some (.arr t l .un v' none) => cond (Nat.beq v' v) (match getF t (l.getD i t.zero) o with
      | some ⟨.int .u8, l⟩ => some l
      | _ => none) none
    | _ => none
  | _ => none

def convK (s : St) (src dst : Nat) (x : AV) (k : AV → Option R) : Option R :=
  match T src, T dst, x with
  | some _, some td, .c (.int _ n) => match td.k with
    | .int kd => k (.c (.int kd (wrapK kd n)))
    | _ => none
  | some _, some td, .c (.str s) => match td.k with
    | .str => k (.c (.str s))
    | _ => none
  | some ts, some td, .c x => match ts.k, td.k with
    | .slice e, .str => match T e with
      | some te => match te.k with
        | .int .u8 => match bytesK s x with
          | some l => k (.c (.str (strOf l)))
          | none => none
        | _ => none
      | none => none
    | _, _ => none
  | _, _, _ => none

/-- s == nil: what is known of it: that it is; how long it is. -/
def sliceN (s : St) : Cell → Option (Option Nat)
  | .nil => some none
  | .emp => some (some 0)
  | .sl _ _ l => some (some l.length)
  | .own b => match s.heap[b]? with
    | some (.arr _ l _ _ _) => some (some l.length)
    | _ => none
  | .nst b i o v => match s.heap[b]? with
    | some (.arr t l .un v' none) => cond (Nat.beq v' v) (match getF t (l.getD i t.zero) o with
      | some ⟨_, l⟩ => some (some l.length)
      | none => none) none
    | _ => none
  | _ => none
def isNilA : AV → Bool
  | .c .nil => true
  | _ => false
def nilK (s : St) (t : Nat) (op : BinOp) (x : AV) (k : AV → Option R) : Option R :=
  match T t, x with
  | some ti, .c c => match ti.k, op, sliceN s c with
    | .slice _, .eql, some none => k (.c (.lit true))
    | .slice _, .neq, some none => k (.c (.lit false))
    | .slice _, .eql, some (some n) => k (.c (.isn n))
    | .slice _, .neq, some (some n) => k (.c (.nisn n))
    | _, _, _ => none
  | _, _ => none

/-- s[:0:0]. -/
def sliceE (s : St) (t : Nat) (x : AV) (k : AV → Option R) : Option R :=
  match T t with
  | none => none
  | some ti => match ti.k, x with
    | .slice e, .c (.sl _ _ _) => match T e with | some _ => k (.c .emp) | none => none
    | .slice e, .c (.own b) => match T e, s.heap[b]? with | some _, some (.arr _ _ _ _ _) => k (.c .emp) | _, _ => none
    | .slice e, .c .nil => match T e with | some _ => k (.c .emp) | none => none
    | _, _ => none
def isZero : Option AV → Bool
  | some (.c (.int .i64 (.ofNat 0))) => true
  | _ => false

def sliceK (t : Nat) (x : AV) (lo hi : Option AV) (k : AV → Option R) : Option R :=
  match T t with
  | none => none
  | some ti => match ti.k, x with
    | .str, .c (.str s) => match (match lo with | none => AV.c (.int .i64 0) | some v => v), (match hi with | none => AV.c (.int .i64 (s.size : Int)) | some v => v) with
      | .c (.int _ a), .c (.int _ b) => if 0 ≤ a then if a ≤ b then if b ≤ (s.size : Int) then k (.c (.str (s.extract a.toNat b.toNat))) else none else none else none
      | _, _ => none
    | .slice e, .c (.sl f y l) => match T e with
      | none => none
      | some te => cond (Nat.beq te.size y.width) (match (match lo with | none => AV.c (.int .i64 0) | some v => v), (match hi with | none => AV.c (.int .i64 (l.length : Int)) | some v => v) with
        | .c (.int _ a), .c (.int _ b) => if 0 ≤ a then if a ≤ b then if b ≤ (l.length : Int) then k (.c (.sl f y ((l.take b.toNat).drop a.toNat))) else none else none else none
        | _, _ => none) none
    | _, _ => none

/-- s[lo:] of a slice of an element. -/
def sliceNK (s : St) (t b i o v : Nat) (lo : AV) (k : AV → Option R) : Option R :=
  match T t with
  | none => none
  | some ti => match ti.k with
    | .slice e => match T e, lo with
      | some te, .c (.int _ a) => match s.heap[b]? with
        | some (.arr y l .un v' none) => cond (Nat.beq v' v) (match getF y (l.getD i y.zero) o with
          | some ⟨u, l'⟩ => cond (Nat.beq te.size u.width) (if 0 ≤ a then if a < (l'.length : Int) then k (.c (.nsv b i o v a.toNat)) else none else none) none
          | none => none) none
        | _ => none
      | _, _ => none
    | _ => none
def sliceA (s : St) (t : Nat) (x : AV) (lo hi : Option AV) (k : AV → Option R) : Option R :=
  match x, lo, hi with
  | .c (.nst b i o v), some lo, none => sliceNK T s t b i o v lo k
  | x, lo, hi => sliceK T t x lo hi k

def extractK (x : AV) (i : Nat) (k : AV → Option R) : Option R :=
  match x with
  | .tup l => match l[i]? with
    | some (a, cs) => mkV a cs k
    | none => none
  | _ => none

/-- Cells laid over others from a place on. -/
def splice (l : List Cell) (o : Nat) (cs : List Cell) : List Cell := l.take o ++ cs ++ l.drop (o + cs.length)

def AV.cells : AV → List Cell
  | .c x => [x]
  | .agg l => l
  | .tup _ => [.undef]

def known : List Cell → Bool
  | [] => true
  | .un :: _ => false
  | .undef :: _ => false
  | _ :: r => known r

def buildK (s : St) (t : Nat) (parts : List (Nat × Operand)) (k : AV → Option R) : Option R :=
  match T t with
  | none => none
  | some ti => match ti.k with
    | .struct => go ti parts ti.zero
    | .arr _ _ => go ti parts ti.zero
    | _ => none
where
  go (ti : TI) : List (Nat × Operand) → List Cell → Option R
    | [], acc => k (.agg acc)
    | (f, x) :: r, acc => match ti.offs[f]? with
      | some (off, sz) => cond (Nat.beq (s.ev x).cells.length sz) (cond (known (s.ev x).cells) (cond (Nat.ble (off + sz) acc.length) (go ti r (splice acc off (s.ev x).cells)) none) none) none
      | none => none

def lenK (s : St) (t : Nat) (x : AV) (k : AV → Option R) : Option R :=
  match T t with
  | none => none
  | some ti => match ti.k, x with
    | .slice _, .c (.sl _ y l) => k (.c (.int .i64 (lenI y l)))
    | .slice _, .c .nil => k (.c (.int .i64 0))
    | .slice _, .c .emp => k (.c (.int .i64 0))
    | .str, .c (.str s) => k (.c (.int .i64 (s.size : Int)))
    | .slice _, .c (.own b) => match s.heap[b]? with
      | some (.arr y l _ _ _) => k (.c (.int .i64 (lenO y l)))
      | some (.mix _ l _) => k (.c (.int .i64 (l.length : Int)))
      | _ => none
    | .slice _, .c (.nst b i o v) => match s.heap[b]? with
      | some (.arr t l .un v' none) => cond (Nat.beq v' v) (match getF t (l.getD i t.zero) o with
        | some ⟨_, l⟩ => k (.c (.int .i64 (l.length : Int)))
        | none => none) none
      | _ => none
    | _, _ => none

def maxK (f : Int → Int → Int) (x y : AV) (k : AV → Option R) : Option R :=
  match x, y with
  | .c (.int kd a), .c (.int _ b) => k (.c (.int kd (f a b)))
  | _, _ => none

def capsOf (s : St) : List Operand → Option (List Nat)
  | [] => some []
  | x :: r => match s.ev x with
    | .c (.ptr b 0) => match capsOf s r with
      | some l => some (b :: l)
      | none => none
    | _ => none

def nilcK (x : AV) (k : AV → Option R) : Option R :=
  match x with
  | .c (.ptr b o) => k (.c (.ptr b o))
  | .c (.eptr b i o) => k (.c (.eptr b i o))
  | .c (.neptr b i o v j q) => k (.c (.neptr b i o v j q))
  | .c (.sptr f t x o) => k (.c (.sptr f t x o))
  | _ => none

/-- Operations that leave the memory alone. -/
def opP (s : St) (op : Op) (k : AV → Option R) : Option R :=
  match op with
  | .move x => k (s.ev x)
  | .assign x => k (s.ev x)
  | .pick c a b => condA (s.ev c) (k (s.ev a)) (k (s.ev b))
  | .load t a => loadK T s t (s.ev a) k
  | .nilCheck x => nilcK (s.ev x) k
  | .fieldAddr t x f => fieldAddrK T s t (s.ev x) f k
  | .indexAddr t x i => indexAddrK T s t (s.ev x) (s.ev i) k
  | .index t x i => indexK T t (s.ev x) (s.ev i) k
  | .binOp op t x y _ => cond (isNilA (s.ev y)) (nilK T s t op (s.ev x) k) (binK T t op (s.ev x) (s.ev y) k)
  | .unOp op _ x => unK op (s.ev x) k
  | .convert a b x => convK T s a b (s.ev x) k
  | .slice t x lo hi none => sliceA T s t (s.ev x) (lo.map s.ev) (hi.map s.ev) k
  | .slice t x none hi (some mx) => cond (isZero (hi.map s.ev)) (cond (isZero (some (s.ev mx))) (sliceE T s t (s.ev x) k) none) none
  | .extract x i => extractK (s.ev x) i k
  | .build t parts => buildK T s t parts.toList k
  | .makeFunc (.func f) first caps => match first.toList with
    | [] => match capsOf s caps.toList with
      | some l => k (.c (.fnp f l))
      | none => none
    | _ => none
  | .call c => match c.callee with
    | .builtin .len => match c.argTypes.toList, c.args.toList with
      | [t], [x] => lenK T s t (s.ev x) k
      | _, _ => none
    | .builtin .max => match c.args.toList with
      | [x, y] => maxK mx (s.ev x) (s.ev y) k
      | _ => none
    | .builtin .min => match c.args.toList with
      | [x, y] => maxK mn (s.ev x) (s.ev y) k
      | _ => none
    | _ => none
  | _ => none

/-- Operations that do not look at memory. -/
def opF (s : St) (op : Op) (k : AV → Option R) : Option R :=
  match op with
  | .move x => k (s.ev x)
  | .assign x => k (s.ev x)
  | .nilCheck x => nilcK (s.ev x) k
  | .fieldAddr t x f => fieldAddrK T s t (s.ev x) f k
  | .indexAddr t x i => indexAddrK T s t (s.ev x) (s.ev i) k
  | .index t x i => indexK T t (s.ev x) (s.ev i) k
  | .binOp op t x y _ => cond (isNilA (s.ev y)) none (binK T t op (s.ev x) (s.ev y) k)
  | .unOp op _ x => unK op (s.ev x) k
  | .extract x i => extractK (s.ev x) i k
  | .build t parts => buildK T s t parts.toList k
  | _ => none
def freeOp : Op → Bool
  | .move _ => true
  | .assign _ => true
  | .nilCheck _ => true
  | .fieldAddr _ _ _ => true
  | .indexAddr _ _ _ => true
  | .index _ _ _ => true
  | .binOp _ _ _ y _ => match y with
    | .const (.slice _ _ _) => false
    | _ => true
  | .unOp _ _ _ => true
  | .extract _ _ => true
  | .build _ _ => true
  | _ => false

/-- An own row that nobody will write any more. -/
def frz (H : List Blk) : List Cell → List Cell × List Blk
  | [] => ([], H)
  | .own b :: r => match H[b]? with
    | some (.arr t l m _ none) => let x := frz (H.set b .dead) r; (.sl (!m.isSh) t l :: x.1, x.2)
    | _ => let x := frz H r; (.undef :: x.1, x.2)
  | c :: r => let x := frz H r; (c :: x.1, x.2)

def scalC : Cell → Bool
  | .int _ _ => true
  | .lit _ => true
  | .bool _ => true
  | .nbool _ => true
  | .prop _ _ => true
  | .nprop _ _ => true
  | .str _ => true
  | _ => false

/-- Whatever slices are among the cells are own rows that hold what they lead to alone; none of them is row x. -/
def movC (H : List Blk) (x : Nat) : Cell → Bool
  | .nil => true
  | .own b => cond (Nat.beq b x) false (match H[b]? with
    | some (.arr _ _ m _ none) => m.isUn
    | _ => false)
  | c => scalC c
def movL (H : List Blk) (x : Nat) : List Cell → Bool
  | [] => true
  | .own b :: r => cond (movC H x (.own b)) (movL (H.set b .dead) x r) false
  | c :: r => cond (movC H x c) (movL H x r) false
def scalL : List Cell → Bool
  | [] => true
  | c :: r => cond (scalC c) (scalL r) false

def storeK (s : St) (t : Nat) (p v : AV) (k : AV → List Blk → Option R) : Option R :=
  match T t with
  | none => none
  | some ti => cond (Nat.beq v.cells.length ti.size) (cond (known v.cells) (match p with
    | .c (.ptr b o) => match s.heap[b]? with
      | some (.cells ty l) => cond (Nat.ble (o + ti.size) l.length) (cond (known ((l.drop o).take ti.size)) (k (.c .un) (s.heap.set b (.cells ty (splice l o v.cells)))) none) none
      | _ => none
    | .c (.eptr b i o) => match frz s.heap v.cells with
      | (cs, H) => match H[b]? with
        | some (.arr y l m ver none) => cond (Nat.ble (o + ti.size) y.width) (match dec y (splice (enc (!m.isSh) y (l.getD i y.zero)) o cs) with
          | some x => cond (m.isUn && movL s.heap b v.cells)
            (k (.c .un) (H.set b (.arr y (l.set i x) .un (cond (scalL v.cells) ver (ver + 1)) none)))
            (k (.c .un) (H.set b (.arr y (l.set i x) (mdOf (!m.isSh && fresh cs)) ver none)))
          | none => none) none
        | some (.mix y l n) => cond (Nat.ble (o + ti.size) y.width) (match dec y (splice (enc false y (l.getD i y.zero)) o cs) with
          | some x => cond (scalL ((enc false y (l.getD i y.zero)).take o) && (scalL ((enc false y (l.getD i y.zero)).drop (o + v.cells.length)) && movL s.heap b v.cells))
            (if i = n then k (.c .un) (H.set b (.mix y (l.set i x) (n + 1))) else none) none
          | none => none) none
        | _ => none
    | _ => none) none) none

/-- A store of plain values through a pointer into an element's slice. -/
def storeN (s : St) (t : Nat) (b i o ver j q : Nat) (v : AV) (k : AV → List Blk → Option R) : Option R :=
  match T t with
  | none => none
  | some ti => cond (Nat.beq v.cells.length ti.size) (cond (scalL v.cells) (match s.heap[b]? with
    | some (.arr y l .un ver' none) => cond (Nat.beq ver' ver) (match getF y (l.getD i y.zero) o with
      | some ⟨u, l'⟩ => cond (Nat.ble (q + ti.size) u.width) (match dec u (splice (enc true u (l'.getD j u.zero)) q v.cells) with
        | some xn => match setF y (l.getD i y.zero) o u (l'.set j xn) with
          | some x => k (.c .un) (s.heap.set b (.arr y (l.set i x) .un ver none) ++ [.dead])
          | none => none
        | none => none) none
      | none => none) none
    | _ => none) none) none
def storeA (s : St) (t : Nat) (p v : AV) (k : AV → List Blk → Option R) : Option R :=
  match p with
  | .c (.neptr b i o ver j q) => storeN T s t b i o ver j q v k
  | p => storeK T s t p v k

def makeK (s : St) (t : Nat) (n c : AV) (k : AV → List Blk → Option R) : Option R :=
  match T t with
  | none => none
  | some ti => match ti.k with
    | .slice e => match T e with
      | none => none
      | some te => match te.ty, n, c with
        | some y, .c (.int _ n), .c (.int _ c) => cond (Nat.beq te.size y.width) (match dec y te.zero with
          | none => none
          | some z => if 0 ≤ n then if n ≤ c then if c.toNat ≤ 281474976710656 / te.bytes then k (.c (.own s.heap.length)) (s.heap ++ [.arr y (List.replicate n.toNat z) .un 0 none]) else none else none else none) none
        | _, _, _ => none
    | _ => none

def decRows (y : Ty) : Nat → List Cell → Option (List y.den)
  | 0, _ => some []
  | n + 1, cs => match dec y (cs.take y.width) with
    | none => none
    | some x => match decRows y n (cs.drop y.width) with
      | none => none
      | some l => some (x :: l)

def buildSliceK (s : St) (t n : Nat) (parts : List (Nat × Operand)) (k : AV → List Blk → Option R) : Option R :=
  match T t with
  | none => none
  | some ti => match ti.k with
    | .slice e => match T e with
      | none => none
      | some te => match te.ty with
        | some y => cond (Nat.beq te.size y.width) (cond (Nat.ble (n * te.size) 16777216) (go te.size parts (List.replicate n te.zero).flatten fun acc => match frz s.heap acc with
          | (cs, H) => match decRows y n cs with
            | some l => k (.c (.own H.length)) (H ++ [.arr y l (cond (movL s.heap s.heap.length acc) .un (mdOf (fresh cs))) 0 none])
            | none => none) none) none
        | none => none
    | _ => none
where
  go (sz : Nat) : List (Nat × Operand) → List Cell → (List Cell → Option R) → Option R
    | [], acc, k => k acc
    | (i, x) :: r, acc, k => cond (Nat.beq (s.ev x).cells.length sz) (cond (known (s.ev x).cells) (cond (Nat.ble (i * sz + sz) acc.length) (go sz r (splice acc (i * sz) (s.ev x).cells) k) none) none) none

/-- The rows that a slice operand stands for; how what they lead to is held; the row that is used up. -/
def rowsOf (s : St) (y : Ty) : AV → Option (Md × Option Nat × List y.den)
  | .c .nil => some (.un, none, [])
  | .c .emp => some (.un, none, [])
  | .c (.sl f y' l) => if h : y' = y then some (cond y.flat .un (mdOf f), none, castL h l) else none
  | .c (.own b) => match s.heap[b]? with
    | some (.arr y' l m _ none) => if h : y' = y then some (cond y.flat (.un, none, castL h l) (m, cond m.isUn (some b) none, castL h l)) else none
    | _ => none
  | _ => none

def killO (H : List Blk) : Option Nat → List Blk
  | none => H
  | some b => H.set b .dead

def appendK (s : St) (t t2 : Nat) (d x : AV) (k : AV → List Blk → Option R) : Option R :=
  match T t, T t2 with
  | some ti, some ti2 => match ti.k, ti2.k with
    | .slice e, .slice _ => match T e with
      | none => none
      | some te => match te.ty with
        | none => none
        | some y => cond (Nat.beq te.size y.width) (match rowsOf s y x with
          | none => none
          | some (m, q, l) => match d with
            | .c .nil => if l.length < 140737488355328 / te.bytes then k (.c (.own s.heap.length)) (killO s.heap q ++ [.arr y l m 0 none]) else none
            | .c .emp => if l.length < 140737488355328 / te.bytes then k (.c (.own s.heap.length)) (killO s.heap q ++ [.arr y l m 0 none]) else none
            | .c (.own b) => match (killO s.heap q)[b]? with
              | some (.arr y' l' m' _ none) => if h : y' = y then if (castL h l').length + l.length < 140737488355328 / te.bytes then k (.c (.own s.heap.length)) ((killO s.heap q).set b .dead ++ [.arr y (castL h l' ++ l) (m'.join m) 0 none]) else none else none
              | _ => none
            | _ => none) none
    | _, _ => none
  | _, _ => none

/-- The bytes behind a slice that is copied. -/
def srcK (s : St) : Cell → Option (List Int)
  | .sl _ (.int .u8) l => some l
  | .own b => match s.heap[b]? with
    | some (.arr (.int .u8) l _ _ none) => some l
    | _ => none
  | _ => none
/-- copy into a slice of an element: bytes. -/
def copyK (s : St) (t : Nat) (d x : AV) (k : AV → List Blk → Option R) : Option R :=
  match T t with
  | none => none
  | some ti => match ti.k with
    | .slice e => match T e with
      | none => none
      | some te => cond (Nat.beq te.size 1) (match d, x with
        | .c (.nsv b i o v lo), .c c => match s.heap[b]?, srcK s c with
          | some (.arr y l .un v' none), some xs => cond (Nat.beq v' v) (match getF y (l.getD i y.zero) o with
            | some ⟨.int .u8, l'⟩ => if 0 < xs.length then (match setF y (l.getD i y.zero) o (.int .u8) (l'.take lo ++ xs.take (l'.length - lo) ++ l'.drop (lo + (xs.take (l'.length - lo)).length)) with
              | some z => k (.c .undef) (s.heap.set b (.arr y (l.set i z) .un v none) ++ [.dead])
              | none => none) else none
            | _ => none) none
          | _, _ => none
        | _, _ => none) none
    | _ => none

/-- A string as a new row of bytes (read only: the model marks such a row). -/
def stobK (s : St) (src dst : Nat) (x : AV) (k : AV → List Blk → Option R) : Option R :=
  match T src, T dst, x with
  | some _, some td, .c (.str b) => match td.k with
    | .slice e => match T e with
      | some te => match te.k with
        | .int .u8 => if b.size ≤ 9223372036854775807 then k (.c (.sl true (.int .u8) (bytesOf b))) s.heap else none
        | _ => none
      | none => none
    | _ => none
  | _, _, _ => none
def isStob (a b : Nat) : Bool :=
  match T a, T b with
  | some ta, some tb => match ta.k, tb.k with
    | .str, .slice _ => true
    | _, _ => false
  | _, _ => false

/-- What a call hands over: data, no blocks. -/
def argC0 (H : List Blk) : Cell → Cell
  | .own b => match H[b]? with
    | some (.arr t l _ _ none) => .sl false t l
    | _ => .undef
  | .nst b i o v => match H[b]? with
    | some (.arr t l .un v' none) => cond (Nat.beq v' v) (match getF t (l.getD i t.zero) o with
      | some ⟨u, l⟩ => .sl false u l
      | none => .undef) .undef
    | _ => .undef
  | .sl _ t l => .sl false t l
  | .sptr _ t x o => .sptr false t x o
  | .lit b => .bool b
  | .nbool b => .bool (!b)
  | .prop p d => .bool (@decide p d)
  | .nprop p d => .bool (!(@decide p d))
  | .ptr _ _ => .undef
  | .eptr _ _ _ => .undef
  | .neptr _ _ _ _ _ _ => .undef
  | .nsv _ _ _ _ _ => .undef
  | .fnp _ _ => .undef
  | c => c

def capsG (H : List Blk) : List Nat → Option (List ((t : Ty) × t.den))
  | [] => some []
  | b :: r => match H[b]? with
    | some (.cells ty l) => match T ty with
      | some ti => match ti.ty with
        | some y => match dec y (l.map (argC0 H)) with
          | some x => match capsG H r with
            | some cs => some (⟨y, x⟩ :: cs)
            | none => none
          | none => none
        | none => none
      | none => none
    | _ => none

def argC (H : List Blk) (c : Cell) : Cell :=
  match c with
  | .fnp f l => match capsG T H l with
    | some cs => .fn f cs
    | none => .undef
  | c => argC0 H c

def argA (H : List Blk) : AV → AV
  | .c x => .c (argC T H x)
  | .agg l => .agg (l.map (argC T H))
  | .tup l => .tup (l.map fun p => (p.1, p.2.map (argC T H)))

def shiftC (n : Nat) : Cell → Cell
  | .own b => .own (b + n)
  | .ptr b o => .ptr (b + n) o
  | .eptr b i o => .eptr (b + n) i o
  | .fnp f l => .fnp f (l.map (· + n))
  | c => c
def shiftA (n : Nat) : AV → AV
  | .c x => .c (shiftC n x)
  | .agg l => .agg (l.map (shiftC n))
  | .tup l => .tup (l.map fun p => (p.1, p.2.map (shiftC n)))
def shiftB (n : Nat) : Blk → Blk
  | .cells ty l => .cells ty (l.map (shiftC n))
  | b => b

/-- What the functions that are called answer: with the memory ahead of the call, and what is handed over. -/
abbrev CF (R : Type) := Nat → List Blk → List AV → (AV → List Blk → Option R) → Option R

/-- The numbers of strings.Builder's WriteString and String, of its type and of uint8's. -/
structure Bw where
  ws : Nat
  st : Nat
  t : Nat
  u : Nat
/-- strings.Builder's methods. -/
def bldK (bw : Option Bw) (f : Nat) (H : List Blk) (args : List AV) (k : AV → List Blk → Option R) (e : Option R) : Option R :=
  match bw with
  | none => e
  | some q => cond (Nat.beq f q.ws) (match args with
      | [.c (.ptr b 0), .c (.str x)] => match H[b]? with
        | some (.bld t u s) => cond (Nat.beq t q.t) (cond (Nat.beq u q.u) (if s.size + x.size ≤ 140737488355328 then k (.c .undef) (H.set b (.bld t u (s ++ x))) else none) none) none
        | _ => none
      | _ => none) (cond (Nat.beq f q.st) (match args with
      | [.c (.ptr b 0)] => match H[b]? with
        | some (.bld t u s) => cond (Nat.beq t q.t) (cond (Nat.beq u q.u) (k (.c (.str s)) (H.map fun _ => .dead)) none) none
        | _ => none
      | _ => none) e)
def cfX (bw : Option Bw) (cf : CF R) : CF R := fun f H args k => bldK bw f H args k (cf f H args k)
def ioX (bw : Option Bw) (io : Nat → Bool) (f : Nat) : Bool := io f || (match bw with | none => false | some q => Nat.beq f q.ws || Nat.beq f q.st)

def capA : List ((t : Ty) × t.den) → List AV
  | [] => []
  | ⟨t, x⟩ :: r => .c (.sptr false t x 0) :: capA r

def callK (cf : CF R) (s : St) (f : Operand) (args : List Operand) (k : AV → List Blk → Option R) : Option R :=
  match s.ev f with
  | .c (.fn f caps) => cf f s.heap (args.map s.ev ++ capA caps) k
  | _ => none

/-- s[lo:hi]: an own row that is cut is read only from then on; so are the slices of a row of which one is cut. -/
def sliceO (s : St) (t : Nat) (x : AV) (lo hi : Option AV) (k : AV → List Blk → Option R) : Option R :=
  match x with
  | .c (.own b) => match s.heap[b]? with
    | some (.arr y l m _ none) => sliceK T t (.c (.sl (!m.isSh) y l)) lo hi fun v => k v (s.heap.set b .dead)
    | _ => none
  | .c (.nst b i o v) => match hi with
    | none => sliceA T s t (.c (.nst b i o v)) lo none fun w => k w s.heap
    | some hi => match s.heap[b]? with
      | some (.arr y l .un v' none) => cond (Nat.beq v' v) (match getF y (l.getD i y.zero) o with
        | some ⟨u, l'⟩ => sliceK T t (.c (.sl true u l')) lo (some hi) fun w => k w (s.heap.set b (.arr y l .fr v none))
        | none => none) none
      | _ => none
  | x => sliceA T s t x lo hi fun v => k v s.heap

def opK (cf : CF R) (s : St) (op : Op) (k : AV → List Blk → Option R) : Option R :=
  match op with
  | .alloc t => match T t with
    | some ti => k (.c (.ptr s.heap.length 0)) (s.heap ++ [match ti.k with | .bld u => .bld t u ByteArray.empty | _ => .cells t ti.zero])
    | none => none
  | .box t x => match T t with
    | some ti => cond (Nat.beq (s.ev x).cells.length ti.size) (cond (known (s.ev x).cells) (k (.c (.ptr s.heap.length 0)) (s.heap ++ [.cells t (s.ev x).cells])) none) none
    | none => none
  | .store t a x => storeA T s t (s.ev a) (s.ev x) k
  | .makeSlice t n c => makeK T s t (s.ev n) (s.ev c) k
  | .buildSlice t n parts => buildSliceK T s t n parts.toList k
  | .call c => match c.callee with
    | .value f => callK cf s f c.args.toList k
    | .builtin .append => match c.argTypes.toList, c.args.toList with
      | [t, t2], [d, x] => appendK T s t t2 (s.ev d) (s.ev x) k
      | _, _ => none
    | .builtin .copy => match c.argTypes.toList, c.args.toList with
      | [t, _], [d, x] => copyK T s t (s.ev d) (s.ev x) k
      | _, _ => none
    | _ => opP T s (.call c) fun v => k v s.heap
  | .convert a b x => cond (isStob T a b) (stobK T s a b (s.ev x) k) (opP T s (.convert a b x) fun v => k v s.heap)
  | .slice t x lo hi none => sliceO T s t (s.ev x) (lo.map s.ev) (hi.map s.ev) k
  | op => opP T s op fun v => k v s.heap

def scalA : AV → Bool
  | .c x => scalC x
  | .agg l => l.all scalC
  | .tup l => l.all fun p => p.2.all scalC

/-- Operations in a statement whose order is open: the memory stays. -/
def opQ (cf : CF R) (s : St) (op : Op) (k : AV → Option R) : Option R :=
  match op with
  | .call c => match c.callee with
    | .value f => callK cf s f c.args.toList fun v _ => cond (scalA v) (k v) none
    | _ => opP T s (.call c) k
  | op => opP T s op k

def goOps (cf : CF R) (nt : Nat) (ops : List Oper) : List Oper → St → (St → Option R) → Option R
  | [], s, k => k s
  | o :: r, s, k => guardK ops o s
    (fun s => cond (match o.dst with | some d => Nat.blt d nt | none => true) (opK T cf s o.op fun v H => goOps cf nt ops r (St.put ⟨s.tmps, H⟩ o.dst v) k) none)
    (fun s => cond (match o.dst with | some d => Nat.blt d nt | none => true) (goOps cf nt ops r (s.put o.dst (.c .un)) k) none)

def goOpsQ (cf : CF R) (nt : Nat) (ops : List Oper) : List Oper → St → (St → Option R) → Option R
  | [], s, k => k s
  | o :: r, s, k => guardK ops o s
    (fun s => cond (match o.dst with | some d => Nat.blt d nt | none => true) (opQ T cf s o.op fun v => goOpsQ cf nt ops r (s.put o.dst v) k) none)
    (fun s => cond (match o.dst with | some d => Nat.blt d nt | none => true) (goOpsQ cf nt ops r (s.put o.dst (.c .un)) k) none)

/-! ### A region that draws its order and makes memory -/

/-- Operation d waits for operation i, by a chain of at most 'fuel' edges. -/
def Region.reachB (md : Region.Mode) (ops : Array Oper) (i : Nat) : Nat → Nat → Bool
  | 0, _ => false
  | fuel + 1, d => match ops[d]? with
    | some o => o.after.any fun e => Region.binds md e && (e.on == i || Region.reachB md ops i fuel e.on)
    | none => false

/-- What is listed is closed under the edges. -/
def Region.closedB (md : Region.Mode) (ops : Array Oper) (listed : Array Bool) : Bool :=
  (List.range ops.size).all fun j => !listed.getD j false || match ops[j]? with
    | some o => o.after.all fun e => !Region.binds md e || listed.getD e.on false
    | none => true

/-- Each of ds that has not come up yet waits for number i. -/
def Region.lastB (md : Region.Mode) (ops : Array Oper) (listed : Array Bool) (ds : List Nat) (i : Nat) : Bool :=
  ds.all fun d => listed.getD d true || Region.reachB md ops i ops.size d

/-- What makes memory at most, and writes none. -/
def mildOp (io : Nat → Bool) : Op → Bool
  | .store _ _ _ => false
  | .call c => match c.callee with
    | .builtin .append => false
    | .builtin .copy => false
    | .value (.func f) => !io f
    | _ => true
  | .convert a b _ => !isStob T a b
  | _ => true
def pureOp (io : Nat → Bool) (o : Op) : Bool :=
  match o with
  | .call c => match c.callee with
    | .value _ => false
    | _ => mildOp T io o
  | .alloc _ => false
  | .box _ _ => false
  | .makeSlice _ _ _ => false
  | .buildSlice _ _ _ => false
  | .slice t _ _ (some _) _ => match T t with
    | some ti => match ti.k with
      | .slice _ => false
      | _ => mildOp T io o
    | none => false
  | _ => mildOp T io o
def dsOf (io : Nat → Bool) : Nat → List Oper → List Nat
  | _, [] => []
  | n, o :: r => match mildOp T io o.op with
    | true => dsOf io (n + 1) r
    | false => n :: dsOf io (n + 1) r
def takeB (ops : Array Oper) (ds : List Nat) (L : Array Bool) (i : Nat) : Bool :=
  (Region.ready .any ops L).contains i && Region.free .any ops L i && Region.closedB .any ops L && Region.lastB .any ops L ds i
/-- The order in which it is walked (a hint): what is taken ahead, what follows. -/
def planH (io : Nat → Bool) (ops : Array Oper) (ds : List Nat) : Nat → Array Bool → List Nat × Array Bool
  | 0, L => ([], L)
  | n + 1, L => match (Region.ready .any ops L).find? fun i => (match ops[i]? with | some o => pureOp T io o.op | none => false) && takeB ops ds L i with
    | some i => match planH io ops ds n (L.setIfInBounds i true) with
      | (r, L) => (i :: r, L)
    | none => ([], L)
def planF (ops : Array Oper) : Nat → Array Bool → List Nat
  | 0, _ => []
  | n + 1, L => match Region.ready .any ops L with
    | [i] => i :: planF ops n (L.setIfInBounds i true)
    | _ => []
def planM (io : Nat → Bool) (ops : Array Oper) : List Nat × List Nat :=
  match planH T io ops (dsOf T io 0 ops.toList) ops.size (Array.replicate ops.size false) with
  | (hs, L) => (hs, planF ops ops.size L)
def mixB (io : Nat → Bool) (ops : Array Oper) : Bool :=
  match planM T io ops with
  | (hs, fs) => Nat.beq (hs.length + fs.length) ops.size

def goH (nt : Nat) (ops : Array Oper) (ds : List Nat) : List Nat → Array Bool → St → (Array Bool → St → Option R) → Option R
  | [], L, s, k => k L s
  | i :: r, L, s, k => match ops[i]? with
    | none => none
    | some o => cond (takeB ops ds L i) (guardK ops.toList o s
      (fun s => cond (match o.dst with | some d => Nat.blt d nt | none => true) (opP T s o.op fun v => goH nt ops ds r (L.setIfInBounds i true) (s.put o.dst v) k) none)
      (fun s => cond (match o.dst with | some d => Nat.blt d nt | none => true) (goH nt ops ds r (L.setIfInBounds i true) (s.put o.dst (.c .un)) k) none)) none

/-- One operation of those that are ready. -/
def stepF (cf cq : CF R) (io : Nat → Bool) (nt : Nat) (ops : Array Oper) (ds : List Nat) (L : Array Bool) (s : St) (next : Array Bool → St → Option R) (i : Nat) : Option R :=
  match ops[i]? with
  | none => none
  | some o => cond (mildOp T io o.op || ds.contains i) (guardK ops.toList o s
      (fun s => cond (match o.dst with | some d => Nat.blt d nt | none => true) (opK T (match mildOp T io o.op with | true => cq | false => cf) s o.op fun v H => next (L.setIfInBounds i true) (St.put ⟨s.tmps, H⟩ o.dst v)) none)
      (fun s => cond (match o.dst with | some d => Nat.blt d nt | none => true) (next (L.setIfInBounds i true) (s.put o.dst (.c .un))) none)) none

/-- What does not look at memory is taken first. -/
def pickT (ops : Array Oper) (L : Array Bool) : Option Nat :=
  (Region.ready .any ops L).find? fun i => match ops[i]? with
    | some o => freeOp o.op && Region.free .any ops L i
    | none => false
def stepT (nt : Nat) (ops : Array Oper) (L : Array Bool) (s : St) (next : Array Bool → St → Option R) (i : Nat) : Option R :=
  match ops[i]? with
  | none => none
  | some o => guardK ops.toList o s
      (fun s => cond (match o.dst with | some d => Nat.blt d nt | none => true) (opF T s o.op fun v => next (L.setIfInBounds i true) (s.put o.dst v)) none)
      (fun s => cond (match o.dst with | some d => Nat.blt d nt | none => true) (next (L.setIfInBounds i true) (s.put o.dst (.c .un))) none)

/-- All ways come to the same. -/
def sameL (f : Nat → Option R) : Nat → List Nat → Option R
  | i, [] => f i
  | i, j :: r => sameO (f i) (sameL f j r)

/-- What must come up; where several are ready, all orders come to the same. -/
def goF (cf cq : CF R) (io : Nat → Bool) (nt : Nat) (ops : Array Oper) (ds : List Nat) (k : St → Option R) : Nat → Array Bool → St → Option R
  | 0, L, s => cond (Region.ready .any ops L).isEmpty (k s) none
  | n + 1, L, s => match pickT ops L with
    | some i => stepT T nt ops L s (fun L s => goF cf cq io nt ops ds k n L s) i
    | none => match Region.ready .any ops L with
      | [] => k s
      | i :: r => sameL (stepF T cf cq io nt ops ds L s (fun L s => goF cf cq io nt ops ds k n L s)) i r

def goM (cf cq : CF R) (io : Nat → Bool) (nt : Nat) (ops : Array Oper) (s : St) (k : St → Option R) : Option R :=
  match planM T io ops with
  | (hs, _) => cond (Region.noSelect ops && Nat.ble hs.length ops.size) (goH T nt ops (dsOf T io 0 ops.toList) hs (Array.replicate ops.size false) s fun L s => goF T cf cq io nt ops (dsOf T io 0 ops.toList) k (ops.size - hs.length) L s) none

/-- Something makes or writes memory here. -/
def memOp : Op → Bool
  | .alloc _ => true
  | .box _ _ => true
  | .store _ _ _ => true
  | .makeSlice _ _ _ => true
  | .buildSlice _ _ _ => true
  | .call c => match c.callee with
    | .builtin .append => true
    | _ => false
  | _ => false

def goD (cf cq : CF R) (io : Nat → Bool) (force : Bool) (nt : Nat) (ops : Array Oper) (s : St) (k : St → Option R) : Option R :=
  match force || (mixB T io ops || ops.toList.any (fun o => memOp o.op || !mildOp T io o.op)) with
  | true => goM T cf cq io nt ops s k
  | false => cond (Region.lexB .any ops) (goOpsQ T cq nt ops.toList ops.toList s k) none

/-! ### Leaving what nobody looks at -/

def refsC : Cell → List Nat
  | .own b => [b]
  | .ptr b _ => [b]
  | .eptr b _ _ => [b]
  | .fnp _ l => l
  | _ => []
def refsL : List Cell → List Nat
  | [] => []
  | c :: r => refsC c ++ refsL r
def refsA : AV → List Nat
  | .c x => refsC x
  | .agg l => refsL l
  | .tup l => go l
where go : List (Bool × List Cell) → List Nat
  | [] => []
  | p :: r => refsL p.2 ++ go r
def refsAs : List AV → List Nat
  | [] => []
  | a :: r => refsA a ++ refsAs r
def refsB : Blk → List Nat
  | .cells _ l => refsL l
  | _ => []
def refsBs : List Blk → List Nat
  | [] => []
  | b :: r => refsB b ++ refsBs r

def memN : List Nat → Nat → Bool
  | [], _ => false
  | a :: r, b => cond (Nat.beq a b) true (memN r b)
def reach (H : List Blk) : Nat → List Nat → List Nat → List Nat
  | 0, _, acc => acc
  | _ + 1, [], acc => acc
  | n + 1, b :: r, acc => cond (memN acc b) (reach H n r acc) (match H[b]? with
    | some (.cells _ l) => reach H n (r ++ refsL l) (acc ++ [b])
    | some (.arr _ _ _ _ _) => reach H n r (acc ++ [b])
    | some (.mix _ _ _) => reach H n r (acc ++ [b])
    | some (.bld _ _ _) => reach H n r (acc ++ [b])
    | _ => reach H n r acc)
/-- The blocks that come along: the first np, and what is looked at. -/
def along (np : Nat) (vs : List AV) (H : List Blk) : List Nat := reach H 1000 (refsBs (H.take np) ++ refsAs vs) (List.range np)

def posN : List Nat → Nat → Option Nat
  | [], _ => none
  | a :: r, b => cond (Nat.beq a b) (some 0) (match posN r b with | some i => some (i + 1) | none => none)

def renC (σ : List Nat) : Cell → Cell
  | .own b => match posN σ b with | some i => .own i | none => .undef
  | .ptr b o => match posN σ b with | some i => .ptr i o | none => .undef
  | .eptr b i o => match posN σ b with | some j => .eptr j i o | none => .undef
  | .nst _ _ _ _ => .undef
  | .neptr _ _ _ _ _ _ => .undef
  | .nsv _ _ _ _ _ => .undef
  | .fnp _ _ => .undef
  | .lit b => .bool b
  | .nbool b => .bool (!b)
  | .prop p d => .bool (@decide p d)
  | .nprop p d => .bool (!(@decide p d))
  | c => c
def renA (σ : List Nat) : AV → AV
  | .c x => .c (renC σ x)
  | .agg l => .agg (l.map (renC σ))
  | .tup l => .tup (l.map fun p => (p.1, p.2.map (renC σ)))
def renB (σ : List Nat) : Blk → Blk
  | .cells ty l => .cells ty (l.map (renC σ))
  | .arr t l m _ h => .arr t l m 0 h
  | b => b

def nodupN : List Nat → Bool
  | [] => true
  | a :: r => cond (memN r a) false (nodupN r)

/-- How what a row leads to is held, weakened. -/
def demB (m : Md) : Blk → Blk
  | .arr t l m' v none => match m, m' with
    | .un, _ => .arr t l m' v none
    | .fr, .un => .arr t l .fr v none
    | .sh, .un => .arr t l .sh v none
    | .sh, .fr => .arr t l .sh v none
    | _, _ => .arr t l m' v none
  | b => b
def demBs : List Md → List Blk → List Blk
  | m :: ms, b :: r => demB m b :: demBs ms r
  | _, l => l

/-- A row of which the elements are made the row's own, one after the other: its begin and its end. -/
inductive Tn where
  | no
  | mx
  | un
def turnB (q : Tn) (b : Blk) (k : Blk → Option R) : Option R :=
  match q, b with
  | .mx, .arr t l .sh _ none => k (.mix t l 0)
  | .un, .mix t l n => if l.length ≤ n then k (.arr t l .un 0 none) else none
  | _, b => k b
def turnBs : List Tn → List Blk → (List Blk → Option R) → Option R
  | q :: qs, b :: r, k => turnB q b fun b => turnBs qs r fun r => k (b :: r)
  | _, l, k => k l

def compactK (np : Nat) (ms : List Md) (tn : List Tn) (vs : List AV) (H : List Blk) (k : List AV → List Blk → Option R) : Option R :=
  let σ := along np vs H
  cond (nodupN σ && (Nat.ble np H.length && H.all Blk.full)) (turnBs tn (demBs ms (σ.map fun b => renB σ (H.getD b .dead))) fun H => k (vs.map (renA σ)) H) none

/-- What an untyped nil, or a row, is to be at a place where ways meet: an own row; a slice that is read only. -/
inductive Coer where
  | row (y : Ty)
  | data (f : Bool) (y : Ty)

def coC (co : Coer) (c : Cell) (H : List Blk) : Cell × List Blk :=
  match co, c with
  | .row y, .nil => (.own H.length, H ++ [.arr y [] .un 0 none])
  | .row y, .emp => (.own H.length, H ++ [.arr y [] .un 0 none])
  | .data f y, .nil => (.sl f y [], H)
  | .data f y, .emp => (.sl f y [], H)
  | .data f y, .own b => match H[b]? with
    | some (.arr t l m _ none) => (.sl (f && !m.isSh) t l, H.set b .dead)
    | _ => (.own b, H)
  | .data f y, .sl g t l => (.sl (f && g) t l, H)
  | .data f y, .nst b i o v => match H[b]? with
    | some (.arr t l .un v' none) => cond (Nat.beq v' v) (match getF t (l.getD i t.zero) o with
      | some ⟨u, l'⟩ => (.sl (f && true) u l', H.set b (.arr t l .fr v none))
      | none => (.nst b i o v, H)) (.nst b i o v, H)
    | _ => (.nst b i o v, H)
  | _, c => (c, H)

/-- What is live at a place: temporaries, and what is to be made of them. -/
abbrev Live := List (Nat × Option Coer)

def liveVals (s : St) : Live → List Blk → List AV × List Blk
  | [], H => ([], H)
  | (t, none) :: r, H => let x := liveVals s r H; (s.get t :: x.1, x.2)
  | (t, some co) :: r, H => match s.get t with
    | .c c => let y := coC co c H; let x := liveVals s r y.2; (.c y.1 :: x.1, x.2)
    | v => let x := liveVals s r H; (v :: x.1, x.2)

def mkTmps : Live → List AV → List (Nat × AV)
  | (t, _) :: r, v :: vs => (t, v) :: mkTmps r vs
  | _, _ => []

/-- A cell of a variable: what is to be made of it. -/
def coB1 (np : Nat) (vs : List AV) (q : Nat × Nat × Coer) (H : List Blk) : List Blk :=
  match (along np vs H)[q.1]? with
  | some b => match H[b]? with
    | some (.cells ty l) => match l[q.2.1]? with
      | some c => match coC q.2.2 c H with
        | (c', H') => H'.set b (.cells ty (l.set q.2.1 c'))
      | none => H
    | _ => H
  | none => H
def coBs (np : Nat) (vs : List AV) : List (Nat × Nat × Coer) → List Blk → List Blk
  | [], H => H
  | q :: r, H => coBs np vs r (coB1 np vs q H)

/-- What is to be made of the blocks at a place: how they are held; cells of variables. -/
structure Dm where
  ms : List Md
  cc : List (Nat × Nat × Coer)
  tn : List Tn

abbrev Lower (R : Type) := Nat → List AV → List Blk → Option R

def jumpK (np : Nat) (lower : Lower R) (ann : Nat → Option (Live × Dm)) (lbl : Nat) (s : St) : Option R :=
  match ann lbl with
  | none => none
  | some live => match liveVals s live.1 s.heap with
    | (vs, H) => compactK np live.2.ms live.2.tn vs (coBs np vs live.2.cc H) fun vs H => lower lbl vs H

inductive It where
  | code (c : Code)
  | blk (id : Nat)
  | lp (c : Code)
  | rg (id : Nat) (ops : Array Oper) (draw : Bool)

def firstRegion : Code → Option Nat
  | .region id _ _ => some id
  | .seq a b => match firstRegion a with | some i => some i | none => firstRegion b
  | .cond _ a b => match firstRegion a with | some i => some i | none => firstRegion b
  | .block _ c => firstRegion c
  | .loop c => firstRegion c
  | _ => none

def loopLbl (c : Code) : Nat := match firstRegion c with | some i => 2 * i | none => 1000000

def popTo (id : Nat) : List It → Option (List It)
  | [] => none
  | .blk i :: K => cond (Nat.beq i id) (some K) (popTo id K)
  | _ :: K => popTo id K

/-- What the function hands back. -/
def finVals (s : St) : List ResultVar → (List AV → Option R) → Option R
  | [], k => k []
  | .tmp t :: r, k => finVals s r fun vs => k (s.get t :: vs)
  | .cell a t :: r, k => loadK T s t (s.get a) fun v => finVals s r fun vs => k (v :: vs)

def svOf : AV → Option (Bool × List Cell)
  | .c x => some (false, [x])
  | .agg l => some (true, l)
  | .tup _ => none
def svsOf : List AV → Option (List (Bool × List Cell))
  | [] => some []
  | a :: r => match svOf a, svsOf r with
    | some x, some l => some (x :: l)
    | _, _ => none

/-- Nothing of the arguments' memory is in it. -/
def freshA : AV → Bool
  | .c x => fresh [x]
  | .agg l => fresh l
  | .tup l => l.all fun p => fresh p.2
def freshB : Blk → Bool
  | .dead => true
  | .cells _ l => fresh l
  | .arr _ _ m _ _ => !m.isSh
  | .mix _ _ _ => false
  | .bld _ _ _ => true

/-- What is to be made of the results' cells, by their numbers; how the blocks are to be held; whether they may share with what came in. -/
structure Co where
  c : Nat → Option Coer
  cc : List (Nat × Nat × Coer)
  ms : List Md
  tn : List Tn
  sh : Bool
  fm : List Nat
def coL (co : Nat → Option Coer) : Nat → List Cell → List Blk → List Cell × List Blk
  | _, [], H => ([], H)
  | n, c :: r, H => match co n with
    | some q => let y := coC q c H; let x := coL co (n + 1) r y.2; (y.1 :: x.1, x.2)
    | none => let x := coL co (n + 1) r H; (c :: x.1, x.2)
def coA (co : Nat → Option Coer) (n : Nat) : AV → List Blk → AV × List Blk
  | .c x, H => match coL co n [x] H with
    | ([y], H) => (.c y, H)
    | _ => (.c x, H)
  | .agg l, H => match coL co n l H with
    | (l, H) => (.agg l, H)
  | .tup l, H => (.tup l, H)
def coAs (co : Nat → Option Coer) : Nat → List AV → List Blk → List AV × List Blk
  | _, [], H => ([], H)
  | n, v :: r, H => let x := coA co n v H; let y := coAs co (n + 100) r x.2; (x.1 :: y.1, y.2)

def finK (np : Nat) (fn : Func) (co : Co) (s : St) (fin : AV → List Blk → Option R) : Option R :=
  finVals T s fn.results.toList fun vs => match coAs co.c 0 vs s.heap with
  | (vs, H) => compactK np co.ms co.tn vs (coBs np vs co.cc H) fun vs H => cond (co.sh || H.all freshB) (match vs with
    | [v] => cond (co.sh || freshA v) (fin v H) none
    | vs => match svsOf vs with
      | some l => cond (co.sh || freshA (.tup l)) (fin (.tup l) H) none
      | none => none) none

/-- The walk. -/
def go (cf cq : CF R) (io : Nat → Bool) (lower : Lower R) (ann : Nat → Option (Live × Dm)) (np : Nat) (fn : Func) (co : Co) (fin : AV → List Blk → Option R) : Nat → List It → St → Option R
  | 0, _, _ => none
  | N + 1, K, s => match K with
    | [] => finK T np fn co s fin
    | .blk _ :: K => go cf cq io lower ann np fn co fin N K s
    | .lp c :: _ => jumpK np lower ann (loopLbl c) s
    | .rg id ops draw :: K => match draw with
      | false => goOps T cf fn.ntmps ops.toList ops.toList s fun s => go cf cq io lower ann np fn co fin N K s
      | true => goD T cf cq io (memN co.fm id) fn.ntmps ops s fun s => go cf cq io lower ann np fn co fin N K s
    | .code c :: K => match c with
      | .skip => go cf cq io lower ann np fn co fin N K s
      | .label _ => go cf cq io lower ann np fn co fin N K s
      | .seq a b => go cf cq io lower ann np fn co fin N (.code a :: .code b :: K) s
      | .cond c a b => condA (s.ev c) (go cf cq io lower ann np fn co fin N (.code a :: K) s) (go cf cq io lower ann np fn co fin N (.code b :: K) s)
      | .block id c => go cf cq io lower ann np fn co fin N (.code c :: .blk id :: K) s
      | .loop c => jumpK np lower ann (loopLbl c) s
      | .exit id => match popTo id K with
        | some K => go cf cq io lower ann np fn co fin N K s
        | none => none
      | .ret => finK T np fn co s fin
      | .region id ops draw => match ann (2 * id + 1) with
        | some _ => jumpK np lower ann (2 * id + 1) s
        | none => match draw with
          | false => goOps T cf fn.ntmps ops.toList ops.toList s fun s => go cf cq io lower ann np fn co fin N K s
          | true => goD T cf cq io (memN co.fm id) fn.ntmps ops s fun s => go cf cq io lower ann np fn co fin N K s
      | _ => none

def initT : Nat → List AV → List (Nat × AV)
  | _, [] => []
  | i, v :: r => (i, v) :: initT (i + 1) r

end
end Go.Proofs.YtcjfheidmlcbfaaGreatDoor.V
