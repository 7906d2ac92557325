/- The abstract machine: values, heap, operations, code, the compiler. -/
import GoSem.Step
import Derived.Calls
set_option linter.unusedVariables false
set_option linter.unusedSimpArgs false
namespace Go.AM
open Go
abbrev Id := Nat
inductive Cap where
 | ex (n : Nat)
 | op (d : Nat)
 deriving Repr, Inhabited
inductive AV where
 | bool (b : Bool)
 | int (k : IntKind) (n : Int)
 | str (s : List Nat)
 | ptr (b : Id) (o : Nat)
 | pnil
 | sl (b : Id) (o len : Nat) (cap : Cap)
 | snil
 | sl0
 | slx (b : Id)
 | map (b : Id)
 | mnil
 | fn (f : Fn) (first captured : List AV)
 | fnil
 | ifc (t : TypeId) (v : AV)
 | inil
 | agg (cs : List AV)
 | tup (vs : List AV)
 deriving Repr, Inhabited
structure N4 (α : Type) where
 (a0 a1 a2 a3 : α)
def N4.sel {α : Type} (c : N4 α) (d : Nat) : α := bif Nat.ble 2 d then (bif Nat.ble 3 d then c.a3 else c.a2) else (bif Nat.ble 1 d then c.a1 else c.a0)
def N4.set {α : Type} (c : N4 α) (d : Nat) (x : α) : N4 α :=
 bif Nat.ble 2 d then (bif Nat.ble 3 d then ⟨c.a0, c.a1, c.a2, x⟩ else ⟨c.a0, c.a1, x, c.a3⟩) else (bif Nat.ble 1 d then ⟨c.a0, x, c.a2, c.a3⟩ else ⟨x, c.a1, c.a2, c.a3⟩)
def N4.rep {α : Type} (x : α) : N4 α := ⟨x, x, x, x⟩
structure N16 (α : Type) where
 (a0 a1 a2 a3 a4 a5 a6 a7 a8 a9 aA aB aC aD aE aF : α)
def N16.sel {α : Type} (c : N16 α) (d : Nat) : α :=
 match d with
 | 0 => c.a0 | 1 => c.a1 | 2 => c.a2 | 3 => c.a3 | 4 => c.a4 | 5 => c.a5 | 6 => c.a6 | 7 => c.a7
 | 8 => c.a8 | 9 => c.a9 | 10 => c.aA | 11 => c.aB | 12 => c.aC | 13 => c.aD | 14 => c.aE | _ => c.aF
def N16.set {α : Type} (c : N16 α) (d : Nat) (x : α) : N16 α :=
 match d with
 | 0 => { c with a0 := x } | 1 => { c with a1 := x } | 2 => { c with a2 := x } | 3 => { c with a3 := x }
 | 4 => { c with a4 := x } | 5 => { c with a5 := x } | 6 => { c with a6 := x } | 7 => { c with a7 := x }
 | 8 => { c with a8 := x } | 9 => { c with a9 := x } | 10 => { c with aA := x } | 11 => { c with aB := x }
 | 12 => { c with aC := x } | 13 => { c with aD := x } | 14 => { c with aE := x } | _ => { c with aF := x }
def N16.rep {α : Type} (x : α) : N16 α := ⟨x, x, x, x, x, x, x, x, x, x, x, x, x, x, x, x⟩
abbrev Q8 (α : Type) : Type := N4 (N4 (N4 (N4 (N4 (N4 (N4 (N4 α)))))))
structure Tr (α : Type) where
 q : Q8 (Option α)
 rest : Nat → Option α
def Q8.get {α : Type} (q : Q8 α) (n : Nat) : α :=
 (((((((q.sel (n / 16384 % 4)).sel (n / 4096 % 4)).sel (n / 1024 % 4)).sel (n / 256 % 4)).sel (n / 64 % 4)).sel (n / 16 % 4)).sel (n / 4 % 4)).sel (n % 4)
def upd {α : Type} (d : Nat) (g : α → α) (c : N4 α) : N4 α := c.set d (g (c.sel d))
def Q8.put {α : Type} (x : α) (q : Q8 α) (n : Nat) : Q8 α :=
 upd (n / 16384 % 4) (upd (n / 4096 % 4) (upd (n / 1024 % 4) (upd (n / 256 % 4) (upd (n / 64 % 4) (upd (n / 16 % 4) (upd (n / 4 % 4) (upd (n % 4) fun _ => x))))))) q
namespace Tr
variable {α : Type}
def get (t : Tr α) (n : Nat) : Option α := bif Nat.ble 65536 n then t.rest n else t.q.get n
def put (x : Option α) (t : Tr α) (n : Nat) : Tr α := bif Nat.ble 65536 n then ⟨t.q, fun m => bif Nat.beq n m then x else t.rest m⟩ else ⟨t.q.put x n, t.rest⟩
def nil : Tr α := ⟨N4.rep (N4.rep (N4.rep (N4.rep (N4.rep (N4.rep (N4.rep (N4.rep none))))))), fun _ => none⟩
end Tr
instance {α : Type} : Inhabited (Tr α) := ⟨.nil⟩
def incr (n : Id) : Id := n + 1
abbrev pathOf (n : Nat) : Id := n
inductive Blk where
 | cells (ro : Bool) (spare : Bool) (elem : TypeId) (z : Nat) (cs : List AV)
 | map (es : List (AV × AV × Nat)) (clock : Nat)
 | miter (m : Option Id) (since : Nat) (seen : List Nat) (last : Nat)
 | siter (s : List Nat) (pos : Nat)
 deriving Inhabited
structure Heap where
 t : Tr Blk
 next : Id
 deriving Inhabited
def Heap.get (h : Heap) (b : Id) : Option Blk := h.t.get b
def Heap.put (h : Heap) (b : Id) (x : Blk) : Heap := ⟨h.t.put (some x) b, h.next⟩
def Heap.kill (h : Heap) (b : Id) : Heap := ⟨h.t.put none b, h.next⟩
def Heap.new (h : Heap) (x : Blk) : Heap := ⟨h.t.put (some x) h.next, incr h.next⟩
structure Tm where
 q : N16 (N16 AV)
 rest : Nat → AV
def undefA : AV := .tup []
namespace Tm
def get (t : Tm) (n : Nat) : AV := bif Nat.ble 256 n then t.rest n else (t.q.sel (n / 16)).sel (n % 16)
def put (x : AV) (t : Tm) (n : Nat) : Tm := bif Nat.ble 256 n then ⟨t.q, fun m => bif Nat.beq n m then x else t.rest m⟩ else ⟨t.q.set (n / 16) ((t.q.sel (n / 16)).set (n % 16) x), t.rest⟩
def nil : Tm := ⟨.rep (.rep undefA), fun _ => undefA⟩
end Tm
instance : Inhabited Tm := ⟨.nil⟩
inductive Opd where
 | tmp (p : Id)
 | const (v : AV)
 deriving Inhabited
def Opd.ev (t : Tm) : Opd → AV
 | .tmp p => t.get p
 | .const v => v
structure Lay where
 agg : Bool
 size : Nat
 deriving Repr, Inhabited
def AV.cells : AV → List AV
 | .agg cs => cs
 | v => [v]
inductive SK where
 | b | i | s
 deriving Repr, Inhabited, DecidableEq
inductive EqT where
 | scalar (k : SK)
 | pointer
 | iface (nilOk : Bool) (ts : List (TypeId × SK))
 | slice
 | map
 | func
 | struct (ks : List SK)
 | array (n : Nat) (k : SK)
 deriving Repr, Inhabited, DecidableEq
inductive AOp where
 | mv (x : Opd)
 | pick (c a b : Opd)
 | alloc (elem : TypeId) (zero : List AV)
 | box (elem : TypeId) (x : Opd)
 | build (zero : List AV) (parts : List (Nat × Nat × Opd))
 | buildSlice (elem : TypeId) (len : Nat) (z : Nat) (zero : List AV) (parts : List (Nat × Nat × Opd))
 | load (l : Lay) (a : Opd)
 | store (l : Lay) (a x : Opd)
 | nilCheck (x : Opd)
 | bin (op : BinOp) (x y : Opd)
 | eq (neg : Bool) (t : EqT) (x y : Opd)
 | un (op : UnOp) (x : Opd)
 | toInt (k : IntKind) (x : Opd)
 | toStr (x : Opd)
 | strToBytes (elem : TypeId) (x : Opd)
 | mkIface (t : TypeId) (x : Opd)
 | mkFn (fn : Fn) (first captured : List Opd)
 | mkMap
 | mkSlice (elem : TypeId) (bytes : Nat) (z : Nat) (zero : List AV) (len cap : Opd)
 | sliceStr (x : Opd) (lo hi : Option Opd)
 | sliceSl (z : Nat) (x : Opd) (lo hi mx : Option Opd)
 | sliceArr (n z : Nat) (x : Opd) (lo hi mx : Option Opd)
 | fieldAddr (off : Nat) (x : Opd)
 | field (l : Lay) (off : Nat) (x : Opd)
 | indexArr (n z : Nat) (x i : Opd)
 | indexSl (z : Nat) (x i : Opd)
 | indexAgg (n : Nat) (l : Lay) (x i : Opd)
 | indexStr (x i : Opd)
 | lookup (key : EqT) (zero : AV) (ok : Bool) (m k : Opd)
 | mapUpdate (key : EqT) (m k x : Opd)
 | rangeMap (x : Opd)
 | rangeStr (x : Opd)
 | next (isString : Bool) (it : Opd)
 | entry (it : Opd)
 | assertTo (t : TypeId) (zero : AV) (ok : Bool) (x : Opd)
 | extract (i : Nat) (x : Opd)
 | call (f : Opd) (args : List Opd)
 | len (x : Opd)
 | lenStr (x : Opd)
 | lenMap (x : Opd)
 | cap (x : Opd)
 | append (elem : TypeId) (bytes z : Nat) (s x : Opd)
 | appendMake (elem : TypeId) (bytes z : Nat) (zero : List AV) (s n : Opd)
 | copy (z : Nat) (d s : Opd)
 | min2 (args : List Opd)
 | max2 (args : List Opd)
 | delete (key : EqT) (m k : Opd)
 | clear (z : Nat) (zero : List AV) (x : Opd)
 | fail
 deriving Inhabited
structure AOper where
 dst : Option Id
 op : AOp
 guard : Option (Id × Bool)
 deriving Inhabited
inductive Way where
 | pure | quiet | make | effect
 deriving Repr, Inhabited, DecidableEq
structure DOper where
 o : AOper
 way : Way
 lo : Nat
 hi : Nat
 deriving Inhabited
inductive ACode where
 | skip
 | region (ops : List AOper)
 | drawn (ops : List DOper)
 | seq (a b : ACode)
 | cond (c : Opd) (a b : ACode)
 | block (id : Nat) (c : ACode)
 | loop (c : ACode)
 | scope (c : ACode)
 | exit (id : Nat)
 | ret
 deriving Inhabited
inductive AResult where
 | tmp (p : Id)
 | cell (p : Id) (l : Lay)
 deriving Inhabited
inductive AFunc where
 | code (code : ACode) (results : List AResult)
 | mapsClone
 deriving Inhabited
end Go.AM
namespace Go.AM
open Go
inductive ARes where
 | val (v : AV) (h : Heap)
 | skip (h : Heap)
 | enter (f : FuncId) (args : List AV) (h : Heap)
 deriving Inhabited
def Xo : IntKind → Nat
 | .i8 => 127 | .u8 => 255 | .i16 => 32767 | .u16 => 65535 | .i32 => 2147483647 | .u32 => 4294967295
 | .i64 => 9223372036854775807 | .u64 => 18446744073709551615
def norm (k : IntKind) (z : Int) : Int :=
 match z with
 | .ofNat m => bif Nat.ble m (Xo k) then z else k.wrap z
 | .negSucc m => bif k.signed && Nat.ble m (Xo k) then z else k.wrap z
def addI : Int → Int → Int
 | .ofNat a, .ofNat b => .ofNat (a + b)
 | a, b => a + b
def subI : Int → Int → Int
 | .ofNat a, .ofNat b => bif Nat.ble b a then .ofNat (a - b) else .negSucc (b - a - 1)
 | a, b => a - b
def eqI : Int → Int → Bool
 | .ofNat a, .ofNat b => Nat.beq a b
 | .negSucc a, .negSucc b => Nat.beq a b
 | _, _ => false
def leI : Int → Int → Bool
 | .ofNat a, .ofNat b => Nat.ble a b
 | .ofNat _, .negSucc _ => false
 | .negSucc _, .ofNat _ => true
 | .negSucc a, .negSucc b => Nat.ble b a
def strEq : List Nat → List Nat → Option Bool
 | [], [] => some true
 | [], _ :: _ => some false
 | _ :: _, [] => some false
 | a :: x, b :: y => bif Nat.beq a b then strEq x y else bif Nat.blt a 256 && Nat.blt b 256 then some false else none
def strLt : List Nat → List Nat → Option Bool
 | _, [] => some false
 | [], _ :: _ => some true
 | a :: x, b :: y => bif Nat.beq a b then strLt x y else bif Nat.blt a 256 && Nat.blt b 256 then some (Nat.blt a b) else none
def boolV (b : Bool) : Option AV := some (.bool b)
def binI (op : BinOp) (k : IntKind) (x y : Int) : Option AV :=
 match op with
 | .add => some (.int k (norm k (addI x y)))
 | .sub => some (.int k (norm k (subI x y)))
 | .mul => some (.int k (norm k (x * y)))
 | .quo => if y = 0 then none else some (.int k (norm k (x.tdiv y)))
 | .rem => if y = 0 then none else some (.int k (x.tmod y))
 | .and => match x, y with
  | .ofNat a, .ofNat b => bif Nat.ble a (Xo k) && Nat.ble b (Xo k) then some (.int k (.ofNat (Nat.land a b))) else none
  | _, _ => none
 | .or => match x, y with
  | .ofNat a, .ofNat b => bif Nat.ble a (Xo k) && Nat.ble b (Xo k) then some (.int k (.ofNat (Nat.lor a b))) else none
  | _, _ => none
 | .xor => match x, y with
  | .ofNat a, .ofNat b => bif Nat.ble a (Xo k) && Nat.ble b (Xo k) then some (.int k (.ofNat (Nat.xor a b))) else none
  | _, _ => none
 | .andNot => match x, y with
  | .ofNat a, .ofNat b => bif Nat.ble a (Xo k) && Nat.ble b (Xo k) then some (.int k (.ofNat (Nat.xor a (Nat.land a b)))) else none
  | _, _ => none
 | .eql => boolV (eqI x y)
 | .neq => boolV (!(eqI x y))
 | .lss => boolV (!(leI y x))
 | .leq => boolV (leI x y)
 | .gtr => boolV (!(leI x y))
 | .geq => boolV (leI y x)
 | _ => none
def shiftI (op : BinOp) (k : IntKind) (x y : Int) : Option AV :=
 match x, y with
 | .ofNat a, .ofNat n =>
  let n := Nat.min n k.bits
  match op with
  | .shl => some (.int k (norm k (.ofNat (a * 2 ^ n))))
  | .shr => some (.int k (.ofNat (a / 2 ^ n)))
  | _ => none
 | _, _ => none
def binS (op : BinOp) (x y : List Nat) : Option AV :=
 match op with
 | .add => bif Nat.ble (x.length + y.length) 1000000000 then some (.str (x ++ y)) else none
 | .eql => (strEq x y).map .bool
 | .neq => (strEq x y).map fun b => .bool (!b)
 | .lss => (strLt x y).map .bool
 | .gtr => (strLt y x).map .bool
 | .leq => (strLt y x).map fun b => .bool (!b)
 | .geq => (strLt x y).map fun b => .bool (!b)
 | _ => none
def bin (op : BinOp) (x y : AV) : Option AV :=
 match x, y with
 | .int k a, .int k' b => match op with
  | .shl => shiftI .shl k a b
  | .shr => shiftI .shr k a b
  | op => if k = k' then binI op k a b else none
 | .str a, .str b => binS op a b
 | _, _ => none
def un (op : UnOp) (x : AV) : Option AV :=
 match op, x with
 | .neg, .int k n => some (.int k (norm k (subI 0 n)))
 | .not, .bool b => some (.bool !b)
 | _, _ => none
def XH (sk : SK) (x y : AV) : Option Bool :=
 match sk with
 | .b => match x, y with
  | .bool a, .bool b => some (a == b)
  | _, _ => none
 | .i => match x, y with
  | .int k a, .int k' b => if k = k' then some (eqI a b) else none
  | _, _ => none
 | .s => match x, y with
  | .str a, .str b => strEq a b
  | _, _ => none
def eqCells : List SK → List AV → List AV → Option Bool
 | [], [], [] => some true
 | k :: ks, x :: xs, y :: ys => match XH k x y with
  | some true => eqCells ks xs ys
  | r => r
 | _, _, _ => none
def eqKey (t : EqT) (x y : AV) : Option Bool :=
 match t with
 | .scalar k => XH k x y
 | .struct ks => match x, y with
  | .agg a, .agg b => eqCells ks a b
  | _, _ => none
 | .array n k => match x, y with
  | .agg a, .agg b => eqCells (List.replicate n k) a b
  | _, _ => none
 | _ => none
def Blk.rw : Blk → Bool
 | .cells ro _ _ _ _ => !ro
 | _ => true
def kindOf (t : TypeId) : List (TypeId × SK) → Option SK
 | [] => none
 | (u, k) :: r => bif Nat.beq u t then some k else kindOf t r
def eqPtr : AV → AV → Option Bool
 | .pnil, .pnil => some true
 | .pnil, .ptr _ _ => some false
 | .ptr _ _, .pnil => some false
 | .ptr a o, .ptr b p => if a = b then some (Nat.beq o p) else none
 | _, _ => none
def eqIfc (ok : Bool) (ts : List (TypeId × SK)) : AV → AV → Option Bool
 | .inil, .inil => bif ok then some true else none
 | .inil, .ifc _ _ => some false
 | .ifc _ _, .inil => some false
 | .ifc t v, .ifc t' v' => bif Nat.beq t t' then (match kindOf t ts with | some k => XH k v v' | none => none) else some false
 | _, _ => none
def eqSl : AV → AV → Option Bool
 | .snil, .snil => some true
 | .snil, .sl _ _ _ _ => some false
 | .sl _ _ _ _, .snil => some false
 | .slx _, .snil => some false
 | .sl0, .snil => some false
 | .snil, .slx _ => some false
 | .snil, .sl0 => some false
 | _, _ => none
def eqMp : AV → AV → Option Bool
 | .mnil, .mnil => some true
 | .mnil, .map _ => some false
 | .map _, .mnil => some false
 | _, _ => none
def eqFn : AV → AV → Option Bool
 | .fnil, .fnil => some true
 | .fnil, .fn _ _ _ => some false
 | .fn _ _ _, .fnil => some false
 | _, _ => none
def eqV (t : EqT) (x y : AV) : Option Bool :=
 match t with
 | .scalar k => XH k x y
 | .struct ks => eqKey (.struct ks) x y
 | .array n k => eqKey (.array n k) x y
 | .pointer => eqPtr x y
 | .iface ok ts => eqIfc ok ts x y
 | .slice => eqSl x y
 | .map => eqMp x y
 | .func => eqFn x y
def takeAt (cs : List AV) : Nat → Nat → Option (List AV)
 | 0, n => go cs n
 | o + 1, n => match cs with
  | [] => bif Nat.beq n 0 then some [] else none
  | _ :: r => takeAt r o n
where
 go : List AV → Nat → Option (List AV)
  | _, 0 => some []
  | [], _ + 1 => none
  | c :: r, n + 1 => (go r n).map (c :: ·)
def setAt : List AV → Nat → List AV → Option (List AV)
 | cs, 0, vs => over cs vs
 | [], _ + 1, vs => match vs with
  | [] => some []
  | _ => none
 | c :: r, o + 1, vs => (setAt r o vs).map (c :: ·)
where
 over : List AV → List AV → Option (List AV)
  | cs, [] => some cs
  | [], _ :: _ => none
  | _ :: r, v :: vs => (over r vs).map (v :: ·)
def Heap.cells (h : Heap) (b : Id) (o n : Nat) : Option (List AV) :=
 match h.get b with
 | some (.cells _ _ _ _ cs) => takeAt cs o n
 | _ => none
def oneA : AV → Bool
 | .agg _ => false
 | .tup _ => false
 | _ => true
def Heap.store (h : Heap) (b : Id) (o : Nat) (vs : List AV) : Option Heap :=
 match h.get b with
 | some (.cells false sp e z cs) => match vs.all oneA, setAt cs o vs with
  | true, some cs => some (h.put b (.cells false sp e z cs))
  | _, _ => none
 | _ => none
def partA (l : Lay) (cs : List AV) (off : Nat) : Option AV :=
 match l.agg with
 | true => (takeAt cs off l.size).map .agg
 | false => match takeAt cs off 1 with
  | some [v] => some v
  | _ => none
def source (z : Nat) (x : AV) (h : Heap) : Option (Nat × List AV) :=
 match x with
 | .snil | .sl0 | .slx _ => some (0, [])
 | .sl b o n _ => (h.cells b o (n * z)).map fun cs => (n, cs)
 | .str s => bif Nat.beq z 1 then some (s.length, s.map fun c => .int .u8 (.ofNat (c % 256))) else none
 | _ => none
def bigLim : Nat := 68719476736
def appendA (elem bytes z : Nat) (s : AV) (src : Option (Nat × List AV)) (h : Heap) : Option (AV × Heap) :=
 match src with
 | none => none
 | some (n, new) =>
  match new.all oneA with
  | false => none
  | true =>
  let fresh (h : Heap) (len : Nat) (old : List AV) : Option (AV × Heap) :=
   bif Nat.ble ((len + n) * (bytes + 1)) bigLim then some (.sl h.next 0 (len + n) (.op 0), h.new (.cells false true elem z (old ++ new))) else none
  match s with
  | .snil => match n with
   | 0 => some (.snil, h)
   | _ => fresh h 0 []
  | .sl0 => match n with
   | 0 => some (.sl0, h)
   | _ => fresh h 0 []
  | .slx b => match n with
   | 0 => some (.slx b, h)
   | _ => match h.get b with
    | some (.cells false true e' z' _) => bif Nat.beq e' elem && Nat.beq z' z then fresh (h.kill b) 0 [] else none
    | _ => none
  | .sl b o len (.ex c) =>
   bif Nat.ble (len + n) c then (h.store b (o + len * z) new).map fun h => (.sl b o (len + n) (.ex c), h)
   else match h.cells b o (len * z) with
    | some old => fresh h len old
    | none => none
  | .sl b o len (.op d) =>
   match n with
   | 0 => some (s, h)
   | _ => match h.get b with
    | some (.cells false true e' z' cs) =>
     bif Nat.beq e' elem && Nat.beq z' z then
      bif Nat.ble (o + (len + n) * z) cs.length then (h.store b (o + len * z) new).map fun h => (.sl b o (len + n) (.op d), h)
      else match takeAt cs o (len * z) with
       | some old => fresh (h.kill b) len old
       | none => none
     else none
    | _ => none
  | _ => none
def natOf : AV → Option Nat
 | .int _ (.ofNat n) => some n
 | _ => none
def natOr (x : Option AV) (d : Nat) : Option Nat :=
 match x with
 | none => some d
 | some v => natOf v
def sliceSlA (z : Nat) (x : AV) (lo hi mx : Option AV) (h : Heap) : Option AV :=
 match natOr lo 0 with
 | none => none
 | some l => match x with
  | .snil => match natOr hi 0, natOr mx 0, l with
   | some 0, some 0, 0 => some .snil
   | _, _, _ => none
  | .sl0 => match natOr hi 0, natOr mx 0, l with
   | some 0, some 0, 0 => some .sl0
   | _, _, _ => none
  | .slx b => match natOr hi 0, natOr mx 0, l with
   | some 0, some 0, 0 => some (match mx with | none => .slx b | some _ => .sl0)
   | _, _, _ => none
  | .sl b o len (.ex c) => match natOr hi len, natOr mx c with
   | some hh, some m => bif Nat.ble l hh && Nat.ble hh m && Nat.ble m c then some (.sl b (bif Nat.beq m l then o else o + l * z) (hh - l) (.ex (m - l))) else none
   | _, _ => none
  | .sl b o len (.op d) =>
   match (match h.get b with | some (.cells _ true _ z' cs) => bif Nat.beq z z' && Nat.blt 0 z then some ((cs.length - o) / z) else none | _ => none) with
   | none => none
   | some known => match natOr hi len with
    | none => none
    | some hh => match mx with
     | some m => match natOf m with
      | some m => bif Nat.ble l hh && Nat.ble hh m && Nat.ble m known then some (.sl b (bif Nat.beq m l then o else o + l * z) (hh - l) (.ex (m - l))) else none
      | none => none
     | none =>
      bif Nat.ble l hh && Nat.ble hh known then
       bif Nat.beq l 0 then some (.sl b o hh (.op d))
       else bif Nat.blt l known then some (.sl b (o + l * z) (hh - l) (.op (d + l)))
       else some (.slx b)
      else none
  | _ => none
def sliceStrA (s : List Nat) (lo hi : Option AV) : Option AV :=
 match natOr lo 0, natOr hi s.length with
 | some l, some hh => bif Nat.ble l hh && Nat.ble hh s.length then some (.str ((s.take hh).drop l)) else none
 | _, _ => none
def findA (t : EqT) (k : AV) : List (AV × AV × Nat) → Option (Option AV)
 | [] => some none
 | (k', v, _) :: es => match eqKey t k k' with
  | some true => some (some v)
  | some false => findA t k es
  | none => none
def setA (t : EqT) (k v : AV) : List (AV × AV × Nat) → Option (List (AV × AV × Nat))
 | [] => none
 | (k', v', n) :: es => match eqKey t k k' with
  | some true => some ((k, v, n) :: es)
  | some false => (setA t k v es).map ((k', v', n) :: ·)
  | none => none
def delA (t : EqT) (k : AV) : List (AV × AV × Nat) → Option (List (AV × AV × Nat))
 | [] => some []
 | (k', v', n) :: es => match eqKey t k k' with
  | some true => some es
  | some false => (delA t k es).map ((k', v', n) :: ·)
  | none => none
def lookupA (t : EqT) (zero : AV) (ok : Bool) (m k : AV) (h : Heap) : Option AV :=
 let out (v : AV) (b : Bool) : AV := bif ok then .tup [v, .bool b] else v
 match m with
 | .mnil => match eqKey t k k with
  | some _ => some (out zero false)
  | none => none
 | .map b => match h.get b with
  | some (.map es _) => match eqKey t k k, findA t k es with
   | some _, some (some v) => some (out v true)
   | some _, some none => some (out zero false)
   | _, _ => none
  | _ => none
 | _ => none
def updateA (t : EqT) (m k v : AV) (h : Heap) : Option Heap :=
 match m with
 | .map b => match h.get b with
  | some (.map es clock) => match eqKey t k k, findA t k es with
   | some _, some (some _) => match setA t k v es with
    | some es => some (h.put b (.map es clock))
    | none => none
   | some _, some none => some (h.put b (.map (es ++ [(k, v, clock)]) (clock + 1)))
   | _, _ => none
  | _ => none
 | _ => none
def deleteA (t : EqT) (m k : AV) (h : Heap) : Option Heap :=
 match m with
 | .mnil => match eqKey t k k with
  | some _ => some h
  | none => none
 | .map b => match h.get b with
  | some (.map es clock) => match eqKey t k k, delA t k es with
   | some _, some es => some (h.put b (.map es clock))
   | _, _ => none
  | _ => none
 | _ => none
def nextMap (b m : Id) (since : Nat) (seen : List Nat) (last : Nat) (h : Heap) : Option (AV × Heap) :=
 match h.get m with
 | some (.map es clock) =>
  if !seen.isEmpty && !es.isEmpty && es.all (fun e => Nat.ble last e.2.2) then none else
  let left := es.filter fun e => !(seen.contains e.2.2)
  match left with
  | [] => some (.tup [.bool false], h)
  | [(k, v, n)] => bif Nat.blt n since then some (.tup [.bool true, k, v], h.put b (.miter (some m) since (seen ++ [n]) clock)) else none
  | _ => none
 | _ => none
def nextA (isString : Bool) (it : AV) (h : Heap) : Option (AV × Heap) :=
 match it with
 | .ptr b 0 => match h.get b, isString with
  | some (.miter none _ _ _), false => some (.tup [.bool false], h)
  | some (.miter (some m) since seen last), false => nextMap b m since seen last h
  | _, _ => none
 | _ => none
def lastOf : List Nat → Option Nat
 | [] => none
 | [n] => some n
 | _ :: r => lastOf r
def bornA (n : Nat) : List (AV × AV × Nat) → Option AV
 | [] => none
 | (k, v, m) :: es => bif Nat.beq m n then some (.tup [k, v]) else bornA n es
def entryA (it : AV) (h : Heap) : Option AV :=
 match it with
 | .ptr b 0 => match h.get b with
  | some (.miter (some m) _ seen stepped) => match lastOf seen, h.get m with
   | some n, some (.map es clock) => bif Nat.beq clock stepped then bornA n es else none
   | _, _ => none
  | _ => none
 | _ => none
def fillA (cs : List AV) : List (Nat × Nat × AV) → Option (List AV)
 | [] => some cs
 | (off, size, v) :: r =>
  bif Nat.beq v.cells.length size && Nat.blt 0 size then match setAt cs off v.cells with
   | some cs => fillA cs r
   | none => none
  else none
def evParts (t : Tm) (ps : List (Nat × Nat × Opd)) : List (Nat × Nat × AV) := ps.map fun (a, b, x) => (a, b, x.ev t)
def valOf (h : Heap) (x : Option AV) : Option ARes := x.map (.val · h)
def valH (x : Option (AV × Heap)) : Option ARes := x.map fun (v, h) => .val v h
def skipH (x : Option Heap) : Option ARes := x.map .skip
def rep (n : Nat) (zero : List AV) : List AV :=
 match n with
 | 0 => []
 | n + 1 => zero ++ rep n zero
def minMax (mx : Bool) (x : AV) : List AV → Option AV
 | [] => some x
 | y :: r => match x, y with
  | .int k a, .int k' b => if k = k' then minMax mx (.int k (bif mx then (bif leI b a then a else b) else (bif leI a b then a else b))) r else none
  | _, _ => none
def aop (o : AOp) (t : Tm) (h : Heap) : Option ARes :=
 match o with
 | .mv x => some (.val (x.ev t) h)
 | .pick c a b => match c.ev t with
  | .bool true => some (.val (a.ev t) h)
  | .bool false => some (.val (b.ev t) h)
  | _ => none
 | .alloc elem zero => some (.val (.ptr h.next 0) (h.new (.cells false false elem zero.length zero)))
 | .box elem x => let v := (x.ev t).cells; some (.val (.ptr h.next 0) (h.new (.cells false false elem v.length v)))
 | .build zero ps => valOf h ((fillA zero (evParts t ps)).map .agg)
 | .buildSlice elem len z zero ps => match fillA (rep len zero) (evParts t ps) with
  | some cs => bif Nat.ble (len * z) 16777216 && Nat.beq zero.length z then some (.val (.sl h.next 0 len (.ex len)) (h.new (.cells false false elem z cs))) else none
  | none => none
 | .load l a => match a.ev t with
  | .ptr b o => match h.get b with
   | some (.cells _ _ _ _ cs) => valOf h (partA l cs o)
   | _ => none
  | _ => none
 | .store l a x => match a.ev t with
  | .ptr b o => let vs := (x.ev t).cells; bif Nat.beq vs.length l.size then skipH (h.store b o vs) else none
  | _ => none
 | .nilCheck x => match x.ev t with
  | .pnil => none
  | .inil => none
  | .fnil => none
  | .fn (.method _) _ _ => none
  | v => some (.val v h)
 | .bin op x y => valOf h (bin op (x.ev t) (y.ev t))
 | .eq neg et x y => valOf h ((eqV et (x.ev t) (y.ev t)).map fun b => .bool (bif neg then !b else b))
 | .un op x => valOf h (un op (x.ev t))
 | .toInt k x => match x.ev t with
  | .int _ n => some (.val (.int k (norm k n)) h)
  | _ => none
 | .toStr x => match x.ev t with
  | .str s => some (.val (.str s) h)
  | _ => none
 | .strToBytes elem x => match x.ev t with
  | .str s => some (.val (.sl h.next 0 s.length (.op 0)) (h.new (.cells false true elem 1 (s.map fun c => AV.int .u8 (.ofNat (c % 256))))))
  | _ => none
 | .mkIface ty x => some (.val (.ifc ty (x.ev t)) h)
 | .mkFn f first cap => some (.val (.fn f (first.map (·.ev t)) (cap.map (·.ev t))) h)
 | .mkMap => some (.val (.map h.next) (h.new (.map [] 0)))
 | .mkSlice elem bytes z zero len cap => match natOf (len.ev t), natOf (cap.ev t) with
  | some l, some c => bif Nat.ble l c && Nat.ble (c * (bytes + 1)) bigLim && Nat.ble (c * z) 16777216 && Nat.beq zero.length z then some (.val (.sl h.next 0 l (.ex c)) (h.new (.cells false false elem z (rep c zero)))) else none
  | _, _ => none
 | .sliceStr x lo hi => match x.ev t with
  | .str s => valOf h (sliceStrA s (lo.map (·.ev t)) (hi.map (·.ev t)))
  | _ => none
 | .sliceSl z x lo hi mx => valOf h (sliceSlA z (x.ev t) (lo.map (·.ev t)) (hi.map (·.ev t)) (mx.map (·.ev t)) h)
 | .sliceArr n z x lo hi mx => match x.ev t with
  | .ptr b o => valOf h (sliceSlA z (.sl b o n (.ex n)) (lo.map (·.ev t)) (hi.map (·.ev t)) (mx.map (·.ev t)) h)
  | _ => none
 | .fieldAddr off x => match x.ev t with
  | .ptr b o => some (.val (.ptr b (o + off)) h)
  | _ => none
 | .field l off x => match x.ev t with
  | .agg cs => valOf h (partA l cs off)
  | _ => none
 | .indexArr n z x i => match x.ev t, natOf (i.ev t) with
  | .ptr b o, some i => bif Nat.blt i n then some (.val (.ptr b (o + i * z)) h) else none
  | _, _ => none
 | .indexSl z x i => match x.ev t, natOf (i.ev t) with
  | .sl b o len _, some i => bif Nat.blt i len then some (.val (.ptr b (o + i * z)) h) else none
  | _, _ => none
 | .indexAgg n l x i => match x.ev t, natOf (i.ev t) with
  | .agg cs, some i => bif Nat.blt i n then valOf h (partA l cs (i * l.size)) else none
  | _, _ => none
 | .indexStr x i => match x.ev t, natOf (i.ev t) with
  | .str s, some i => match s.drop i with
   | c :: _ => bif Nat.blt c 256 then some (.val (.int .u8 (.ofNat c)) h) else none
   | [] => none
  | _, _ => none
 | .lookup key zero ok m k => valOf h (lookupA key zero ok (m.ev t) (k.ev t) h)
 | .mapUpdate key m k x => skipH (updateA key (m.ev t) (k.ev t) (x.ev t) h)
 | .rangeMap x => match x.ev t with
  | .mnil => some (.val (.ptr h.next 0) (h.new (.miter none 0 [] 0)))
  | .map m => match h.get m with
   | some (.map _ clock) => some (.val (.ptr h.next 0) (h.new (.miter (some m) clock [] clock)))
   | _ => none
  | _ => none
 | .rangeStr x => match x.ev t with
  | .str s => some (.val (.ptr h.next 0) (h.new (.siter s 0)))
  | _ => none
 | .entry it => valOf h (entryA (it.ev t) h)
 | .next isString it => valH (nextA isString (it.ev t) h)
 | .assertTo ty zero ok x =>
  let out (v : AV) (b : Bool) : AV := bif ok then .tup [v, .bool b] else v
  match x.ev t with
  | .ifc u v => if u = ty then some (.val (out v true) h) else bif ok then some (.val (.tup [zero, .bool false]) h) else none
  | .inil => bif ok then some (.val (.tup [zero, .bool false]) h) else none
  | _ => none
 | .extract i x => match x.ev t with
  | .tup vs => match vs.drop i with
   | v :: _ => some (.val v h)
   | [] => none
  | _ => none
 | .call f args => match f.ev t with
  | .fn (.func g) first cap => some (.enter g (first ++ (args.map (·.ev t)) ++ cap) h)
  | _ => none
 | .lenStr x => match x.ev t with
  | .str s => some (.val (.int .i64 (.ofNat s.length)) h)
  | _ => none
 | .len x => match x.ev t with
  | .snil => some (.val (.int .i64 0) h)
  | .sl0 => some (.val (.int .i64 0) h)
  | .slx _ => some (.val (.int .i64 0) h)
  | .sl _ _ n _ => some (.val (.int .i64 (.ofNat n)) h)
  | _ => none
 | .lenMap x => match x.ev t with
  | .mnil => some (.val (.int .i64 0) h)
  | .map m => match h.get m with
   | some (.map es _) => some (.val (.int .i64 (.ofNat es.length)) h)
   | _ => none
  | _ => none
 | .cap x => match x.ev t with
  | .snil => some (.val (.int .i64 0) h)
  | .sl0 => some (.val (.int .i64 0) h)
  | .sl _ _ _ (.ex c) => some (.val (.int .i64 (.ofNat c)) h)
  | _ => none
 | .append elem bytes z s x => valH (appendA elem bytes z (s.ev t) (source z (x.ev t) h) h)
 | .appendMake elem bytes z zero s n => valH (appendA elem bytes z (s.ev t) (match n.ev t with
  | .int _ (.ofNat n) => bif Nat.ble (n * (bytes + 1)) bigLim && Nat.ble (n * z) 16777216 && Nat.beq zero.length z then some (n, rep n zero) else none
  | _ => none) h)
 | .copy z d s => match d.ev t with
  | .snil => some (.val (.int .i64 0) h)
  | .sl0 => some (.val (.int .i64 0) h)
  | .sl b o n _ => match s.ev t with
   | .snil => some (.val (.int .i64 0) h)
   | .sl0 => some (.val (.int .i64 0) h)
   | .slx _ => some (.val (.int .i64 0) h)
   | .sl b' o' n' _ => let k := Nat.min n' n; match h.cells b' o' (k * z) with
    | some cs => match h.store b o cs with
     | some h => some (.val (.int .i64 (.ofNat k)) h)
     | none => none
    | none => none
   | _ => none
  | _ => none
 | .min2 args => match args with
  | [] => none
  | x :: r => valOf h (minMax false (x.ev t) (r.map (·.ev t)))
 | .max2 args => match args with
  | [] => none
  | x :: r => valOf h (minMax true (x.ev t) (r.map (·.ev t)))
 | .delete key m k => match deleteA key (m.ev t) (k.ev t) h with
  | some h => some (.val (.tup []) h)
  | none => none
 | .clear z zero x => match x.ev t with
  | .snil => some (.val (.tup []) h)
  | .sl0 => some (.val (.tup []) h)
  | .slx _ => some (.val (.tup []) h)
  | .sl b o n _ => bif Nat.beq zero.length z then match h.store b o (rep n zero) with
   | some h => some (.val (.tup []) h)
   | none => none
   else none
  | _ => none
 | .fail => none
end Go.AM
namespace Go.AM
open Go
inductive AExit where
 | normal
 | exit (id : Nat)
 | ret
 deriving Repr, Inhabited
abbrev CallF := FuncId → List AV → Heap → Option (AV × Heap)
def putD (dst : Option Id) (v : AV) (t : Tm) : Tm :=
 match dst with
 | some p => t.put v p
 | none => t
def XM (o : AOper) (t : Tm) : Bool :=
 match o.guard with
 | none => true
 | some (p, want) => match t.get p with
  | .bool b => b == want
  | _ => false
def oneOp (call : CallF) (o : AOper) (t : Tm) (h : Heap) : Option (AV × Heap) :=
 match aop o.op t h with
 | none => none
 | some r => match r with
  | .val v h => some (v, h)
  | .skip h => some (undefA, h)
  | .enter f args h => call f args h
def runOps (call : CallF) : List AOper → Tm → Heap → Option (Tm × Heap)
 | [], t, h => some (t, h)
 | o :: os, t, h => match XM o t with
  | true => match oneOp call o t h with
   | none => none
   | some (v, h) => runOps call os (putD o.dst v t) h
  | false => runOps call os (putD o.dst undefA t) h
mutual
def AV.beq : AV → AV → Bool
 | .bool a, .bool b => a == b
 | .int k a, .int k' b => k == k' && eqI a b
 | .str a, .str b => a == b
 | .ptr a o, .ptr b p => a == b && Nat.beq o p
 | .pnil, .pnil => true
 | .sl b o l (.ex c), .sl b' o' l' (.ex c') => b == b' && Nat.beq o o' && Nat.beq l l' && Nat.beq c c'
 | .sl b o l (.op c), .sl b' o' l' (.op c') => b == b' && Nat.beq o o' && Nat.beq l l' && Nat.beq c c'
 | .snil, .snil => true
 | .sl0, .sl0 => true
 | .slx a, .slx b => a == b
 | .map a, .map b => a == b
 | .mnil, .mnil => true
 | .fn f x y, .fn g x' y' => (if f = g then true else false) && AV.beqL x x' && AV.beqL y y'
 | .fnil, .fnil => true
 | .ifc t v, .ifc t' v' => Nat.beq t t' && AV.beq v v'
 | .inil, .inil => true
 | .agg x, .agg y => AV.beqL x y
 | .tup x, .tup y => AV.beqL x y
 | _, _ => false
def AV.beqL : List AV → List AV → Bool
 | [], [] => true
 | x :: xs, y :: ys => AV.beq x y && AV.beqL xs ys
 | _, _ => false
end
structure Again where
 o : AOp
 t : Tm
 v : AV
 lo : Nat
 hi : Nat
 deriving Inhabited
def runDrawn (call : CallF) : List DOper → Tm → Heap → List Heap → List Again → Option (Tm × List Heap × List Again)
 | [], t, h, hs, as => some (t, h :: hs, as)
 | d :: os, t, h, hs, as =>
  let hs := match d.way with
   | .effect => h :: hs
   | _ => hs
  match XM d.o t with
  | true => match oneOp call d.o t h with
   | none => none
   | some (v, h) => runDrawn call os (putD d.o.dst v t) h hs (match d.way with
    | .quiet => ⟨d.o.op, t, v, d.lo, d.hi⟩ :: as
    | _ => as)
  | false => runDrawn call os (putD d.o.dst undefA t) h hs as
def stays (o : AOp) (t : Tm) (u : AV) : List Heap → Bool
 | [] => true
 | h :: hs => (match aop o t h with
  | some (.val v _) => AV.beq v u
  | _ => false) && stays o t u hs
def between (lo hi : Nat) (hs : List Heap) : List Heap := (hs.drop (hs.length - 1 - hi)).take (hi - lo + 1)
def allStay (hs : List Heap) : List Again → Bool
 | [] => true
 | x :: r => stays x.o x.t x.v (between x.lo x.hi hs) && allStay hs r
def exec1 (call : CallF) (self : ACode → Tm → Heap → Option (AExit × Tm × Heap)) (c : ACode) (t : Tm) (h : Heap) : Option (AExit × Tm × Heap) :=
 match c with
 | .skip => some (.normal, t, h)
 | .region ops => match runOps call ops t h with
  | some (t, h) => some (.normal, t, h)
  | none => none
 | .drawn ops => match runDrawn call ops t h [] [] with
  | some (t, hs, as) => match allStay hs as with
   | true => match hs with
    | h :: _ => some (.normal, t, h)
    | [] => none
   | false => none
  | none => none
 | .seq a b => match self a t h with
  | some (e, t, h) => match e with
   | .normal => self b t h
   | e => some (e, t, h)
  | none => none
 | .cond c a b => match c.ev t with
  | .bool true => self a t h
  | .bool false => self b t h
  | _ => none
 | .block id c => match self c t h with
  | some (e, t, h) => match e with
   | .exit id' => bif Nat.beq id' id then some (.normal, t, h) else some (.exit id', t, h)
   | e => some (e, t, h)
  | none => none
 | .loop b => match self b t h with
  | some (e, t, h) => match e with
   | .normal => self c t h
   | e => some (e, t, h)
  | none => none
 | .scope b => self b t h
 | .exit id => some (.exit id, t, h)
 | .ret => some (.ret, t, h)
def XS : Nat → List AV → Tm → Tm
 | _, [], t => t
 | i, a :: as, t => XS (i + 1) as (t.put a i)
def resA (rs : List AResult) (t : Tm) (h : Heap) : Option (List AV) :=
 match rs with
 | [] => some []
 | r :: rs => match (match r with
   | .tmp p => some (t.get p)
   | .cell p l => match t.get p with
    | .ptr b o => match h.get b with
     | some (.cells _ _ _ _ cs) => partA l cs o
     | _ => none
    | _ => none) with
  | some v => (resA rs t h).map (v :: ·)
  | none => none
def tuple1 : List AV → AV
 | [v] => v
 | vs => .tup vs
def cloneA (args : List AV) (h : Heap) : Option (AV × Heap) :=
 match args with
 | [.ifc t (.map b)] => match h.get b with
  | some (.map es clock) => some (.ifc t (.map h.next), h.new (.map es clock))
  | _ => none
 | _ => none
def callBy (F : FuncId → Option AFunc) (self : ACode → Tm → Heap → Option (AExit × Tm × Heap)) : CallF := fun f args h =>
 match F f with
 | none => none
 | some .mapsClone => cloneA args h
 | some (.code code results) => bif Nat.ble args.length 1000 then match self code (XS 0 args .nil) h with
  | some (e, t, h) => match e with
   | .exit _ => none
   | _ => (resA results t h).map fun vs => (tuple1 vs, h)
  | none => none
  else none
def aexec (F : FuncId → Option AFunc) : Nat → ACode → Tm → Heap → Option (AExit × Tm × Heap)
 | 0 => fun _ _ _ => none
 | n + 1 => exec1 (callBy F (aexec F n)) (aexec F n)
def acall (F : FuncId → Option AFunc) (n : Nat) : CallF := callBy F (aexec F n)
end Go.AM
namespace Go.AM
open Go
def constA : Nat → Value → Option AV
 | 0, _ => none
 | n + 1, v => match v with
  | .bool b => some (.bool b)
  | .int k n => some (.int k n)
  | .string s => some (.str (s.data.toList.map (·.toNat)))
  | .pointer none => some .pnil
  | .slice none 0 0 => some .snil
  | .map none => some .mnil
  | .func f a b => do
   let x ← a.toList.mapM (constA n)
   let y ← b.toList.mapM (constA n)
   some (.fn f x y)
  | .nilFunc => some .fnil
  | .nilIface => some .inil
  | .iface t v => (constA n v).map (.ifc t)
  | .agg cs => (cs.toList.mapM (constA n)).map .agg
  | .tuple cs => (cs.toList.mapM (constA n)).map .tup
  | _ => none
def globId (gs : List (Nat × Id)) (g : Nat) : Option Id := (gs.find? (·.1 == g)).map (·.2)
def isAggD : TypeDesc → Bool
 | .struct _ => true
 | .array _ _ => true
 | _ => false
structure Ctx where
 P : Program
 gs : List (Nat × Id)
 ntmps : Nat
variable (C : Ctx)
def opd : Operand → Option Opd
 | .tmp t => if t < C.ntmps then some (.tmp (pathOf t)) else none
 | .const v => (constA 20 v).map .const
 | .global g => (globId C.gs g).map fun b => .const (.ptr b 0)
 | .func f => some (.const (.fn (.func f) [] []))
def lay (t : TypeId) : Option Lay :=
 match C.P.underlying t, C.P.info? t with
 | some d, some i => some ⟨isAggD d, i.size⟩
 | _, _ => none
def sz (t : TypeId) : Option Nat := (C.P.info? t).map (·.size)
def zero (t : TypeId) : Option AV := ((C.P.info? t).bind (·.zero)).bind (constA 20)
def skOf (t : TypeId) : Option SK :=
 match C.P.underlying t with
 | some .bool => some .b
 | some (.int _) => some .i
 | some .string => some .s
 | _ => none
def flatFields : List Field → Nat → Option (List SK)
 | [], _ => some []
 | f :: fs, o => if f.name != "_" && f.offset == o then match skOf C f.type, flatFields fs (o + 1) with
   | some k, some ks => some (k :: ks)
   | _, _ => none
  else none
def scalars : List (TypeId × SK) := (List.range C.P.types.size).filterMap fun t => if ((C.P.info? t).map (·.comparable)).getD false then (skOf C t).map fun k => (t, k) else none
def eqT (nilOk : Bool) (t : TypeId) : Option EqT :=
 match C.P.underlying t with
 | some .bool => some (.scalar .b)
 | some (.int _) => some (.scalar .i)
 | some .string => some (.scalar .s)
 | some (.pointer e) => match sz C e with
  | some (_ + 1) => some .pointer
  | _ => none
 | some (.interface _) => some (.iface nilOk (scalars C))
 | some (.slice _) => some .slice
 | some (.map _ _) => some .map
 | some (.func _ _ _) => some .func
 | some (.struct fs) => if !(C.P.stoodInHeld t) && !(C.P.eqGuardType C.P.depth t) then (flatFields C fs.toList 0).map .struct else none
 | some (.array n e) => match skOf C e, sz C e with
  | some k, some 1 => if !(C.P.eqGuardType C.P.depth t) then some (.array n k) else none
  | _, _ => none
 | _ => none
def keyT (t : TypeId) : Option EqT :=
 match eqT C false t with
 | some (.scalar k) => some (.scalar k)
 | some (.struct ks) => some (.struct ks)
 | some (.array n k) => some (.array n k)
 | _ => none
def optOpd (x : Option Operand) : Option (Option Opd) :=
 match x with
 | none => some none
 | some x => (opd C x).map some
def parts (place : Nat → Option (Nat × Nat)) (ps : Array (Nat × Operand)) : Option (List (Nat × Nat × Opd)) :=
 ps.toList.mapM fun (i, x) => do
  let (off, size) ← place i
  some (off, size, ← opd C x)
def appendOp (st xt : TypeId) (s x : Opd) : Option AOp :=
 match C.P.underlying st with
 | some (.slice e) => match C.P.info? e, zero C e with
  | some i, some z => bif Nat.beq z.cells.length i.size && Nat.blt 0 i.size then
    (match C.P.underlying xt with
    | some (.int _) => some (.appendMake e i.bytes i.size z.cells s x)
    | some _ => some (.append e i.bytes i.size s x)
    | none => none)
   else none
  | _, _ => none
 | _ => none
def callOp (c : Call) : Option AOp := do
 let args ← c.args.toList.mapM (opd C)
 match c.callee with
 | .value f => some (.call (← opd C f) args)
 | .invoke _ _ => none
 | .builtin b =>
  match b, args with
  | .len, [x] => match C.P.underlying (← c.argTypes[0]?) with
   | some .string => some (.lenStr x)
   | some (.slice _) => some (.len x)
   | some (.map _ _) => some (.lenMap x)
   | some (.array n _) => some (.mv (.const (.int .i64 n)))
   | _ => none
  | .cap, [x] => match C.P.underlying (← c.argTypes[0]?) with
   | some (.slice _) => some (.cap x)
   | _ => none
  | .append, [s, x] => match c.argTypes[0]?, c.argTypes[1]? with
   | some st, some xt => appendOp C st xt s x
   | _, _ => none
  | .clear, [x] => match C.P.underlying (← c.argTypes[0]?) with
   | some (.slice e) => do some (.clear (← sz C e) (← zero C e).cells x)
   | _ => none
  | .min, args => some (.min2 args)
  | .max, args => some (.max2 args)
  | _, _ => none
def isConstO : Operand → Bool
 | .const _ => true
 | _ => false
def isNeq : BinOp → Bool
 | .neq => true
 | _ => false
def cop (o : Oper) : Option AOp :=
 match o.op with
 | .move x | .assign x => (opd C x).map .mv
 | .pick c a b => do some (.pick (← opd C c) (← opd C a) (← opd C b))
 | .alloc e => (zero C e).map fun z => .alloc e z.cells
 | .box e x => (opd C x).map (.box e)
 | .build t ps => do
  let z ← zero C t
  match C.P.underlying t with
  | some (.struct fs) => do
   let places ← fs.toList.mapM fun f => (sz C f.type).map fun n => (f.offset, n)
   (parts C (fun i => places[i]?) ps).map (.build z.cells)
  | some (.array _ e) => do
   let n ← sz C e
   (parts C (fun i => some (i * n, n)) ps).map (.build z.cells)
  | _ => none
 | .buildSlice t len ps => match C.P.underlying t with
  | some (.slice e) => do
   let z ← zero C e
   let n ← sz C e
   (parts C (fun i => some (i * n, n)) ps).map (.buildSlice e len n z.cells)
  | _ => none
 | .load t a => do some (.load (← lay C t) (← opd C a))
 | .store t a x => do some (.store (← lay C t) (← opd C a) (← opd C x))
 | .nilCheck x => (opd C x).map .nilCheck
 | .binOp op t x y _ => do
  let a ← opd C x
  let b ← opd C y
  match op with
  | .eql | .neq => do
   let et ← eqT C (isConstO x || isConstO y) t
   some (.eq (isNeq op) et a b)
  | _ => some (.bin op a b)
 | .unOp op _ x => (opd C x).map (.un op)
 | .convert s d x => do
  let x ← opd C x
  match C.P.underlying s, C.P.underlying d with
  | some (.int _), some (.int k) => some (.toInt k x)
  | some .string, some .string => some (.toStr x)
  | some .string, some (.slice e) => match C.P.underlying e with
   | some (.int .u8) => some (.strToBytes e x)
   | _ => none
  | _, _ => none
 | .makeInterface t x => match C.P.underlying t with
  | some (.interface _) => none
  | some _ => (opd C x).map (.mkIface t)
  | none => none
 | .makeFunc f a b => do some (.mkFn f (← a.toList.mapM (opd C)) (← b.toList.mapM (opd C)))
 | .makeMap t r => match r with
  | none => some .mkMap
  | some (.const (.int _ _)) => match C.P.underlying t with
   | some (.map _ _) => some .mkMap
   | _ => none
  | _ => none
 | .makeSlice t l c => match C.P.underlying t with
  | some (.slice e) => do
   let z ← zero C e
   some (.mkSlice e (C.P.bytesOf e) (← sz C e) z.cells (← opd C l) (← opd C c))
  | _ => none
 | .slice t x lo hi mx => do
  let x ← opd C x
  let lo ← optOpd C lo
  if mx.isSome && hi.isNone then none
  let hi ← optOpd C hi
  let mx ← optOpd C mx
  match C.P.underlying t with
  | some .string => match mx with
   | none => some (.sliceStr x lo hi)
   | some _ => none
  | some (.slice e) => do some (.sliceSl (← sz C e) x lo hi mx)
  | _ => none
 | .fieldAddr s x f => match C.P.underlying s with
  | some (.struct fs) => do
   let f ← fs[f]?
   if C.P.cellsOf f.type = 0 then none
   some (.fieldAddr f.offset (← opd C x))
  | _ => none
 | .field s x f => match C.P.underlying s with
  | some (.struct fs) => do
   let f ← fs[f]?
   some (.field (← lay C f.type) f.offset (← opd C x))
  | _ => none
 | .indexAddr t x i => match C.P.underlying t with
  | some (.array n e) => do some (.indexArr n (← sz C e) (← opd C x) (← opd C i))
  | some (.slice e) => do some (.indexSl (← sz C e) (← opd C x) (← opd C i))
  | _ => none
 | .index t x i => match C.P.underlying t with
  | some (.array n e) => do some (.indexAgg n (← lay C e) (← opd C x) (← opd C i))
  | some .string => do some (.indexStr (← opd C x) (← opd C i))
  | _ => none
 | .lookup t x i ok => match C.P.underlying t with
  | some (.map k e) => do some (.lookup (← keyT C k) (← zero C e) ok (← opd C x) (← opd C i))
  | _ => none
 | .mapUpdate t m k x | .insert t m k x => match C.P.underlying t with
  | some (.map kt _) => do some (.mapUpdate (← keyT C kt) (← opd C m) (← opd C k) (← opd C x))
  | _ => none
 | .range t x => match C.P.underlying t with
  | some (.map _ _) => (opd C x).map .rangeMap
  | _ => none
 | .next it s => (opd C it).map (.next s)
 | .entry it => (opd C it).map .entry
 | .typeAssert x _ t ok => match C.P.underlying t with
  | some (.interface _) => none
  | some _ => do some (.assertTo t (← zero C t) ok (← opd C x))
  | none => none
 | .extract x i => (opd C x).map (.extract i)
 | .call c => callOp C c
 | _ => none
def AOp.way : AOp → Way
 | .alloc .. | .box .. | .buildSlice .. | .strToBytes .. | .mkMap | .mkSlice .. => .make
 | .store .. | .mapUpdate ..
 | .rangeMap .. | .rangeStr .. | .next .. | .call .. | .append .. | .appendMake .. | .copy .. | .delete .. | .clear .. | .fail => .effect
 | .load .. | .sliceSl .. | .sliceArr .. | .lookup .. | .lenMap .. | .entry .. => .quiet
 | _ => .pure
def dstC (d : Option Tmp) : Option (Option Id) :=
 match d with
 | none => some none
 | some d => if d < C.ntmps then some (some (pathOf d)) else none
def guardC (ops : Array Oper) (g : Option (Nat × Bool)) : Option (Option (Id × Bool)) :=
 match g with
 | none => some none
 | some (j, want) => match (ops[j]?).bind (·.dst) with
  | some d => if d < C.ntmps then some (some (pathOf d, want)) else none
  | none => none
def coper (ops : Array Oper) (o : Oper) : Option AOper := do
 let dst ← dstC C o.dst
 let guard ← guardC C ops o.guard
 some { dst, op := (cop C o).getD .fail, guard }
def AOp.opds : AOp → List Opd
 | .mv x | .box _ x | .load _ x | .nilCheck x | .un _ x | .toInt _ x | .toStr x | .strToBytes _ x | .mkIface _ x | .fieldAddr _ x | .field _ _ x | .rangeMap x | .rangeStr x
 | .next _ x | .entry x | .assertTo _ _ _ x | .extract _ x | .len x | .lenStr x | .lenMap x | .cap x | .clear _ _ x => [x]
 | .pick a b c | .mapUpdate _ a b c => [a, b, c]
 | .store _ x y | .bin _ x y | .eq _ _ x y | .mkSlice _ _ _ _ x y | .indexArr _ _ x y | .indexSl _ x y | .indexAgg _ _ x y | .indexStr x y | .lookup _ _ _ x y | .append _ _ _ x y | .appendMake _ _ _ _ x y
 | .copy _ x y | .delete _ x y => [x, y]
 | .build _ ps | .buildSlice _ _ _ _ ps => ps.map (·.2.2)
 | .mkFn _ x y => x ++ y
 | .sliceStr x lo hi => x :: (lo.toList ++ hi.toList)
 | .sliceSl _ x lo hi mx | .sliceArr _ _ x lo hi mx => x :: (lo.toList ++ hi.toList ++ mx.toList)
 | .call f args => f :: args
 | .min2 args | .max2 args => args
 | .alloc .. | .mkMap | .fail => []
def touches (x y : AOper) : Bool :=
 match x.dst with
 | none => false
 | some d => y.dst == some d || (y.guard.map (·.1)) == some d || y.op.opds.any fun z => match z with
  | .tmp p => p == d
  | .const _ => false
def XA (d : DOper) : Bool :=
 match d.way with
 | .effect => true
 | _ => false
def pairsOk (b : Array Nat) : List (Nat × DOper) → Bool
 | [] => true
 | x :: r => (r.all fun y => x.1 != y.1 && (!(touches x.2.o y.2.o || touches y.2.o x.2.o || (XA x.2 && XA y.2)) || (b.getD y.1 0).testBit x.1)) && pairsOk b r
def boundsOk (b : Array Nat) (eff : List Nat) : Nat → List (Nat × DOper) → Bool
 | _, [] => true
 | k, x :: r => (match x.2.way with
  | .effect | .pure => true
  | .quiet => (eff.take x.2.lo).all (fun z => (b.getD x.1 0).testBit z) && Nat.ble x.2.hi eff.length && Nat.ble x.2.lo eff.length && (eff.drop x.2.hi).all (fun z => (b.getD z 0).testBit x.1)
  | .make => Nat.ble k x.2.lo && (eff.take x.2.lo).all (fun z => (b.getD x.1 0).testBit z)) && boundsOk b eff (bif XA x.2 then k + 1 else k) r
def planOk (ops : Array Oper) (b : Array Nat) (S : List (Nat × DOper)) : Bool :=
 (ops.toList.zipIdx.all fun (o, i) => o.after.all fun e => !Region.binds .any e || Nat.blt e.on i) &&
 (List.range ops.size).all (fun i => S.any (·.1 == i)) &&
 pairsOk b S && boundsOk b ((S.filter fun x => XA x.2).map (·.1)) 0 S
def plan (ops : Array Oper) (l : List AOper) : List (Nat × DOper) :=
 let b := Region.before ops
 let eff := (l.zipIdx.filter fun (o, _) => match o.op.way with | .effect => true | _ => false).map (·.2)
 let ds : List (Nat × DOper) := l.zipIdx.map fun (o, i) =>
  (i, { o, way := o.op.way, lo := (eff.filter fun j => (b.getD i 0).testBit j).length, hi := eff.length - (eff.filter fun j => (b.getD j 0).testBit i).length })
 (List.range (eff.length + 1)).flatMap fun k => (ds.filter fun d => !XA d.2 && d.2.lo == k) ++ (ds.filter fun d => XA d.2 && d.2.lo == k)
def drawn (ops : Array Oper) (l : List AOper) : Option (List DOper) :=
 let S := plan ops l
 if planOk ops (Region.before ops) S then some (S.map (·.2)) else none
def ccode : Code → Option ACode
 | .skip => some .skip
 | .region _ ops draw => do
  let l ← ops.toList.mapM (coper C ops)
  if draw then (match drawn ops l with | some d => some (.drawn d) | none => some (.region [{ dst := none, op := .fail, guard := none }])) else some (.region l)
 | .seq a b => do some (.seq (← ccode a) (← ccode b))
 | .cond c a b => do some (.cond (← opd C c) (← ccode a) (← ccode b))
 | .block id c => (ccode c).map (.block id)
 | .loop c => (ccode c).map .loop
 | .scope c => (ccode c).map .scope
 | .label _ => some .skip
 | .exit id => some (.exit id)
 | .ret => some .ret
 | _ => some (.region [{ dst := none, op := .fail, guard := none }])
def cresult : ResultVar → Option AResult
 | .tmp t => if t < C.ntmps then some (.tmp (pathOf t)) else none
 | .cell t ty => if t < C.ntmps then (lay C ty).map (.cell (pathOf t)) else none
def cfunc (P : Program) (gs : List (Nat × Id)) (fn : Func) : Option AFunc := do
 let C : Ctx := ⟨P, gs, fn.ntmps⟩
 if fn.name == "runtime.NumGoroutine" || fn.ntmps > 60000 then none
 match fn.body with
 | some c => some (.code (← ccode C c) (← fn.results.toList.mapM (cresult C)))
 | none => if fn.name == "maps.clone" then some .mapsClone else none
end Go.AM
namespace Go.AM
open Go
theorem opt_ev {t t' : Tm} {x : Option Opd} (h : ∀ y ∈ x.toList, y.ev t = y.ev t') : x.map (·.ev t) = x.map (·.ev t') := by
 cases x with
 | none => rfl
 | some x => simpa using h x (by simp)
theorem aop_congr {ao : AOp} {t t' : Tm} (hh : ∀ x ∈ ao.opds, x.ev t = x.ev t') (H : Heap) : aop ao t H = aop ao t' H := by
 cases ao <;> simp only [AOp.opds, List.mem_cons, List.mem_append, List.not_mem_nil, or_false, forall_eq_or_imp, forall_eq, List.mem_map, forall_exists_index, and_imp, forall_apply_eq_imp_iff₂] at hh <;> simp only [aop]
 case build zero ps => rw [show evParts t ps = evParts t' ps from List.map_congr_left fun p hp => by obtain ⟨a, b, x⟩ := p; simp only [hh _ hp]]
 case buildSlice e l z zero ps => rw [show evParts t ps = evParts t' ps from List.map_congr_left fun p hp => by obtain ⟨a, b, x⟩ := p; simp only [hh _ hp]]
 case mkFn f x y => rw [List.map_congr_left fun p hp => hh p (.inl hp), List.map_congr_left (l := y) fun p hp => hh p (.inr hp)]
 case sliceStr x lo hi => rw [hh.1, opt_ev fun y hy => hh.2 y (.inl hy), opt_ev (x := hi) fun y hy => hh.2 y (.inr hy)]
 case sliceSl z x lo hi mx => rw [hh.1, opt_ev fun y hy => hh.2 y (.inl (.inl hy)), opt_ev (x := hi) fun y hy => hh.2 y (.inl (.inr hy)), opt_ev (x := mx) fun y hy => hh.2 y (.inr hy)]
 case sliceArr n z x lo hi mx => rw [hh.1, opt_ev fun y hy => hh.2 y (.inl (.inl hy)), opt_ev (x := hi) fun y hy => hh.2 y (.inl (.inr hy)), opt_ev (x := mx) fun y hy => hh.2 y (.inr hy)]
 case call f args => rw [hh.1, List.map_congr_left hh.2]
 case min2 args => cases args with
  | nil => rfl
  | cons x r => simp only [hh x (by simp), List.map_congr_left fun p hp => hh p (List.mem_cons_of_mem _ hp)]
 case max2 args => cases args with
  | nil => rfl
  | cons x r => simp only [hh x (by simp), List.map_congr_left fun p hp => hh p (List.mem_cons_of_mem _ hp)]
 all_goals simp only [hh]
def ARes.heap : ARes → Heap
 | .val _ h => h
 | .skip h => h
 | .enter _ _ h => h
def ARes.on (H : Heap) : ARes → ARes
 | .val v _ => .val v H
 | .skip _ => .skip H
 | .enter f as _ => .enter f as H
theorem valOf_on {h H : Heap} {x : Option AV} {r : ARes} (hr : valOf h x = some r) : valOf H x = some (r.on H) ∧ r.heap = h := by
 cases x with
 | none => cases hr
 | some v => cases hr; exact ⟨rfl, rfl⟩
theorem pure_on {ao : AOp} (hw : ao.way = .pure) {t : Tm} {h : Heap} {r : ARes} (hr : aop ao t h = some r) (H : Heap) : aop ao t H = some (r.on H) ∧ r.heap = h := by
 cases ao <;> first | (cases hw; done) | skip
 all_goals simp only [aop, Bool.cond_eq_ite] at hr ⊢
 all_goals first
  | exact valOf_on hr
  | (cases hr; exact ⟨rfl, rfl⟩)
  | skip
 all_goals
  (repeat' split at hr)
  all_goals first
   | (cases hr; done)
   | (cases hr; simp_all [ARes.on, ARes.heap]; done)
   | (obtain ⟨g1, g2⟩ := valOf_on (H := H) hr; refine ⟨?_, g2⟩; simp_all; done)
   | skip
theorem quiet_on {ao : AOp} (hw : ao.way = .quiet) {t : Tm} {h : Heap} {r : ARes} (hr : aop ao t h = some r) : ∃ v, r = .val v h := by
 have key : ∀ {x : Option AV}, valOf h x = some r → ∃ v, r = .val v h := by
  intro x hx
  cases x with
  | none => cases hx
  | some v => cases hx; exact ⟨v, rfl⟩
 cases ao <;> first | (cases hw; done) | skip
 all_goals simp only [aop] at hr
 all_goals first
  | exact key hr
  | ((repeat' split at hr) <;> first | (cases hr; done) | exact key hr | (cases hr; exact ⟨_, rfl⟩))
theorem pure_val {ao : AOp} (hw : ao.way = .pure) {t : Tm} {h : Heap} {r : ARes} (hr : aop ao t h = some r) : ∃ v, r = .val v h := by
 have key : ∀ {x : Option AV}, valOf h x = some r → ∃ v, r = .val v h := by
  intro x hx
  cases x with
  | none => cases hx
  | some v => cases hx; exact ⟨v, rfl⟩
 cases ao <;> first | (cases hw; done) | skip
 all_goals simp only [aop, Bool.cond_eq_ite] at hr
 all_goals first
  | exact key hr
  | (cases hr; exact ⟨_, rfl⟩)
  | ((repeat' split at hr) <;> first | (cases hr; done) | exact key hr | (cases hr; exact ⟨_, rfl⟩))
theorem make_val {ao : AOp} (hw : ao.way = .make) {t : Tm} {h : Heap} {r : ARes} (hr : aop ao t h = some r) : ∃ v x, r = .val v (h.new x) := by
 cases ao <;> first | (cases hw; done) | skip
 all_goals simp only [aop, Bool.cond_eq_ite] at hr
 all_goals first
  | (cases hr; exact ⟨_, _, rfl⟩)
  | ((repeat' split at hr) <;> first | (cases hr; done) | (cases hr; exact ⟨_, _, rfl⟩))
end Go.AM
namespace Go.AM
open Go
theorem eqI_true {a b : Int} (h : eqI a b = true) : a = b := by
 cases a <;> cases b <;> simp only [eqI] at h <;> first | (cases h; done) | (rw [Nat.eq_of_beq_eq_true h])
mutual
theorem AV.beq_eq : ∀ {x y : AV}, AV.beq x y = true → x = y
 | x, y, h => by
  cases x <;> cases y <;> first | (simp only [AV.beq] at h; cases h; done) | skip
  case bool.bool => simpa [AV.beq] using h
  case int.int => simp only [AV.beq, Bool.and_eq_true, beq_iff_eq] at h; rw [h.1, eqI_true h.2]
  case str.str => simpa [AV.beq] using h
  case ptr.ptr => simp only [AV.beq, Bool.and_eq_true, beq_iff_eq] at h; rw [h.1, Nat.eq_of_beq_eq_true h.2]
  case pnil.pnil => rfl
  case sl.sl b o l c b' o' l' c' =>
   cases c <;> cases c' <;> simp only [AV.beq, Bool.and_eq_true, beq_iff_eq, Bool.false_eq_true] at h
   ·rw [h.1.1.1, Nat.eq_of_beq_eq_true h.1.1.2, Nat.eq_of_beq_eq_true h.1.2, Nat.eq_of_beq_eq_true h.2]
   ·rw [h.1.1.1, Nat.eq_of_beq_eq_true h.1.1.2, Nat.eq_of_beq_eq_true h.1.2, Nat.eq_of_beq_eq_true h.2]
  case snil.snil => rfl
  case sl0.sl0 => rfl
  case slx.slx => simpa [AV.beq] using h
  case map.map => simpa [AV.beq] using h
  case mnil.mnil => rfl
  case fn.fn f x y g x' y' =>
   simp only [AV.beq, Bool.and_eq_true] at h
   have h1 : f = g := by
    by_cases hfg : f = g
    ·exact hfg
    ·rw [if_neg hfg] at h; exact absurd h.1.1 (by simp)
   rw [h1, AV.beqL_eq h.1.2, AV.beqL_eq h.2]
  case fnil.fnil => rfl
  case ifc.ifc => simp only [AV.beq, Bool.and_eq_true] at h; rw [Nat.eq_of_beq_eq_true h.1, AV.beq_eq h.2]
  case inil.inil => rfl
  case agg.agg => simp only [AV.beq] at h; rw [AV.beqL_eq h]
  case tup.tup => simp only [AV.beq] at h; rw [AV.beqL_eq h]
theorem AV.beqL_eq : ∀ {x y : List AV}, AV.beqL x y = true → x = y
 | [], [], _ => rfl
 | [], _ :: _, h => by simp [AV.beqL] at h
 | _ :: _, [], h => by simp [AV.beqL] at h
 | x :: xs, y :: ys, h => by
  simp only [AV.beqL, Bool.and_eq_true] at h
  rw [AV.beq_eq h.1, AV.beqL_eq h.2]
end
end Go.AM
namespace Go.AM
open Go
theorem testBit_edges {acc : Array Nat} : ∀ (es : List Edge) (s x : Nat), (es.foldl (fun s e => if Region.binds .any e then s ||| 2 ^ e.on ||| acc.getD e.on 0 else s) s).testBit x = true →
  s.testBit x = true ∨ ∃ e ∈ es, Region.binds .any e = true ∧ (x = e.on ∨ (acc.getD e.on 0).testBit x = true) := by
 intro es
 induction es with
 | nil => intro s x h; exact .inl h
 | cons e es ih =>
  intro s x h
  simp only [List.foldl_cons] at h
  rcases ih _ x h with h1 | ⟨e', he', hb, hx⟩
  ·split at h1
   ·rename_i hb
    simp only [Nat.testBit_or, Bool.or_eq_true, Nat.testBit_two_pow, decide_eq_true_eq] at h1
    rcases h1 with (h1 | h1) | h1
    ·exact .inl h1
    ·exact .inr ⟨e, by simp, hb, .inl h1.symm⟩
    ·exact .inr ⟨e, by simp, hb, .inr h1⟩
   ·exact .inl h1
  ·exact .inr ⟨e', by simp [he'], hb, hx⟩
theorem fold_push {α β : Type} (g : Array β → α → β) : ∀ (l : List α) (acc : Array β), let R := l.foldl (fun acc o => acc.push (g acc o)) acc
  R.size = acc.size + l.length ∧ (∀ k, k < acc.size → R[k]? = acc[k]?) ∧ ∀ (j : Nat) (o : α), l[j]? = some o → ∃ acc' : Array β, acc'.size = acc.size + j ∧ (∀ k, k < acc'.size → acc'[k]? = R[k]?) ∧ R[acc.size + j]? = some (g acc' o) := by
 intro l
 induction l with
 | nil => intro acc; simp
 | cons o l ih =>
  intro acc
  obtain ⟨h1, h2, h3⟩ := ih (acc.push (g acc o))
  simp only [List.foldl_cons]
  refine ⟨by rw [h1]; simp; omega, fun k hk => ?_, fun j o' ho' => ?_⟩
  ·rw [h2 k (by simp; omega), Array.getElem?_push, if_neg (by omega)]
  ·cases j with
   | zero =>
    simp at ho'; subst ho'
    refine ⟨acc, rfl, fun k hk => ?_, ?_⟩
    ·rw [h2 k (by simp; omega), Array.getElem?_push, if_neg (by omega)]
    ·rw [Nat.add_zero, h2 _ (by simp)]; simp
   | succ j =>
    obtain ⟨acc', g1, g2, g3⟩ := h3 j o' (by simpa using ho')
    refine ⟨acc', by rw [g1]; simp; omega, g2, ?_⟩
    rw [← g3]; congr 1; simp; omega
theorem before_spec {ops : Array Oper} {i x : Nat} {o : Oper} (ho : ops[i]? = some o) (hx : ((Region.before ops).getD i 0).testBit x = true) :
  ∃ e ∈ o.after, Region.binds .any e = true ∧ (x = e.on ∨ ((Region.before ops).getD e.on 0).testBit x = true) := by
 have h := fold_push (fun (acc : Array Nat) (o : Oper) => o.after.foldl (fun s e => if Region.binds .any e then s ||| 2 ^ e.on ||| acc.getD e.on 0 else s) 0) ops.toList #[]
 obtain ⟨_, _, h3⟩ := h
 obtain ⟨acc', g1, g2, g3⟩ := h3 i o (by simpa using ho)
 have hB : Region.before ops = ops.toList.foldl (fun acc o => acc.push (o.after.foldl (fun s e => if Region.binds .any e then s ||| 2 ^ e.on ||| acc.getD e.on 0 else s) 0)) #[] := by
  unfold Region.before
  rw [Array.foldl_toList]
 rw [← hB] at g2 g3
 simp only [Array.size_empty, Nat.zero_add] at g1 g3
 have hgi : (Region.before ops).getD i 0 = o.after.foldl (fun s e => if Region.binds .any e then s ||| 2 ^ e.on ||| acc'.getD e.on 0 else s) 0 := by
  rw [Array.getD_eq_getD_getElem?, g3]; rfl
 rw [hgi, ← Array.foldl_toList] at hx
 rcases testBit_edges _ _ _ hx with h1 | ⟨e, he, hb, hx⟩
 ·simp at h1
 ·refine ⟨e, by simpa using he, hb, hx.imp id fun h => ?_⟩
  rcases Nat.lt_or_ge e.on acc'.size with hlt | hge
  ·rw [Array.getD_eq_getD_getElem?, ← g2 _ hlt, ← Array.getD_eq_getD_getElem?]; exact h
  ·rw [Array.getD_eq_getD_getElem?, Array.getElem?_eq_none hge] at h
   simp at h
theorem pairs_spec {b : Array Nat} : ∀ {S : List (Nat × DOper)}, pairsOk b S = true → ∀ {p q : Nat} {x y : Nat × DOper}, p < q → S[p]? = some x → S[q]? = some y →
  x.1 ≠ y.1 ∧ ((touches x.2.o y.2.o = true ∨ touches y.2.o x.2.o = true ∨ (XA x.2 = true ∧ XA y.2 = true)) → (b.getD y.1 0).testBit x.1 = true) := by
 intro S
 induction S with
 | nil => intro _ p q x y _ hx; simp at hx
 | cons z S ih =>
  intro h p q x y hpq hx hy
  simp only [pairsOk, Bool.and_eq_true, List.all_eq_true] at h
  cases q with
  | zero => omega
  | succ q =>
   simp only [List.getElem?_cons_succ] at hy
   cases p with
   | zero =>
    simp only [List.getElem?_cons_zero, Option.some.injEq] at hx
    subst hx
    have := h.1 y (List.mem_of_getElem? hy)
    simp only [bne_iff_ne, ne_eq, Bool.or_eq_true, Bool.not_eq_true', Bool.and_eq_true] at this
    refine ⟨this.1, fun hc => ?_⟩
    rcases this.2 with h2 | h2
    ·simp only [Bool.or_eq_false_iff, Bool.and_eq_false_iff] at h2
     rcases hc with hc | hc | ⟨hc1, hc2⟩
     ·rw [h2.1.1] at hc; cases hc
     ·rw [h2.1.2] at hc; cases hc
     ·rcases h2.2 with h3 | h3
      ·rw [h3] at hc1; cases hc1
      ·rw [h3] at hc2; cases hc2
    ·exact h2
   | succ p => exact ih h.2 (p := p) (q := q) (by omega) (by simpa using hx) hy
def XG (k : Nat) : List DOper → List Nat
 | [] => []
 | x :: r => match XA x with
  | true => k :: XG (k + 1) r
  | false => XG (k + 1) r
theorem bounds_spec {b : Array Nat} {eff : List Nat} : ∀ {S : List (Nat × DOper)} {k : Nat}, boundsOk b eff k S = true → ∀ {p : Nat} {x : Nat × DOper}, S[p]? = some x →
  (x.2.way = .quiet → (∀ z ∈ eff.take x.2.lo, (b.getD x.1 0).testBit z = true) ∧ x.2.hi ≤ eff.length ∧ x.2.lo ≤ eff.length ∧ ∀ z ∈ eff.drop x.2.hi, (b.getD z 0).testBit x.1 = true) ∧
  (x.2.way = .make → k + ((S.take p).filter fun x => XA x.2).length ≤ x.2.lo ∧ ∀ z ∈ eff.take x.2.lo, (b.getD x.1 0).testBit z = true) := by
 intro S
 induction S with
 | nil => intro k _ p x hx; simp at hx
 | cons z S ih =>
  intro k h p x hx
  simp only [boundsOk, Bool.and_eq_true] at h
  cases p with
  | zero =>
   simp only [List.getElem?_cons_zero, Option.some.injEq] at hx
   subst hx
   refine ⟨fun hw => ?_, fun hw => ?_⟩
   ·rw [hw] at h
    simp only [Bool.and_eq_true, List.all_eq_true] at h
    exact ⟨h.1.1.1.1, Nat.le_of_ble_eq_true h.1.1.1.2, Nat.le_of_ble_eq_true h.1.1.2, h.1.2⟩
   ·rw [hw] at h
    simp only [Bool.and_eq_true, List.all_eq_true] at h
    refine ⟨?_, h.1.2⟩
    simpa using Nat.le_of_ble_eq_true h.1.1
  | succ p =>
   obtain ⟨g1, g2⟩ := ih h.2 (p := p) (by simpa using hx)
   refine ⟨g1, fun hw => ?_⟩
   obtain ⟨g3, g4⟩ := g2 hw
   refine ⟨?_, g4⟩
   simp only [List.take_succ_cons, List.filter_cons]
   cases hz : XA z.2 with
   | true => rw [hz] at g3; simp at g3 ⊢; omega
   | false => rw [hz] at g3; simpa using g3
theorem plan_mem {ops : Array Oper} {l : List AOper} {x : Nat × DOper} (hx : x ∈ plan ops l) : l[x.1]? = some x.2.o ∧ x.2.way = x.2.o.op.way := by
 unfold plan at hx
 simp only [List.mem_flatMap, List.mem_range, List.mem_append, List.mem_filter, List.mem_map] at hx
 obtain ⟨k, _, hx⟩ := hx
 rcases hx with ⟨⟨a, ha, rfl⟩, _⟩ | ⟨⟨a, ha, rfl⟩, _⟩ <;>
 ·obtain ⟨o, i⟩ := a
  have := List.mem_zipIdx_iff_getElem?.1 ha
  exact ⟨by simpa using this, rfl⟩
end Go.AM
namespace Go.AM
open Go
structure Img where
 blk : Nat
 base : Nat
 z : Nat
 tot : Nat
abbrev Env := Id → Option Img
mutual
inductive Rv (e : Env) : AV → Value → Prop
 | bool (b : Bool) : Rv e (.bool b) (.bool b)
 | int (k : IntKind) (n : Int) : Rv e (.int k n) (.int k n)
 | str (l : List Nat) (s : ByteArray) (h : s.data.toList = l.map UInt8.ofNat) : Rv e (.str l) (.string s)
 | ptr (b : Id) (o : Nat) (i : Img) (h : e b = some i) : Rv e (.ptr b o) (.pointer (some ⟨i.blk, i.base + o, none⟩))
 | pnil : Rv e .pnil (.pointer none)
 | slE (b : Id) (o len c : Nat) (i : Img) (h : e b = some i) : Rv e (.sl b o len (.ex c)) (.slice (some ⟨i.blk, i.base + o, none⟩) len c)
 | slO (b : Id) (o len c d : Nat) (i : Img) (h : e b = some i) (hz : 0 < i.z) (hc : o + c * i.z = i.tot) (hl : len ≤ c) :
   Rv e (.sl b o len (.op d)) (.slice (some ⟨i.blk, i.base + o, none⟩) len c)
 | snil : Rv e .snil (.slice none 0 0)
 | sl0 (a : Addr) : Rv e .sl0 (.slice (some a) 0 0)
 | slx (b : Id) (a : Addr) (c : Nat) (i : Img) (h : e b = some i) (hz : 0 < i.z)
   (ha : c = 0 ∨ (a.block = i.blk ∧ a.spot = none ∧ i.base ≤ a.off ∧ a.off + c * i.z = i.base + i.tot)) : Rv e (.slx b) (.slice (some a) 0 c)
 | map (b : Id) (i : Img) (h : e b = some i) : Rv e (.map b) (.map (some i.blk))
 | mnil : Rv e .mnil (.map none)
 | fn (f : Fn) (x y : List AV) (x' y' : Array Value) (hx : Rl e x x'.toList) (hy : Rl e y y'.toList) : Rv e (.fn f x y) (.func f x' y')
 | fnil : Rv e .fnil .nilFunc
 | ifc (t : TypeId) (v : AV) (v' : Value) (h : Rv e v v') : Rv e (.ifc t v) (.iface t v')
 | inil : Rv e .inil .nilIface
 | agg (cs : List AV) (cs' : Array Value) (h : Rl e cs cs'.toList) : Rv e (.agg cs) (.agg cs')
 | tup (cs : List AV) (cs' : Array Value) (h : Rl e cs cs'.toList) : Rv e (.tup cs) (.tuple cs')
inductive Rl (e : Env) : List AV → List Value → Prop
 | nil : Rl e [] []
 | cons (v : AV) (x : Value) (vs : List AV) (xs : List Value) (h : Rv e v x) (hs : Rl e vs xs) : Rl e (v :: vs) (x :: xs)
end
def Env.le (e e' : Env) : Prop := ∀ b i, e b = some i → e' b = some i
theorem Env.le_refl (e : Env) : e.le e := fun _ _ h => h
theorem Env.le_trans {a b c : Env} (h : a.le b) (k : b.le c) : a.le c := fun x i hx => k x i (h x i hx)
mutual
theorem Rv.mono {e e' : Env} (he : e.le e') : ∀ {v : AV} {x : Value}, Rv e v x → Rv e' v x
 | _, _, .bool b => .bool b
 | _, _, .int k n => .int k n
 | _, _, .str l s h => .str l s h
 | _, _, .ptr b o i h => .ptr b o i (he _ _ h)
 | _, _, .pnil => .pnil
 | _, _, .slE b o len c i h => .slE b o len c i (he _ _ h)
 | _, _, .slO b o len c d i h hz hc hl => .slO b o len c d i (he _ _ h) hz hc hl
 | _, _, .snil => .snil
 | _, _, .sl0 a => .sl0 a
 | _, _, .slx b a c i h hz ha => .slx b a c i (he _ _ h) hz ha
 | _, _, .map b i h => .map b i (he _ _ h)
 | _, _, .mnil => .mnil
 | _, _, .fn f x y x' y' hx hy => .fn f x y x' y' (Rl.mono he hx) (Rl.mono he hy)
 | _, _, .fnil => .fnil
 | _, _, .ifc t v v' h => .ifc t v v' (Rv.mono he h)
 | _, _, .inil => .inil
 | _, _, .agg cs cs' h => .agg cs cs' (Rl.mono he h)
 | _, _, .tup cs cs' h => .tup cs cs' (Rl.mono he h)
theorem Rl.mono {e e' : Env} (he : e.le e') : ∀ {v : List AV} {x : List Value}, Rl e v x → Rl e' v x
 | _, _, .nil => .nil
 | _, _, .cons v x vs xs h hs => .cons v x vs xs (Rv.mono he h) (Rl.mono he hs)
end
section
variable {e : Env}
theorem Rl.length {vs : List AV} {xs : List Value} (h : Rl e vs xs) : vs.length = xs.length := by
 induction vs generalizing xs with
 | nil => cases h; rfl
 | cons v vs ih => cases h with | cons _ x _ xs h hs => simp [ih hs]
theorem Rl.append {vs vs' : List AV} {xs xs' : List Value} (h : Rl e vs xs) (h' : Rl e vs' xs') : Rl e (vs ++ vs') (xs ++ xs') := by
 induction vs generalizing xs with
 | nil => cases h; exact h'
 | cons v vs ih => cases h with | cons _ x _ xs h hs => exact .cons _ _ _ _ h (ih hs)
theorem Rl.get {vs : List AV} {xs : List Value} (h : Rl e vs xs) {n : Nat} {v : AV} (hn : vs[n]? = some v) : ∃ x, xs[n]? = some x ∧ Rv e v x := by
 induction vs generalizing xs n with
 | nil => simp at hn
 | cons u vs ih =>
  cases h with
  | cons _ x _ xs h hs =>
   cases n with
   | zero => simp at hn; subst hn; exact ⟨x, by simp, h⟩
   | succ n => simp at hn; simpa using ih hs hn
theorem Rl.take {vs : List AV} {xs : List Value} (h : Rl e vs xs) (n : Nat) : Rl e (vs.take n) (xs.take n) := by
 induction vs generalizing xs n with
 | nil => cases h; simp; exact .nil
 | cons u vs ih =>
  cases h with
  | cons _ x _ xs h hs =>
   cases n with
   | zero => exact .nil
   | succ n => exact .cons _ _ _ _ h (ih hs n)
theorem Rl.drop {vs : List AV} {xs : List Value} (h : Rl e vs xs) (n : Nat) : Rl e (vs.drop n) (xs.drop n) := by
 induction vs generalizing xs n with
 | nil => cases h; simp; exact .nil
 | cons u vs ih =>
  cases h with
  | cons _ x _ xs h hs =>
   cases n with
   | zero => exact .cons _ _ _ _ h hs
   | succ n => exact ih hs n
theorem Rl.map {α : Type} {f : α → AV} {g : α → Value} {l : List α} (h : ∀ a ∈ l, Rv e (f a) (g a)) : Rl e (l.map f) (l.map g) := by
 induction l with
 | nil => exact .nil
 | cons a l ih => exact .cons _ _ _ _ (h a (by simp)) (ih fun b hb => h b (by simp [hb]))
theorem Rv.cells {v : AV} {x : Value} (h : Rv e v x) : Rl e v.cells x.cells.toList := by
 cases h with
 | agg cs cs' h => exact h
 | _ => refine .cons _ _ _ _ ?_ .nil; constructor <;> assumption
end
abbrev num (n : Id) : Nat := n
theorem num_incr (p : Id) : num (incr p) = num p + 1 := rfl
section
variable {α : Type}
theorem N4.sel_set (c : N4 α) (d e : Nat) (x : α) (hd : d < 4) (he : e < 4) : (c.set d x).sel e = if d = e then x else c.sel e := by
 have h1 : d = 0 ∨ d = 1 ∨ d = 2 ∨ d = 3 := by omega
 have h2 : e = 0 ∨ e = 1 ∨ e = 2 ∨ e = 3 := by omega
 rcases h1 with rfl | rfl | rfl | rfl <;> rcases h2 with rfl | rfl | rfl | rfl <;> rfl
theorem upd_sel (g : α → α) (c : N4 α) (d e : Nat) (hd : d < 4) (he : e < 4) : (upd d g c).sel e = if d = e then g (c.sel e) else c.sel e := by
 unfold upd
 rw [N4.sel_set _ _ _ _ hd he]
 by_cases h : d = e
 ·subst h; simp
 ·simp [h]
theorem Q8.get_put (q : Q8 α) (m n : Nat) (x : α) (hm : m < 65536) (hn : n < 65536) : (Q8.put x q m).get n = if m = n then x else q.get n := by
 unfold Q8.put Q8.get
 have l : ∀ a : Nat, a % 4 < 4 := fun a => Nat.mod_lt _ (by omega)
 rw [upd_sel _ _ _ _ (l _) (l _)]
 by_cases h1 : m / 16384 % 4 = n / 16384 % 4
 ·rw [if_pos h1, upd_sel _ _ _ _ (l _) (l _)]
  by_cases h2 : m / 4096 % 4 = n / 4096 % 4
  ·rw [if_pos h2, upd_sel _ _ _ _ (l _) (l _)]
   by_cases h3 : m / 1024 % 4 = n / 1024 % 4
   ·rw [if_pos h3, upd_sel _ _ _ _ (l _) (l _)]
    by_cases h4 : m / 256 % 4 = n / 256 % 4
    ·rw [if_pos h4, upd_sel _ _ _ _ (l _) (l _)]
     by_cases h5 : m / 64 % 4 = n / 64 % 4
     ·rw [if_pos h5, upd_sel _ _ _ _ (l _) (l _)]
      by_cases h6 : m / 16 % 4 = n / 16 % 4
      ·rw [if_pos h6, upd_sel _ _ _ _ (l _) (l _)]
       by_cases h7 : m / 4 % 4 = n / 4 % 4
       ·rw [if_pos h7, upd_sel _ _ _ _ (l _) (l _)]
        by_cases h8 : m % 4 = n % 4
        ·rw [if_pos h8, if_pos (by omega)]
        ·rw [if_neg h8, if_neg (by omega)]
       ·rw [if_neg h7, if_neg (by omega)]
      ·rw [if_neg h6, if_neg (by omega)]
     ·rw [if_neg h5, if_neg (by omega)]
    ·rw [if_neg h4, if_neg (by omega)]
   ·rw [if_neg h3, if_neg (by omega)]
  ·rw [if_neg h2, if_neg (by omega)]
 ·rw [if_neg h1, if_neg (by omega)]
theorem Tr.get_put (t : Tr α) (p q : Nat) (x : Option α) : (Tr.put x t p).get q = if p = q then x else t.get q := by
 unfold Tr.put Tr.get
 cases hp : Nat.ble 65536 p with
 | true =>
  have hp' := Nat.le_of_ble_eq_true hp
  cases hq : Nat.ble 65536 q with
  | true =>
   dsimp only [cond_true]
   by_cases h : p = q
   ·subst h; simp
   ·rw [if_neg h, show Nat.beq p q = false from by cases hh : Nat.beq p q with | true => exact absurd (Nat.eq_of_beq_eq_true hh) h | false => rfl]; rfl
  | false =>
   have hq' : ¬ 65536 ≤ q := fun h => by rw [Nat.ble_eq_true_of_le h] at hq; cases hq
   dsimp only [cond_true, cond_false]
   rw [if_neg (by omega)]
 | false =>
  have hp' : ¬ 65536 ≤ p := fun h => by rw [Nat.ble_eq_true_of_le h] at hp; cases hp
  cases hq : Nat.ble 65536 q with
  | true =>
   have hq' := Nat.le_of_ble_eq_true hq
   dsimp only [cond_true, cond_false]
   rw [if_neg (by omega)]
  | false =>
   have hq' : ¬ 65536 ≤ q := fun h => by rw [Nat.ble_eq_true_of_le h] at hq; cases hq
   dsimp only [cond_false]
   exact Q8.get_put _ _ _ _ (by omega) (by omega)
end
section
variable {α : Type}
theorem N16.sel_set (c : N16 α) (d e : Nat) (x : α) (hd : d < 16) (he : e < 16) : (c.set d x).sel e = if d = e then x else c.sel e := by
 have h1 : d = 0 ∨ d = 1 ∨ d = 2 ∨ d = 3 ∨ d = 4 ∨ d = 5 ∨ d = 6 ∨ d = 7 ∨ d = 8 ∨ d = 9 ∨ d = 10 ∨ d = 11 ∨ d = 12 ∨ d = 13 ∨ d = 14 ∨ d = 15 := by omega
 have h2 : e = 0 ∨ e = 1 ∨ e = 2 ∨ e = 3 ∨ e = 4 ∨ e = 5 ∨ e = 6 ∨ e = 7 ∨ e = 8 ∨ e = 9 ∨ e = 10 ∨ e = 11 ∨ e = 12 ∨ e = 13 ∨ e = 14 ∨ e = 15 := by omega
 rcases h1 with rfl | rfl | rfl | rfl | rfl | rfl | rfl | rfl | rfl | rfl | rfl | rfl | rfl | rfl | rfl | rfl <;>
  rcases h2 with rfl | rfl | rfl | rfl | rfl | rfl | rfl | rfl | rfl | rfl | rfl | rfl | rfl | rfl | rfl | rfl <;> rfl
end
theorem Tm.get_put (t : Tm) (p q : Nat) (x : AV) : (Tm.put x t p).get q = if p = q then x else t.get q := by
 unfold Tm.put Tm.get
 cases hp : Nat.ble 256 p with
 | true =>
  have hp' := Nat.le_of_ble_eq_true hp
  cases hq : Nat.ble 256 q with
  | true =>
   dsimp only [cond_true]
   by_cases h : p = q
   ·subst h; simp
   ·rw [if_neg h, show Nat.beq p q = false from by cases hh : Nat.beq p q with | true => exact absurd (Nat.eq_of_beq_eq_true hh) h | false => rfl]; rfl
  | false =>
   have hq' : ¬ 256 ≤ q := fun h => by rw [Nat.ble_eq_true_of_le h] at hq; cases hq
   dsimp only [cond_true, cond_false]
   rw [if_neg (by omega)]
 | false =>
  have hp' : ¬ 256 ≤ p := fun h => by rw [Nat.ble_eq_true_of_le h] at hp; cases hp
  cases hq : Nat.ble 256 q with
  | true =>
   have hq' := Nat.le_of_ble_eq_true hq
   dsimp only [cond_true, cond_false]
   rw [if_neg (by omega)]
  | false =>
   have hq' : ¬ 256 ≤ q := fun h => by rw [Nat.ble_eq_true_of_le h] at hq; cases hq
   dsimp only [cond_false]
   rw [N16.sel_set _ _ _ _ (by omega) (by omega)]
   by_cases h1 : p / 16 = q / 16
   ·rw [if_pos h1, N16.sel_set _ _ _ _ (by omega) (by omega), h1]
    by_cases h2 : p % 16 = q % 16
    ·rw [if_pos h2, if_pos (by omega)]
    ·rw [if_neg h2, if_neg (by omega)]
   ·rw [if_neg h1, if_neg (by omega)]
theorem Tm.get_nil (p : Nat) : Tm.nil.get p = undefA := by
 unfold Tm.nil Tm.get
 cases hp : Nat.ble 256 p with
 | true => rfl
 | false =>
  dsimp only [cond_false]
  have : ∀ {α : Type} (x : α) (d : Nat), (N16.rep x).sel d = x := by
   intro α x d; unfold N16.rep N16.sel; split <;> rfl
  rw [this, this]
theorem pathOf_inj {m n : Nat} (_ : m < 65536) (_ : n < 65536) (h : pathOf m = pathOf n) : m = n := h
def Re (e : Env) (x : AV × AV × Nat) (m : MapEntry) : Prop := Rv e x.1 m.key ∧ Rv e x.2.1 m.val ∧ x.2.2 = m.born
inductive Res (e : Env) : List (AV × AV × Nat) → List MapEntry → Prop
 | nil : Res e [] []
 | cons (x : AV × AV × Nat) (m : MapEntry) (xs : List (AV × AV × Nat)) (ms : List MapEntry) (h : Re e x m) (hs : Res e xs ms) : Res e (x :: xs) (m :: ms)
theorem Res.mono {e e' : Env} (he : e.le e') {xs : List (AV × AV × Nat)} {ms : List MapEntry} (h : Res e xs ms) : Res e' xs ms := by
 induction h with
 | nil => exact .nil
 | cons x m xs ms h hs ih => exact .cons _ _ _ _ ⟨h.1.mono he, h.2.1.mono he, h.2.2⟩ ih
inductive Rb (e : Env) (i : Img) : Blk → Obj → Prop
 | cells (ro spare : Bool) (elem : TypeId) (z : Nat) (cs : List AV) (arr : Array Value) (el : TypeId) (fr : Nat × Nat)
   (hz : i.z = z) (hcs : Rl e cs ((arr.toList.drop i.base).take cs.length))
   (hfr : ro = false → ∀ k, k < arr.size → ¬ (fr.1 ≤ k ∧ k < fr.2))
   (hsp : spare = true → arr.size = i.base + i.tot) : Rb e i (.cells ro spare elem z cs) (.cells arr el fr)
 | map (es : List (AV × AV × Nat)) (clock : Nat) (ms : Array MapEntry) (h : Res e es ms.toList) : Rb e i (.map es clock) (.map ms clock)
 | miterN (since last : Nat) (seen : List Nat) (seen' : Array Nat) (h : seen'.toList = seen) (hb : i.base = 0) : Rb e i (.miter none since seen last) (.mapIter none since seen' last)
 | miter (m : Id) (j : Img) (since last : Nat) (seen : List Nat) (seen' : Array Nat) (hm : e m = some j) (h : seen'.toList = seen) (hb : i.base = 0) :
   Rb e i (.miter (some m) since seen last) (.mapIter (some j.blk) since seen' last)
 | siter (s : List Nat) (s' : ByteArray) (pos : Nat) (h : s'.data.toList = s.map UInt8.ofNat) : Rb e i (.siter s pos) (.stringIter s' pos)
theorem Rb.mono {e e' : Env} (he : e.le e') {i : Img} {x : Blk} {o : Obj} (h : Rb e i x o) : Rb e' i x o := by
 cases h with
 | cells ro spare elem z cs arr el fr hz hcs hfr hsp => exact .cells _ _ _ _ _ _ _ _ hz (hcs.mono he) hfr hsp
 | map es clock ms h => exact .map _ _ _ (h.mono he)
 | miterN since last seen seen' h hb => exact .miterN _ _ _ _ h hb
 | miter m j since last seen seen' hm h hb => exact .miter _ _ _ _ _ _ (he _ _ hm) h hb
 | siter s s' pos h => exact .siter _ _ _ h
structure RelH (e : Env) (h : Heap) (w : World) : Prop where
 blocks : ∀ b x i, h.get b = some x → e b = some i → ∃ o, w.heap[i.blk]? = some o ∧ Rb e i x o
 apart : ∀ b b' x x' i i', h.get b = some x → h.get b' = some x' → e b = some i → e b' = some i' → b ≠ b' → x.rw = true → i.blk ≠ i'.blk
 freshE : ∀ b i, e b = some i → num b < num h.next
 freshH : ∀ b x, h.get b = some x → num b < num h.next
structure Post (e : Env) (h : Heap) (w : World) (e' : Env) (h' : Heap) (w' : World) : Prop where
 ext : e.le e'
 rel : RelH e' h' w'
 next : num h.next ≤ num h'.next
 os : w'.os = w.os
 tape : w'.tape = w.tape
 output : w'.output = w.output
 size : w.heap.size ≤ w'.heap.size
 frame : ∀ r, r < w.heap.size → (∀ b x i, h.get b = some x → x.rw = true → e b = some i → i.blk ≠ r) → w'.heap[r]? = w.heap[r]?
 own : ∀ b x i, h'.get b = some x → x.rw = true → e' b = some i → (∃ c y j, h.get c = some y ∧ y.rw = true ∧ e c = some j ∧ j.blk = i.blk) ∨ w.heap.size ≤ i.blk
 ghost : ∀ b x, h.get b = some x → e b = none → h'.get b = some x ∧ e' b = none
 newE : ∀ b i, e' b = some i → e b = none → num h.next ≤ num b
theorem Post.refl {e : Env} {h : Heap} {w : World} (hr : RelH e h w) : Post e h w e h w :=
 ⟨Env.le_refl e, hr, Nat.le_refl _, rfl, rfl, rfl, Nat.le_refl _, fun _ _ _ => rfl, fun b x i hb hx he => .inl ⟨b, x, i, hb, hx, he, rfl⟩,
  fun _ _ hb he => ⟨hb, he⟩, fun b i h1 h2 => by rw [h1] at h2; cases h2⟩
theorem Post.trans {e e1 e2 : Env} {h h1 h2 : Heap} {w w1 w2 : World} (p : Post e h w e1 h1 w1) (q : Post e1 h1 w1 e2 h2 w2) : Post e h w e2 h2 w2 where
 ext := Env.le_trans p.ext q.ext
 rel := q.rel
 next := Nat.le_trans p.next q.next
 os := q.os.trans p.os
 tape := q.tape.trans p.tape
 output := q.output.trans p.output
 size := Nat.le_trans p.size q.size
 frame r hr hno := by
  rw [q.frame r (Nat.lt_of_lt_of_le hr p.size) ?_, p.frame r hr hno]
  intro b x i hb hx he heq
  rcases p.own b x i hb hx he with ⟨c, y, j, hc, hy, hj, hjb⟩ | hge
  ·exact hno c y j hc hy hj (hjb.trans heq)
  ·omega
 own b x i hb hx he := by
  rcases q.own b x i hb hx he with ⟨c, y, j, hc, hy, hj, hjb⟩ | hge
  ·rcases p.own c y j hc hy hj with ⟨d, z, k, hd, hz, hk, hkb⟩ | hge
   ·exact .inl ⟨d, z, k, hd, hz, hk, hkb.trans hjb⟩
   ·exact .inr (by omega)
  ·exact .inr (Nat.le_trans p.size hge)
 ghost b x hb he := by
  obtain ⟨h1', he1⟩ := p.ghost b x hb he
  exact q.ghost b x h1' he1
 newE b i h2 h0 := by
  cases he1 : e1 b with
  | none => exact Nat.le_trans p.next (q.newE b i h2 he1)
  | some j => exact p.newE b j he1 h0
theorem RelH.drawn {e : Env} {h : Heap} {w : World} (hr : RelH e h w) (n : Nat) : RelH e h { w with drawn := n } := ⟨hr.blocks, hr.apart, hr.freshE, hr.freshH⟩
theorem Post.drawn {e e' : Env} {h h' : Heap} {w w' : World} (p : Post e h w e' h' w') (n : Nat) : Post e h w e' h' { w' with drawn := n } :=
 ⟨p.ext, p.rel.drawn n, p.next, p.os, p.tape, p.output, p.size, p.frame, p.own, p.ghost, p.newE⟩
theorem Post.of_drawn {e e' : Env} {h h' : Heap} {w w' : World} {n : Nat} (p : Post e h { w with drawn := n } e' h' w') : Post e h w e' h' w' :=
 ⟨p.ext, p.rel, p.next, p.os, p.tape, p.output, p.size, p.frame, p.own, p.ghost, p.newE⟩
end Go.AM
namespace Go.AM
open Go
variable {P : Program}
theorem run_bind {α β : Type} (s : Sem α) (f : α → Sem β) (w : World) :
  (s >>= f).run P w = match s.run P w with
   | .ok a w' => (f a).run P w'
   | .halt h w' => .halt h w' := by
 show (Sem.bind s f).run P w = _
 induction s generalizing w with
 | pure a => rfl
 | load m a k ih =>
  simp only [Sem.bind, Sem.run]
  (repeat' split) <;> simp_all
 | store m a v k ih =>
  cases v <;> simp only [Sem.bind, Sem.run] <;> (first | rfl | ((repeat' split) <;> simp_all))
 | new o k ih => simp [Sem.bind, Sem.run, ih]
 | shape r k ih => simp [Sem.bind, Sem.run, ih]
 | freeze a n k ih => simp [Sem.bind, Sem.run, ih]
 | frozen a k ih => simp [Sem.bind, Sem.run, ih]
 | getObj r k ih =>
  simp only [Sem.bind, Sem.run]
  split <;> simp_all
 | setObj r o k ih =>
  simp only [Sem.bind, Sem.run]
  split <;> simp_all
 | choose q k ih =>
  simp only [Sem.bind, Sem.run]
  split <;> simp_all
 | sys c k ih => simp [Sem.bind, Sem.run, ih]
 | program k ih => simp [Sem.bind, Sem.run, ih]
 | mark m k ih => simp [Sem.bind, Sem.run, ih]
 | halt h => rfl
theorem run_pure {α : Type} (a : α) (w : World) : (pure a : Sem α).run P w = .ok a w := rfl
theorem Xf {α β : Type} {s : Sem α} {f : α → Sem β} {w w' : World} {a : α} (h : s.run P w = .ok a w') : (s >>= f).run P w = (f a).run P w' := by
 rw [run_bind, h]
theorem run_program (w : World) : (program).run P w = .ok P w := rfl
theorem run_info {t : TypeId} {i : TypeInfo} (h : P.info? t = some i) (w : World) : (typeInfo t).run P w = .ok i w := by
 unfold typeInfo
 rw [Xf (run_program w), h]; rfl
theorem Xn {t : TypeId} {d : TypeDesc} (h : P.underlying t = some d) (w : World) : (underlying t).run P w = .ok d w := by
 unfold underlying
 rw [Xf (run_program w), h]; rfl
theorem run_size {t : TypeId} {i : TypeInfo} (h : P.info? t = some i) (w : World) : (sizeOf t).run P w = .ok i.size w := by
 unfold sizeOf
 rw [Xf (run_info h w)]; rfl
theorem run_zero {t : TypeId} {i : TypeInfo} {v : Value} (h : P.info? t = some i) (hz : i.zero = some v) (w : World) : (zeroValue t).run P w = .ok v w := by
 unfold zeroValue
 rw [Xf (run_info h w), hz]; rfl
theorem run_isAgg {t : TypeId} {d : TypeDesc} (h : P.underlying t = some d) (w : World) :
  (isAgg t).run P w = .ok (isAggD d) w := by
 unfold isAgg
 rw [Xf (Xn h w)]; cases d <;> rfl
theorem run_newObj (o : Obj) (w : World) : (newObj o).run P w = .ok w.heap.size { w with heap := w.heap.push o } := rfl
theorem run_getObj {r : Nat} {o : Obj} {w : World} (h : w.heap[r]? = some o) (ho : ∀ c e f, o ≠ .cells c e f) : (getObj r).run P w = .ok o w := by
 unfold getObj
 simp only [Sem.run, h]
 try (cases o <;> first | rfl | exact absurd rfl (ho _ _ _))
theorem run_setObj {r : Nat} {o o' : Obj} {w : World} (h : w.heap[r]? = some o') (ho : ∀ c e f, o' ≠ .cells c e f) : (setObj r o).run P w = .ok () { w with heap := w.heap.setIfInBounds r o } := by
 unfold setObj
 simp only [Sem.run, h]
 try (cases o' <;> first | rfl | exact absurd rfl (ho _ _ _))
theorem run_choose (q : Question) (w : World) : ∃ n d, (choose q).run P w = .ok n { w with drawn := d } ∧ (q.forced = true → n = 0) ∧ (q.forced = false → n = q.cut (w.tape w.drawn q)) := by
 unfold choose
 simp only [Sem.run]
 cases hq : q.forced with
 | true => exact ⟨0, w.drawn, by simp, fun _ => rfl, fun h => by cases h⟩
 | false => refine ⟨q.cut (w.tape w.drawn q), w.drawn + 1, by simp, fun h => ?_, fun _ => rfl⟩; cases h
theorem Addr.add_at (b o n : Nat) : (⟨b, o, none⟩ : Addr).add n = ⟨b, o + n, none⟩ := by
 unfold Addr.add
 split
 ·rename_i h; subst h; rfl
 ·rfl
theorem run_load {w : World} {b o : Nat} {arr : Array Value} {el : TypeId} {fr : Nat × Nat} {v : Value} (h : w.heap[b]? = some (.cells arr el fr)) (hv : arr[o]? = some v) :
  (load ⟨b, o, none⟩).run P w = .ok v w := by
 unfold load
 have : w.cell? ⟨b, o, none⟩ = some v := by simp [World.cell?, h, hv]
 simp only [Sem.run, this]
theorem run_loadCellsFrom {w : World} {b o : Nat} {arr : Array Value} {el : TypeId} {fr : Nat × Nat} (h : w.heap[b]? = some (.cells arr el fr)) :
  ∀ (n i : Nat) (acc : Array Value), o + i + n ≤ arr.size →
   (loadCellsFrom ⟨b, o, none⟩ i n acc).run P w = .ok (acc ++ ((arr.toList.drop (o + i)).take n).toArray) w := by
 intro n
 induction n with
 | zero => intro i acc _; simp [loadCellsFrom, run_pure]
 | succ n ih =>
  intro i acc hn
  have hlt : o + i < arr.size := by omega
  unfold loadCellsFrom
  rw [Addr.add_at, Xf (run_load h (v := arr[o + i]) (by simp [hlt])), ih (i + 1) _ (by omega)]
  have hd : arr.toList.drop (o + i) = arr[o + i] :: arr.toList.drop (o + i + 1) := by
   rw [List.drop_eq_getElem_cons (by simpa using hlt)]; simp
  have he : o + (i + 1) = o + i + 1 := by omega
  rw [hd, he]
  simp
theorem run_loadCells {w : World} {b o n : Nat} {arr : Array Value} {el : TypeId} {fr : Nat × Nat} (h : w.heap[b]? = some (.cells arr el fr)) (hn : o + n ≤ arr.size) :
  (loadCells ⟨b, o, none⟩ n).run P w = .ok ((arr.toList.drop o).take n).toArray w := by
 unfold loadCells
 rw [run_loadCellsFrom h n 0 #[] (by omega)]
 simp
def over (l : List Value) (o : Nat) (vs : List Value) : List Value := l.take o ++ vs ++ l.drop (o + vs.length)
theorem over_length {l : List Value} {o : Nat} {vs : List Value} (h : o + vs.length ≤ l.length) : (over l o vs).length = l.length := by
 simp [over]; omega
def setCells (w : World) (b : Nat) (arr : Array Value) (el : TypeId) (fr : Nat × Nat) : World := { w with heap := w.heap.setIfInBounds b (.cells arr el fr) }
theorem setCell_eq {w : World} {b o : Nat} {arr : Array Value} {el : TypeId} {fr : Nat × Nat} {v : Value} (h : w.heap[b]? = some (.cells arr el fr)) :
  w.setCell ⟨b, o, none⟩ v = setCells w b (arr.setIfInBounds o v) el fr := by
 unfold World.setCell setCells
 congr 1
 apply Array.ext_getElem?
 intro i
 have hb : b < w.heap.size := by
  rcases Nat.lt_or_ge b w.heap.size with h' | h'
  ·exact h'
  ·rw [Array.getElem?_eq_none h'] at h; cases h
 simp only [Array.getElem?_modify, Array.getElem?_setIfInBounds]
 by_cases hi : b = i
 ·subst hi
  have h' : w.heap[b] = .cells arr el fr := by simpa [hb] using h
  simp [h', hb]
 ·simp [hi]
theorem setCells_get {w : World} {b : Nat} {arr : Array Value} {el : TypeId} {fr : Nat × Nat} (hb : b < w.heap.size) : (setCells w b arr el fr).heap[b]? = some (.cells arr el fr) := by
 simp [setCells, hb]
theorem setCells_set {w : World} {b : Nat} {arr arr' : Array Value} {el el' : TypeId} {fr fr' : Nat × Nat} : setCells (setCells w b arr el fr) b arr' el' fr' = setCells w b arr' el' fr' := by
 simp [setCells]
theorem setCells_same {w : World} {b : Nat} {arr : Array Value} {el : TypeId} {fr : Nat × Nat} (h : w.heap[b]? = some (.cells arr el fr)) : setCells w b arr el fr = w := by
 have : w.heap.setIfInBounds b (.cells arr el fr) = w.heap := by
  apply Array.ext_getElem?
  intro i
  simp only [Array.getElem?_setIfInBounds]
  split
  ·rename_i hi; subst hi
   split
   ·exact h.symm
   ·rename_i hn
    rw [Array.getElem?_eq_none (by omega)]
  ·rfl
 unfold setCells
 rw [this]
theorem run_store {w : World} {a : Addr} {v u : Value} (hv : ∀ vs, v ≠ .agg vs) (ho : ∀ vs, v ≠ .tuple vs) (hc : w.cell? a = some u) (hf : w.frozen? a = false) :
  (store a v).run P w = .ok () (w.setCell a v) := by
 unfold store
 cases v <;> simp [Sem.run, hc, hf] <;> first | (exact absurd rfl (ho _)) | (exact absurd rfl (hv _))
def oneC : Value → Bool
 | .agg _ | .tuple _ => false
 | _ => true
theorem over_set (l : List Value) (p : Nat) (v : Value) (vs : List Value) (h : p < l.length) : over (l.set p v) (p + 1) vs = over l p (v :: vs) := by
 apply List.ext_getElem?
 intro k
 simp only [over, List.append_assoc, List.getElem?_append, List.length_take, List.length_set, List.getElem?_take, List.getElem?_drop, List.getElem?_set, List.length_cons]
 have h1 : min (p + 1) l.length = p + 1 := by omega
 have h2 : min p l.length = p := by omega
 rw [h1, h2]
 by_cases a : k < p
 ·have : k < p + 1 := by omega
  have : p ≠ k := by omega
  simp [*]
 ·by_cases b : k = p
  ·subst b
   simp [h]
  ·have c : ¬ k < p + 1 := by omega
   have d : k - p = (k - (p + 1)) + 1 := by omega
   rw [if_neg c, if_neg a, d]
   simp only [List.getElem?_cons_succ]
   by_cases e : k - (p + 1) < vs.length
   ·have e' : k - (p + 1) + 1 < vs.length + 1 := by omega
    simp [e]
   ·have e' : ¬ k - (p + 1) + 1 < vs.length + 1 := by omega
    have f : p ≠ p + 1 + vs.length + (k - (p + 1) - vs.length) := by omega
    rw [if_neg e, if_neg f, if_neg e']
    congr 1
    omega
theorem run_storeCells {b o : Nat} {el : TypeId} {fr : Nat × Nat} : ∀ (vs : List Value) (i : Nat) (w : World) (arr : Array Value), w.heap[b]? = some (.cells arr el fr) →
  (∀ v ∈ vs, oneC v = true) → o + i + vs.length ≤ arr.size → (∀ k, k < arr.size → ¬ (fr.1 ≤ k ∧ k < fr.2)) →
  (storeCells ⟨b, o, none⟩ vs i).run P w = .ok () (setCells w b (over arr.toList (o + i) vs).toArray el fr) := by
 intro vs
 induction vs with
 | nil =>
  intro i w arr h _ _ _
  have : (over arr.toList (o + i) []).toArray = arr := by simp [over]
  rw [this, setCells_same h]
  rfl
 | cons v vs ih =>
  intro i w arr h hone hlen hfr
  have hlt : o + i < arr.size := by simp at hlen; omega
  have hb : b < w.heap.size := by
   rcases Nat.lt_or_ge b w.heap.size with h' | h'
   ·exact h'
   ·rw [Array.getElem?_eq_none h'] at h; cases h
  have hc : w.cell? ⟨b, o + i, none⟩ = some arr[o + i] := by simp [World.cell?, h, hlt]
  have hf : w.frozen? ⟨b, o + i, none⟩ = false := by
   have := hfr (o + i) hlt
   simp only [World.frozen?, h]
   cases h1 : (decide (fr.1 ≤ o + i) && decide (o + i < fr.2)) with
   | false => rfl
   | true => simp at h1; exact absurd h1 this
  have h1 := hone v (by simp)
  unfold storeCells
  rw [Addr.add_at, Xf (run_store (by intro vs e; subst e; cases h1) (by intro vs e; subst e; cases h1) hc hf), setCell_eq h,
   ih (i + 1) _ (arr.setIfInBounds (o + i) v) (setCells_get hb) (fun u hu => hone u (by simp [hu])) (by simp at hlen ⊢; omega) (by simpa using hfr), setCells_set]
  congr 2
  have he : (arr.setIfInBounds (o + i) v).toList = arr.toList.set (o + i) v := by simp
  rw [he]
  rw [show o + (i + 1) = o + i + 1 by omega, over_set _ _ _ _ (by simpa using hlt)]
end Go.AM
namespace Go.AM
open Go
theorem takeAt_go (cs : List AV) (n : Nat) {r : List AV} (h : takeAt.go cs n = some r) : r = cs.take n ∧ r.length = n := by
 induction n generalizing cs r with
 | zero => cases cs <;> simp [takeAt.go] at h <;> subst h <;> simp
 | succ n ih =>
  cases cs with
  | nil => simp [takeAt.go] at h
  | cons c cs =>
   simp only [takeAt.go, Option.map_eq_some_iff] at h
   obtain ⟨r', h', rfl⟩ := h
   obtain ⟨h1, h2⟩ := ih cs h'
   exact ⟨by simp [h1], by simp [h2]⟩
theorem takeAt_some {cs : List AV} {o n : Nat} {r : List AV} (h : takeAt cs o n = some r) : r = (cs.drop o).take n ∧ r.length = n := by
 induction o generalizing cs with
 | zero => rw [takeAt] at h; simpa using takeAt_go cs n h
 | succ o ih =>
  cases cs with
  | nil =>
   simp only [takeAt] at h
   cases hn : Nat.beq n 0 with
   | true =>
    have : n = 0 := Nat.eq_of_beq_eq_true hn
    subst this
    rw [hn] at h; simp at h; subst h; simp
   | false => rw [hn] at h; simp at h
  | cons c cs => simp only [takeAt] at h; simpa using ih h
theorem takeAt_le {cs : List AV} {o n : Nat} {r : List AV} (h : takeAt cs o n = some r) (hn : 0 < n) : o + n ≤ cs.length := by
 obtain ⟨h1, h2⟩ := takeAt_some h
 have := congrArg List.length h1
 simp at this
 omega
theorem setAt_over {cs vs r : List AV} (h : setAt.over cs vs = some r) : vs.length ≤ cs.length ∧ r = vs ++ cs.drop vs.length := by
 induction vs generalizing cs r with
 | nil => cases cs <;> simp [setAt.over] at h <;> subst h <;> simp
 | cons v vs ih =>
  cases cs with
  | nil => simp [setAt.over] at h
  | cons c cs =>
   simp only [setAt.over, Option.map_eq_some_iff] at h
   obtain ⟨r', h', rfl⟩ := h
   obtain ⟨h1, h2⟩ := ih h'
   exact ⟨by simp [h1], by simp [h2]⟩
theorem setAt_some {cs vs r : List AV} {o : Nat} (h : setAt cs o vs = some r) : (vs = [] ∧ r = cs) ∨ (o + vs.length ≤ cs.length ∧ r = cs.take o ++ vs ++ cs.drop (o + vs.length)) := by
 induction o generalizing cs r with
 | zero =>
  have h' : setAt.over cs vs = some r := by cases cs <;> exact h
  obtain ⟨h1, h2⟩ := setAt_over h'
  exact .inr ⟨by omega, by simpa using h2⟩
 | succ o ih =>
  cases cs with
  | nil =>
   cases vs with
   | nil => simp [setAt] at h; exact .inl ⟨rfl, h⟩
   | cons => simp [setAt] at h
  | cons c cs =>
   simp only [setAt, Option.map_eq_some_iff] at h
   obtain ⟨r', h', rfl⟩ := h
   rcases ih h' with ⟨h1, h2⟩ | ⟨h1, h2⟩
   ·exact .inl ⟨h1, by rw [h2]⟩
   ·refine .inr ⟨by simp; omega, ?_⟩
    rw [h2]
    have : o + 1 + vs.length = (o + vs.length) + 1 := by omega
    simp [this]
variable {e : Env} {h : Heap} {w : World}
theorem Heap.get_put (h : Heap) (b c : Id) (x : Blk) : (h.put b x).get c = if b = c then some x else h.get c := by
 simp [Heap.put, Heap.get, Tr.get_put]
theorem Heap.get_kill (h : Heap) (b c : Id) : (h.kill b).get c = if b = c then none else h.get c := by
 simp [Heap.kill, Heap.get, Tr.get_put]
theorem Heap.get_new (h : Heap) (c : Id) (x : Blk) : (h.new x).get c = if h.next = c then some x else h.get c := by
 simp [Heap.new, Heap.get, Tr.get_put]
def Env.set (e : Env) (b : Id) (i : Img) : Env := fun c => if b = c then some i else e c
theorem RelH.no_next (r : RelH e h w) : e h.next = none := by
 cases hn : e h.next with
 | none => rfl
 | some i => exact absurd (r.freshE _ _ hn) (Nat.lt_irrefl _)
theorem RelH.set_le (r : RelH e h w) (i : Img) : e.le (e.set h.next i) := by
 intro b j hb
 unfold Env.set
 split
 ·rename_i hn; subst hn; rw [r.no_next] at hb; cases hb
 ·exact hb
theorem RelH.lt (r : RelH e h w) {b : Id} {x : Blk} {i : Img} (hb : h.get b = some x) (hi : e b = some i) : i.blk < w.heap.size := by
 obtain ⟨o, ho, _⟩ := r.blocks b x i hb hi
 rcases Nat.lt_or_ge i.blk w.heap.size with h' | h'
 ·exact h'
 ·rw [Array.getElem?_eq_none h'] at ho; cases ho
theorem post_new (r : RelH e h w) (x : Blk) (o : Obj) (base z tot : Nat) (hb : Rb (e.set h.next ⟨w.heap.size, base, z, tot⟩) ⟨w.heap.size, base, z, tot⟩ x o) :
  Post e h w (e.set h.next ⟨w.heap.size, base, z, tot⟩) (h.new x) { w with heap := w.heap.push o } where
 ext := r.set_le _
 rel := {
  blocks := fun b y i hy hi => by
   rw [Heap.get_new] at hy
   unfold Env.set at hi
   split at hy
   ·rename_i hn
    rw [if_pos hn] at hi
    cases hi; cases hy
    exact ⟨o, by simp, hb⟩
   ·rename_i hn
    rw [if_neg hn] at hi
    obtain ⟨o', ho', hb'⟩ := r.blocks b y i hy hi
    exact ⟨o', by simp only [Array.getElem?_push]; rw [if_neg (Nat.ne_of_lt (r.lt hy hi)), ho'], hb'.mono (r.set_le _)⟩
  apart := fun b b' y y' i i' hy hy' hi hi' hne hrw => by
   rw [Heap.get_new] at hy hy'
   unfold Env.set at hi hi'
   split at hy <;> split at hy'
   ·rename_i h1 h2; exact absurd (h1.symm.trans h2) hne
   ·rename_i h1 h2
    rw [if_pos h1] at hi; rw [if_neg h2] at hi'
    cases hi
    exact Nat.ne_of_gt (r.lt hy' hi')
   ·rename_i h1 h2
    rw [if_neg h1] at hi; rw [if_pos h2] at hi'
    cases hi'
    exact Nat.ne_of_lt (r.lt hy hi)
   ·rename_i h1 h2
    rw [if_neg h1] at hi; rw [if_neg h2] at hi'
    exact r.apart b b' y y' i i' hy hy' hi hi' hne hrw
  freshE := fun b i hi => by
   show num b < num (incr h.next)
   rw [num_incr]
   unfold Env.set at hi
   split at hi
   ·rename_i hn; subst hn; omega
   ·have := r.freshE b i hi; omega
  freshH := fun b y hy => by
   show num b < num (incr h.next)
   rw [num_incr]
   rw [Heap.get_new] at hy
   split at hy
   ·rename_i hn; subst hn; omega
   ·have := r.freshH b y hy; omega }
 next := by show num h.next ≤ num (incr h.next); rw [num_incr]; omega
 os := rfl
 tape := rfl
 output := rfl
 size := by simp
 frame := fun q hq _ => by simp only [Array.getElem?_push]; rw [if_neg (Nat.ne_of_lt hq)]
 own := fun b y i hy hrw hi => by
  rw [Heap.get_new] at hy
  unfold Env.set at hi
  split at hy
  ·rename_i hn; rw [if_pos hn] at hi; cases hi; exact .inr (Nat.le_refl _)
  ·rename_i hn; rw [if_neg hn] at hi; exact .inl ⟨b, y, i, hy, hrw, hi, rfl⟩
 ghost := fun b y hy he => by
  have hne : h.next ≠ b := by intro e'; have := r.freshH b y hy; rw [← e'] at this; omega
  exact ⟨by rw [Heap.get_new, if_neg hne]; exact hy, by unfold Env.set; rw [if_neg hne]; exact he⟩
 newE := fun b i hi h0 => by
  unfold Env.set at hi
  split at hi
  ·rename_i hn; subst hn; exact Nat.le_refl _
  ·rw [h0] at hi; cases hi
theorem post_set (r : RelH e h w) {b : Id} {x x' : Blk} {i : Img} {o : Obj} (hx : h.get b = some x) (hrw : x.rw = true) (hi : e b = some i) (hb : Rb e i x' o) :
  Post e h w e (h.put b x') { w with heap := w.heap.setIfInBounds i.blk o } where
 ext := Env.le_refl e
 rel := {
  blocks := fun c y j hy hj => by
   rw [Heap.get_put] at hy
   split at hy
   ·rename_i hn; subst hn
    rw [hi] at hj; cases hj; cases hy
    exact ⟨o, by simp [r.lt hx hi], hb⟩
   ·rename_i hn
    obtain ⟨o', ho', hb'⟩ := r.blocks c y j hy hj
    have hne : i.blk ≠ j.blk := r.apart b c x y i j hx hy hi hj hn hrw
    exact ⟨o', by simp only [Array.getElem?_setIfInBounds]; rw [if_neg hne, ho'], hb'⟩
  apart := fun c c' y y' j j' hy hy' hj hj' hne hrw' => by
   rw [Heap.get_put] at hy hy'
   split at hy <;> split at hy'
   ·rename_i h1 h2; exact absurd (h1.symm.trans h2) hne
   ·rename_i h1 h2; subst h1; exact r.apart b c' x y' j j' hx hy' hj hj' hne hrw
   ·rename_i h1 h2; subst h2; exact Ne.symm (r.apart b c x y j' j hx hy hj' hj (Ne.symm hne) hrw)
   ·exact r.apart c c' y y' j j' hy hy' hj hj' hne hrw'
  freshE := r.freshE
  freshH := fun c y hy => by
   rw [Heap.get_put] at hy
   split at hy
   ·rename_i hn; subst hn; exact r.freshH b x hx
   ·exact r.freshH c y hy }
 next := Nat.le_refl _
 os := rfl
 tape := rfl
 output := rfl
 size := by simp
 frame := fun q hq hno => by
  simp only [Array.getElem?_setIfInBounds]
  rw [if_neg (hno b x i hx hrw hi)]
 own := fun c y j hy hrw' hj => by
  rw [Heap.get_put] at hy
  split at hy
  ·rename_i hn; subst hn; exact .inl ⟨b, x, j, hx, hrw, hj, rfl⟩
  ·exact .inl ⟨c, y, j, hy, hrw', hj, rfl⟩
 ghost := fun c y hy he => by
  have hne : b ≠ c := by intro e'; subst e'; rw [hi] at he; cases he
  exact ⟨by rw [Heap.get_put, if_neg hne]; exact hy, he⟩
 newE := fun c j hj h0 => by rw [h0] at hj; cases hj
theorem post_kill (r : RelH e h w) {b : Id} {i : Img} (hi : e b = some i) : Post e h w e (h.kill b) w where
 ext := Env.le_refl e
 rel := {
  blocks := fun c y j hy hj => by
   rw [Heap.get_kill] at hy
   split at hy
   ·cases hy
   ·exact r.blocks c y j hy hj
  apart := fun c c' y y' j j' hy hy' hj hj' hne hrw' => by
   rw [Heap.get_kill] at hy hy'
   split at hy
   ·cases hy
   ·split at hy'
    ·cases hy'
    ·exact r.apart c c' y y' j j' hy hy' hj hj' hne hrw'
  freshE := r.freshE
  freshH := fun c y hy => by
   rw [Heap.get_kill] at hy
   split at hy
   ·cases hy
   ·exact r.freshH c y hy }
 next := Nat.le_refl _
 os := rfl
 tape := rfl
 output := rfl
 size := Nat.le_refl _
 frame := fun _ _ _ => rfl
 own := fun c y j hy hrw' hj => by
  rw [Heap.get_kill] at hy
  split at hy
  ·cases hy
  ·exact .inl ⟨c, y, j, hy, hrw', hj, rfl⟩
 ghost := fun c y hy he => by
  have hne : b ≠ c := by intro e'; subst e'; rw [hi] at he; cases he
  exact ⟨by rw [Heap.get_kill, if_neg hne]; exact hy, he⟩
 newE := fun c j hj h0 => by rw [h0] at hj; cases hj
theorem post_adopt (r : RelH e h w) {b : Id} {x x' : Blk} {i : Img} {o : Obj} (base z tot : Nat) (hx : h.get b = some x) (hrw : x.rw = true) (hi : e b = some i)
  (hb : Rb (e.set h.next ⟨i.blk, base, z, tot⟩) ⟨i.blk, base, z, tot⟩ x' o) :
  Post e h w (e.set h.next ⟨i.blk, base, z, tot⟩) ((h.kill b).new x') { w with heap := w.heap.setIfInBounds i.blk o } where
 ext := r.set_le _
 rel := {
  blocks := fun c y j hy hj => by
   rw [Heap.get_new, Heap.get_kill] at hy
   unfold Env.set at hj
   change (if h.next = c then some x' else if b = c then none else h.get c) = some y at hy
   split at hy
   ·rename_i hn
    rw [if_pos hn] at hj
    cases hj; cases hy
    exact ⟨o, by simp [r.lt hx hi], hb⟩
   ·rename_i hn
    rw [if_neg hn] at hj
    split at hy
    ·cases hy
    ·rename_i hbc
     obtain ⟨o', ho', hb'⟩ := r.blocks c y j hy hj
     have hne : i.blk ≠ j.blk := r.apart b c x y i j hx hy hi hj hbc hrw
     exact ⟨o', by simp only [Array.getElem?_setIfInBounds]; rw [if_neg hne, ho'], hb'.mono (r.set_le _)⟩
  apart := fun c c' y y' j j' hy hy' hj hj' hne hrw' => by
   rw [Heap.get_new, Heap.get_kill] at hy hy'
   unfold Env.set at hj hj'
   change (if h.next = c then some x' else if b = c then none else h.get c) = some y at hy
   change (if h.next = c' then some x' else if b = c' then none else h.get c') = some y' at hy'
   split at hy
   ·rename_i h1
    rw [if_pos h1] at hj; cases hj
    split at hy'
    ·rename_i h2; exact absurd (h1.symm.trans h2) hne
    ·rename_i h2
     rw [if_neg h2] at hj'
     split at hy'
     ·cases hy'
     ·rename_i hbc; exact r.apart b c' x y' i j' hx hy' hi hj' hbc hrw
   ·rename_i h1
    rw [if_neg h1] at hj
    split at hy
    ·cases hy
    ·rename_i hbc
     split at hy'
     ·rename_i h2
      rw [if_pos h2] at hj'; cases hj'
      exact Ne.symm (r.apart b c x y i j hx hy hi hj hbc hrw)
     ·rename_i h2
      rw [if_neg h2] at hj'
      split at hy'
      ·cases hy'
      ·exact r.apart c c' y y' j j' hy hy' hj hj' hne hrw'
  freshE := fun c j hj => by
   show num c < num (incr h.next)
   rw [num_incr]
   unfold Env.set at hj
   split at hj
   ·rename_i hn; subst hn; omega
   ·have := r.freshE c j hj; omega
  freshH := fun c y hy => by
   show num c < num (incr h.next)
   rw [num_incr]
   rw [Heap.get_new, Heap.get_kill] at hy
   change (if h.next = c then some x' else if b = c then none else h.get c) = some y at hy
   split at hy
   ·rename_i hn; subst hn; omega
   ·split at hy
    ·cases hy
    ·have := r.freshH c y hy; omega }
 next := by show num h.next ≤ num (incr h.next); rw [num_incr]; omega
 os := rfl
 tape := rfl
 output := rfl
 size := by simp
 frame := fun q hq hno => by
  simp only [Array.getElem?_setIfInBounds]
  rw [if_neg (hno b x i hx hrw hi)]
 own := fun c y j hy hrw' hj => by
  rw [Heap.get_new, Heap.get_kill] at hy
  unfold Env.set at hj
  change (if h.next = c then some x' else if b = c then none else h.get c) = some y at hy
  split at hy
  ·rename_i hn; rw [if_pos hn] at hj; cases hj; exact .inl ⟨b, x, i, hx, hrw, hi, rfl⟩
  ·rename_i hn
   rw [if_neg hn] at hj
   split at hy
   ·cases hy
   ·exact .inl ⟨c, y, j, hy, hrw', hj, rfl⟩
 ghost := fun c y hy he => by
  have hne : b ≠ c := by intro e'; subst e'; rw [hi] at he; cases he
  have hnn : h.next ≠ c := by intro e'; have := r.freshH c y hy; rw [← e'] at this; omega
  refine ⟨?_, by unfold Env.set; rw [if_neg hnn]; exact he⟩
  rw [Heap.get_new, Heap.get_kill]
  change (if h.next = c then some x' else if b = c then none else h.get c) = some y
  rw [if_neg hnn, if_neg hne]; exact hy
 newE := fun c j hj h0 => by
  unfold Env.set at hj
  split at hj
  ·rename_i hn; subst hn; exact Nat.le_refl _
  ·rw [h0] at hj; cases hj
end Go.AM
