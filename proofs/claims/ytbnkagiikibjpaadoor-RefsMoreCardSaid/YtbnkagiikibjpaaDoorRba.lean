/- Rb, part 1: several texts of mine, laid together. -/
import Derived.Test.YtbnkagiikibjpaaDoorProg
import Derived.Calls
import Derived.Laws.Sem
import Derived.Orders
import Derived.ScopeJumps
import Derived.Below
import Derived.Laws.AppendOwn
import Derived.RowKit3
import Derived.Lib.LaidTab
import Derived.Lib.ItoaNum
import Derived.Laws.Entries
import Derived.Laws.Slices
import Derived.Laws.Cells
import Derived.Laws.BytesString
import Derived.Laws.BytesArg
import Derived.Laws.Small
import Derived.Deep.AppendSrc
import Derived.Deep.Upon
import Derived.Laws.OwnMore
import Derived.Laws.Build
import Derived.Laws.MakeOwn
import Derived.Laws.Tables
import Derived.Laws.IdiomStrings
set_option linter.unusedVariables false
set_option linter.unusedSimpArgs false
/- ENGINE, part A: values of the abstract machine (typed lists in place of memory), its operations and its control, as plain functions. -/
namespace Go.Eng
open Go
noncomputable section
/-- The types of what is handled by value. -/
inductive Ty where
  | int (k : IntKind)
  | bool
  | str
  | flt (k : FloatKind)
  | unit
  | pair (a b : Ty)
  | sl (e : Ty)
namespace Ty
@[reducible] def den : Ty → Type
  | .int _ => Int
  | .bool => Bool
  | .str => ByteArray
  | .flt _ => Nat
  | .unit => Unit
  | .pair a b => a.den × b.den
  | .sl e => List e.den
def sz : Ty → Nat
  | .unit => 0
  | .pair a b => a.sz + b.sz
  | _ => 1
def dflt : (t : Ty) → t.den
  | .int _ => (0 : Int)
  | .bool => false
  | .str => ByteArray.empty
  | .flt _ => (0 : Nat)
  | .unit => ()
  | .pair a b => (a.dflt, b.dflt)
  | .sl _ => []
def kindNo : IntKind → Nat
  | .i8 => 0 | .i16 => 1 | .i32 => 2 | .i64 => 3 | .u8 => 4 | .u16 => 5 | .u32 => 6 | .u64 => 7
def fkNo : FloatKind → Nat
  | .f32 => 0 | .f64 => 1
def same : Ty → Ty → Bool
  | .int j, .int k => kindNo j == kindNo k
  | .bool, .bool => true
  | .str, .str => true
  | .flt j, .flt k => fkNo j == fkNo k
  | .unit, .unit => true
  | .pair a b, .pair c d => a.same c && b.same d
  | .sl a, .sl b => a.same b
  | _, _ => false
theorem kindNo_inj {j k : IntKind} (h : (kindNo j == kindNo k) = true) : j = k := by
  cases j <;> cases k <;> first | rfl | (exact absurd h (by decide))
theorem fkNo_inj {j k : FloatKind} (h : (fkNo j == fkNo k) = true) : j = k := by
  cases j <;> cases k <;> first | rfl | (exact absurd h (by decide))
theorem same_eq : ∀ {a b : Ty}, a.same b = true → a = b := by
  intro a
  induction a with
  | int j => intro b h; cases b <;> simp only [same, Bool.false_eq_true] at h; rw [kindNo_inj h]
  | bool => intro b h; cases b <;> simp only [same, Bool.false_eq_true] at h; rfl
  | str => intro b h; cases b <;> simp only [same, Bool.false_eq_true] at h; rfl
  | flt j => intro b h; cases b <;> simp only [same, Bool.false_eq_true] at h; rw [fkNo_inj h]
  | unit => intro b h; cases b <;> simp only [same, Bool.false_eq_true] at h; rfl
  | pair a c iha ihc =>
    intro b h
    cases b <;> simp only [same, Bool.false_eq_true, Bool.and_eq_true] at h
    rw [iha h.1, ihc h.2]
  | sl a iha => intro b h; cases b <;> simp only [same, Bool.false_eq_true] at h; rw [iha h]
/-- What is of type a, taken for what is of type b, where they are one. -/
def cast {a b : Ty} (x : a.den) : Option b.den := if h : a.same b = true then some (same_eq h ▸ x) else none
end Ty

inductive AV where
  | v (t : Ty) (x : t.den)
  | al (e : Ty) (xs : List e.den)
  | own (id : Nat) (T : TypeId) (e : Ty) (xs : List e.den)
  | el (id : Nat) (T : TypeId) (e : Ty) (xs : List e.den) (i : Nat)
  | nilS
  | agg (cs : List AV)
  | tup (vs : List AV)
  | ptr (id : Nat) (off : Nat)
  | ro (cs : List AV)
  | fn (f : FuncId) (caps : List AV)
  | raw (v : Value)
  | bad
namespace AV
def isV : AV → Bool
  | .v _ _ => true
  | _ => false
end AV
/-- The cells of a typed value. -/
def cellsT : (t : Ty) → t.den → List AV
  | .int k, x => [.v (.int k) x]
  | .bool, x => [.v .bool x]
  | .str, x => [.v .str x]
  | .flt k, x => [.v (.flt k) x]
  | .unit, _ => []
  | .pair a b, x => cellsT a x.1 ++ cellsT b x.2
  | .sl e, x => [.v (.sl e) x]
/-- One cell as a typed value. -/
def cellTy (t : Ty) : AV → Option t.den
  | .v _ x => Ty.cast x
  | .nilS => match t with
    | .sl _ => some []
    | _ => none
  | _ => none
/-- Cells as a typed value, and those that are left. -/
def ofCells : (t : Ty) → List AV → Option (t.den × List AV)
  | .unit, cs => some ((), cs)
  | .pair a b, cs => match ofCells a cs with
    | some (x, cs') => match ofCells b cs' with
      | some (y, cs'') => some ((x, y), cs'')
      | none => none
    | none => none
  | .int k, c :: cs => (cellTy (.int k) c).map (·, cs)
  | .bool, c :: cs => (cellTy .bool c).map (·, cs)
  | .str, c :: cs => (cellTy .str c).map (·, cs)
  | .flt k, c :: cs => (cellTy (.flt k) c).map (·, cs)
  | .sl e, c :: cs => (cellTy (.sl e) c).map (·, cs)
  | _, [] => none
/-- A value's cells. -/
def AV.cells : AV → Option (List AV)
  | .agg cs => some cs
  | .tup _ => none
  | .bad => none
  | x => some [x]
def okCell : AV → Bool
  | .agg _ => false
  | .tup _ => false
  | .bad => false
  | .ro _ => false
  | .el _ _ _ _ _ => false
  | .fn _ _ => false
  | .v t _ => Nat.beq t.sz 1
  | .raw (.agg _) => false
  | .raw (.tuple _) => false
  | _ => true
def AV.asTy (t : Ty) (x : AV) : Option t.den := match x.cells with
  | some cs => if cs.all okCell then (match ofCells t cs with
    | some (y, []) => some y
    | _ => none) else none
  | none => none
/-- A slice's elements, whosoever it is. -/
def AV.asSl (e : Ty) : AV → Option (List e.den)
  | .v (.sl e') xs => (Ty.cast (a := .sl e') (b := .sl e) xs : Option (List e.den))
  | .al e' xs => (Ty.cast (a := .sl e') (b := .sl e) xs : Option (List e.den))
  | .own _ _ e' xs => (Ty.cast (a := .sl e') (b := .sl e) xs : Option (List e.den))
  | .nilS => some []
  | _ => none
def ofConst : Value → AV
  | .int k n => .v (.int k) n
  | .bool b => .v .bool b
  | .string s => .v .str s
  | .float k b => .v (.flt k) b
  | .slice none 0 0 => .nilS
  | .agg cs => if cs.toList.all (·.oneCell') then .agg (cs.toList.map fun
    | .int k n => .v (.int k) n
    | .bool b => .v .bool b
    | .string s => .v .str s
    | .float k b => .v (.flt k) b
    | .slice none 0 0 => .nilS
    | v => .raw v) else .raw (.agg cs)
  | v => .raw v
def cellV : AV → Option Value
  | .v (.int k) n => some (.int k n)
  | .v .bool b => some (.bool b)
  | .v .str s => some (.string s)
  | .v (.flt k) b => some (.float k b)
  | .raw v => some v
  | _ => none
def cellsV : List AV → Option (List Value)
  | [] => some []
  | c :: cs => match cellV c, cellsV cs with
    | some v, some vs => some (v :: vs)
    | _, _ => none
/-- The very value, where it hangs on no memory. -/
def AV.toV : AV → Option Value
  | .agg cs => (cellsV cs).map fun vs => .agg vs.toArray
  | x => cellV x

structure St where
  t : List AV
  bx : List (Option (TypeId × List AV))
  live : Nat
  g : List AV
def St.put (s : St) (d : Option Tmp) (x : AV) : St := match d with
  | some d => { s with t := s.t.set d x }
  | none => s
def St.ev (s : St) : Operand → AV
  | .tmp t => s.t.getD t .bad
  | .const v => ofConst v
  | .func f => .fn f []
  | .global _ => .bad
def hasBit (m i : Nat) : Bool := m.testBit i
def addBit (m i : Nat) : Nat := m ||| 2 ^ i
def delBit (m i : Nat) : Nat := m ^^^ 2 ^ i

/-- What a call answers: slices of its own or to read, structs, numbers; one, or several side by side. -/
inductive Sh where
  | one (own : Option TypeId) (t : Ty)
  | tup (l : List (Option TypeId × Ty))
@[reducible] def denL : List (Option TypeId × Ty) → Type
  | [] => Unit
  | (_, t) :: r => t.den × denL r
@[reducible] def Sh.den : Sh → Type
  | .one _ t => t.den
  | .tup l => denL l
/-- Of a type of its own: a slice that is owned; a struct by its cells. -/
def mk1 (id : Nat) : (own : Option TypeId) → (t : Ty) → t.den → AV
  | some T, .sl e, x => .own id T e x
  | _, .pair a b, x => .agg (cellsT (.pair a b) x)
  | _, .unit, _ => .agg []
  | _, t, x => .v t x
def mkL (id : Nat) : (l : List (Option TypeId × Ty)) → denL l → List AV
  | [], _ => []
  | (o, t) :: r, x => mk1 id o t x.1 :: mkL (id + 1) r x.2
def mkAV (id : Nat) : (s : Sh) → s.den → AV
  | .one o t, x => mk1 id o t x
  | .tup l, x => .tup (mkL id l x)
def Ty.isSl : Ty → Bool
  | .sl _ => true
  | _ => false
def bitsL (id : Nat) (m : Nat) : List (Option TypeId × Ty) → Nat
  | [] => m
  | (o, t) :: r => bitsL (id + 1) (if o.isSome && t.isSl then addBit m id else m) r
def Sh.bits (id m : Nat) : Sh → Nat
  | .one o t => if o.isSome && t.isSl then addBit m id else m
  | .tup l => bitsL id m l
/-- Is a slice to read in it (not one of its own)? -/
def Ty.noSl : Ty → Bool
  | .sl _ => false
  | .pair a b => a.noSl && b.noSl
  | _ => true
def fresh1 : Option TypeId × Ty → Bool
  | (some _, .sl e) => e.noSl
  | (_, t) => t.noSl
def Sh.fresh : Sh → Bool
  | .one o t => fresh1 (o, t)
  | .tup l => l.all fresh1
def Ty.flat : Ty → Bool
  | .sl e => e.noSl
  | .pair a b => a.flat && b.flat
  | _ => true
def Ty.aggB : Ty → Bool
  | .pair _ _ => true
  | _ => false
/-- Is a struct in it whose slices are all new? -/
def Sh.frs : Sh → Bool
  | .one o t => o.isSome && t.aggB
  | .tup l => l.any fun p => p.1.isSome && p.2.aggB
def Sh.flat : Sh → Bool
  | .one _ t => t.flat
  | .tup l => l.all fun p => p.2.flat
def Sh.freshA (sh : Sh) : Bool := sh.fresh || sh.frs
def Sh.noOwn : Sh → Bool
  | .one o t => !(o.isSome && t.isSl)
  | .tup l => l.all fun p => !(p.1.isSome && p.2.isSl)
def Sh.small : Sh → Bool
  | .one _ _ => true
  | .tup l => Nat.ble l.length 8
def Ty.isAgg : Ty → Bool
  | .pair _ _ => true
  | .unit => true
  | _ => false
def AV.isAgg : AV → Bool
  | .agg _ => true
  | _ => false
/-- What a body leaves, as the shape asks. -/
def to1 (live : Nat) : (o : Option TypeId) → (t : Ty) → AV → Option t.den
  | some T, .sl _, .own id T' e xs => if hasBit live id && Nat.beq T T' then Ty.cast (a := .sl e) xs else none
  | some _, .sl _, .nilS => some []
  | some _, .sl _, _ => none
  | _, t, x => if t.isAgg == x.isAgg then x.asTy t else none
def idOf : AV → Option Nat
  | .own id _ _ _ => some id
  | _ => none
def toL (live : Nat) : (l : List (Option TypeId × Ty)) → List AV → Option (denL l)
  | [], [] => some ()
  | (o, t) :: r, x :: xs => match to1 live o t x with
    | some y => match toL (match idOf x with | some id => if hasBit live id then delBit live id else live | none => live) r xs with
      | some ys => some (y, ys)
      | none => none
    | none => none
  | _, _ => none
def toSh (live : Nat) : (s : Sh) → List AV → Option s.den
  | .one o t, [x] => to1 live o t x
  | .tup l, xs => if Nat.beq l.length 1 then none else toL live l xs
  | _, _ => none

structure Ctx where
  P : Program
  typ : TypeId → Option Ty
  sh : FuncId → Sh
  call : (f : FuncId) → List AV → Option (sh f).den
  isIn : FuncId → Bool
  raw : FuncId → Bool := fun _ => false
  inl : (R : Type) → FuncId → List AV → St → (AV → St → Option R) → Option R

inductive AEx where
  | normal
  | exit (id : Nat)
  | ret

section
variable {R : Type} (Γ : Ctx)
def szOf (P : Program) (t : TypeId) : Nat := ((P.info? t).map (·.size)).getD 0
def isAggT (P : Program) (t : TypeId) : Bool := match P.underlying t with
  | some (.struct _) => true
  | _ => false
/-- Is it a type whose values this machine knows? (Neither struct nor array: one cell.) -/
def isOneT (P : Program) (t : TypeId) : Bool := match P.underlying t with
  | some (.struct _) => false
  | some (.array _ _) => false
  | some _ => true
  | none => false
/-- Some cells as a value of a type. -/
def partA (P : Program) (t : TypeId) (cs : List AV) (off : Nat) : Option AV :=
  if isAggT P t then (if Nat.ble (off + szOf P t) cs.length && Nat.blt 0 (szOf P t) then some (.agg ((cs.drop off).take (szOf P t))) else none)
  else (if isOneT P t && Nat.beq (szOf P t) 1 then cs[off]? else none)
def elemOk (P : Program) (t : TypeId) (ty : Ty) : Bool :=
  match P.info? t with
  | some i => Nat.beq i.size ty.sz && Nat.blt 0 i.size && Nat.blt 0 i.bytes && (match i.zero with | some z => Nat.beq z.cells.size i.size | none => false)
  | none => false
def fieldOf (P : Program) (t : TypeId) (f : Nat) : Option (Nat × TypeId) := match P.underlying t with
  | some (.struct fs) => match fs[f]? with
    | some f => if Nat.blt 0 (szOf P f.type) then some (f.offset, f.type) else none
    | none => none
  | _ => none
/-- What is handed to a call. -/
def byCell : AV → Option AV
  | .v t x => some (.v t x)
  | .al e xs => some (.v (.sl e) xs)
  | .own _ _ e xs => some (.v (.sl e) xs)
  | .raw v => some (.raw v)
  | _ => none
def byCells : List AV → Option (List AV)
  | [] => some []
  | c :: cs => match byCell c, byCells cs with
    | some x, some xs => some (x :: xs)
    | _, _ => none
/-- The types of a struct's cells. -/
def cellTys : Ty → List Ty
  | .pair a b => cellTys a ++ cellTys b
  | .unit => []
  | t => [t]
/-- Slices that are nil, in a struct that is handed to a call: slices to read. -/
def nilCells : List Ty → List AV → List AV
  | t :: ts, c :: cs => (match c, t with
    | .nilS, .sl e => .v (.sl e) []
    | c, _ => c) :: nilCells ts cs
  | _, cs => cs
def byVal (ty : Option Ty) : AV → Option AV
  | .nilS => match ty with
    | some (.sl e) => some (.v (.sl e) [])
    | _ => some .nilS
  | .agg cs => (byCells (nilCells ((ty.map cellTys).getD []) cs)).map .agg
  | .ro cs => (byCells cs).map .ro
  | x => byCell x
def byVals (typ : TypeId → Option Ty) : List AV → List TypeId → Option (List AV)
  | [], _ => some []
  | x :: xs, ts => match byVal ((ts.head?).bind typ) x, byVals typ xs ts.tail with
    | some y, some ys => some (y :: ys)
    | _, _ => none
def calmCell : AV → Bool
  | .v _ _ => true
  | .nilS => true
  | .raw _ => true
  | _ => false
/-- Is nothing in it of the frame's own memory? -/
def calm : AV → Bool
  | .agg cs => cs.all calmCell
  | x => calmCell x
def byteAt (s : ByteArray) (i : Int) : Int := if h : i.toNat < s.size then ((s[i.toNat]'h).toNat : Int) else 0
def strOf (xs : List Int) : ByteArray := ⟨(xs.map fun n => UInt8.ofNat n.toNat).toArray⟩
def bytesOf (s : ByteArray) : List Int := s.data.toList.map fun b => (b.toNat : Int)
def evS (P : Program) {α : Type} : Sem α → Option α
  | .pure a => some a
  | .program k => evS P (k P)
  | _ => none
def ofV1 : Value → Option AV
  | .int k n => some (.v (.int k) n)
  | .bool b => some (.v .bool b)
  | .string s => some (.v .str s)
  | .float k b => some (.v (.flt k) b)
  | _ => none
def fin1 (s : St) (d : Option Tmp) (r : Option Value) (K : St → Option R) : Option R := match r with
  | some v => match ofV1 v with
    | some x => K (s.put d x)
    | none => none
  | none => none
def minI (a b : Int) : Int := if b < a then b else a
def maxI (a b : Int) : Int := if b > a then b else a
/-- The smaller, the greater of two floating numbers, neither of which is no number. -/
def minF (k : FloatKind) (x y : Nat) : Nat := if k.format.order x y = some .lt then x else if k.format.order x y = some .gt then y else if (k.decode x).neg then x else y
def maxF (k : FloatKind) (x y : Nat) : Nat := if k.format.order x y = some .gt then x else if k.format.order x y = some .lt then y else if (k.decode x).neg then y else x
def fm2 (mx : Bool) (j : FloatKind) (a b : Nat) : Option Nat := if (j.format.order a b).isSome then some (bif mx then maxF j a b else minF j a b) else none
/-- The smaller, the greater of two whole numbers. -/
def mmV (mx : Bool) : AV → AV → Option AV
  | .v (.int j) a, .v (.int k) b => if Ty.kindNo j == Ty.kindNo k then some (.v (.int j) (bif mx then maxI a b else minI a b)) else none
  | _, _ => none
def mmA (mx : Bool) (x y : AV) (s : St) (d : Option Tmp) (K : St → Option R) : Option R :=
  match x with
  | .v (.flt j) a => match y with
    | .v (.flt k) b => if Ty.fkNo j == Ty.fkNo k then (fm2 mx j a b).bind fun c => K (s.put d (.v (.flt j) c)) else none
    | _ => none
  | x => match mmV mx x y with
    | some z => K (s.put d z)
    | none => none
/-- '==' of cells by their types. -/
def eqCell : Ty → AV → AV → Option Bool
  | .int _, .v (.int j) a, .v (.int k) b => if Ty.kindNo j == Ty.kindNo k then some ((a : Int) == (b : Int)) else none
  | .bool, .v .bool a, .v .bool b => some ((a : Bool) == (b : Bool))
  | .str, .v .str a, .v .str b => some (ByteArray.toList a == ByteArray.toList b)
  | _, _, _ => none
def eqCells : List Ty → List AV → List AV → Option Bool
  | [], [], [] => some true
  | [k], [x], [y] => eqCell k x y
  | k :: ks, x :: xs, y :: ys => match eqCell k x y, eqCells ks xs ys with
    | some a, some b => some (a && b)
    | _, _ => none
  | _, _, _ => none
/-- Does '==' of this type ask just its cells, each once, in order (fuel)? Their types. -/
def plainEq (P : Program) : Nat → TypeId → Option (List Ty)
  | 0, _ => none
  | n + 1, t => match P.underlying t with
    | some (.int k) => some [.int k]
    | some .bool => some [.bool]
    | some .string => some [.str]
    | some (.struct fs) => if P.stoodInHeld t then none else
        fs.toList.foldl (fun a f => match a, plainEq P n f.type with
          | some l, some m => if Nat.beq f.offset l.length && f.name != "_" && Nat.beq (szOf P f.type) m.length && Nat.blt 0 m.length then some (l ++ m) else none
          | _, _ => none) (some [])
    | _ => none
def scalarV : Value → Bool
  | .int _ _ => true
  | .bool _ => true
  | .string _ => true
  | .float _ _ => true
  | _ => false
def plainBin : BinOp → Bool
  | .quo => false | .rem => false | .shl => false | .shr => false
  | _ => true
def binPlain (P : Program) (op : BinOp) (t : TypeId) (x y : AV) (s : St) (d : Option Tmp) (K : St → Option R) : Option R :=
  match cellV x, cellV y with
  | some a, some b => if scalarV a && scalarV b then fin1 s d (evS P (binOp op t a b)) K else none
  | _, _ => none
def aggEq (P : Program) (neg : Bool) (t : TypeId) (xs ys : List AV) (s : St) (d : Option Tmp) (K : St → Option R) : Option R :=
  match plainEq P 8 t with
  | some ks => match eqCells ks xs ys with
    | some b => if isAggT P t && !P.eqGuardType P.depth t then K (s.put d (.v .bool (bif neg then !b else b))) else none
    | none => none
  | none => none
def binA (P : Program) (op : BinOp) (t : TypeId) (x y : AV) (s : St) (d : Option Tmp) (K : St → Option R) : Option R :=
  match op, x, y with
  | .add, .v (.flt k) a, .v (.flt j) b => if Ty.fkNo k == Ty.fkNo j then (k.format.add a b).bind fun r => K (s.put d (.v (.flt k) r)) else none
  | .sub, .v (.flt k) a, .v (.flt j) b => if Ty.fkNo k == Ty.fkNo j then (k.format.sub a b).bind fun r => K (s.put d (.v (.flt k) r)) else none
  | .mul, .v (.flt k) a, .v (.flt j) b => if Ty.fkNo k == Ty.fkNo j then (k.format.mul a b).bind fun r => K (s.put d (.v (.flt k) r)) else none
  | .quo, .v (.flt k) a, .v (.flt j) b => if Ty.fkNo k == Ty.fkNo j then (k.format.div a b).bind fun r => K (s.put d (.v (.flt k) r)) else none
  | .quo, .v (.int k) a, .v (.int j) b => if Ty.kindNo k == Ty.kindNo j then (if (b : Int) = 0 then none else K (s.put d (.v (.int k) (k.wrap (Int.tdiv a b))))) else none
  | .rem, .v (.int k) a, .v (.int j) b => if Ty.kindNo k == Ty.kindNo j then (if (b : Int) = 0 then none else K (s.put d (.v (.int k) (Int.tmod a b)))) else none
  | .shl, .v (.int k) a, .v (.int _) b => if (b : Int) < 0 then none else K (s.put d (.v (.int k) (k.wrap (a * 2 ^ (min (Int.toNat b) k.bits)))))
  | .shr, .v (.int k) a, .v (.int _) b => if (b : Int) < 0 then none else K (s.put d (.v (.int k) (Int.fdiv a (2 ^ (min (Int.toNat b) k.bits)))))
  | .add, .v .str a, .v .str b => if ((a.size + b.size : Nat) : Int) > IntKind.i64.max then none else K (s.put d (.v .str (a ++ b)))
  | .eql, .agg xs, .agg ys => aggEq P false t xs ys s d K
  | .neq, .agg xs, .agg ys => aggEq P true t xs ys s d K
  | .quo, _, _ => none
  | .rem, _, _ => none
  | .shl, _, _ => none
  | .shr, _, _ => none
  | op, x, y => binPlain P op t x y s d K
def isCap : AV → Bool
  | .ptr _ _ => true
  | .raw _ => true
  | _ => false
/-- A floating number as a whole one, where it fits. -/
def fToI (k : FloatKind) (b : Nat) (j : IntKind) : Option Int := match (k.decode b).toInt .zero with
  | some n => if j.min ≤ n ∧ n ≤ j.max then some n else none
  | none => none
def isNil : Option AV → Bool
  | some .nilS => true
  | _ => false
def optInt : Option AV → Option (Option Int)
  | none => some none
  | some (.v (.int _) n) => some (some n)
  | _ => none
def cutA (n : Nat) (lo hi : Option Int) (K : Nat → Nat → Option R) : Option R := match lo, hi with
  | none, none => K 0 n
  | some l, none => if 0 ≤ l ∧ l ≤ (n : Int) then K l.toNat n else none
  | none, some h => if 0 ≤ h ∧ h ≤ (n : Int) then K 0 h.toNat else none
  | some l, some h => if 0 ≤ l ∧ l ≤ h ∧ h ≤ (n : Int) then K l.toNat h.toNat else none
/-- Slices of the frame's own that go into memory: given up, read by anyone from then on. -/
def frzL : Nat → List (Nat × AV) → List (Nat × AV) × Nat
  | live, [] => ([], live)
  | live, (i, x) :: l => match x with
    | .own id _ e xs => if hasBit live id then ((i, .v (.sl e) xs) :: (frzL (delBit live id) l).1, (frzL (delBit live id) l).2) else ((i, .bad) :: (frzL live l).1, (frzL live l).2)
    | x => ((i, x) :: (frzL live l).1, (frzL live l).2)
def frzP (e : Ty) (live : Nat) (l : List (Nat × AV)) : List (Nat × AV) × Nat := if e.isSl then frzL live l else (l, live)
/-- A conversion of bytes to themselves: the row is marked; it is given up. -/
def sameSl (P : Program) (src dst : TypeId) : Bool := Nat.beq src dst && (match P.underlying dst with | some (.slice _) => true | _ => false)
def convS (P : Program) (dst : TypeId) (x : AV) (s : St) (d : Option Tmp) (K : St → Option R) : Option R := match x with
  | .own id _ (.int .u8) xs => (match P.underlying dst with
    | some (.slice et) => (match P.underlying et with
      | some (.int .u8) => if hasBit s.live id && Nat.blt 0 (List.length xs) then K (St.put { s with live := delBit s.live id } d (.v (.sl (.int .u8)) xs)) else none
      | _ => none)
    | _ => none)
  | _ => none
/-- A text's bytes. -/
def bytesL (b : ByteArray) : List Int := b.data.toList.map fun c => (c.toNat : Int)
def sliceA (x : AV) (lo hi : Option Int) (s : St) (d : Option Tmp) (K : St → Option R) : Option R := match x with
  | .v .str b => cutA b.size lo hi fun l h => K (s.put d (.v .str (b.extract l h)))
  | .v (.sl e) xs => cutA (List.length xs) lo hi fun l h => K (s.put d (.v (.sl e) ((List.take h xs).drop l)))
  | .al e xs => cutA xs.length lo hi fun l h => K (s.put d (.al e ((xs.take h).drop l)))
  | .own _ _ e xs => cutA xs.length lo hi fun l h => K (s.put d (.al e ((xs.take h).drop l)))
  | _ => none
def slElems : AV → Option (Σ e : Ty, List e.den)
  | .v (.sl e) xs => some ⟨e, xs⟩
  | .al e xs => some ⟨e, xs⟩
  | .own _ _ e xs => some ⟨e, xs⟩
  | _ => none
/-- An element's place. -/
def atA (x : AV) (e : Ty) (xs : List e.den) (i : Nat) : AV := match x with
  | .own id T _ _ => .el id T e xs i
  | _ => .ro (cellsT e (xs.getD i e.dflt))
def indexA (P : Program) (t : TypeId) (x ix : AV) (s : St) (d : Option Tmp) (K : St → Option R) : Option R :=
  match P.underlying t, slElems x, ix with
  | some (.slice et), some ⟨e, xs⟩, .v (.int _) i =>
    if elemOk P et e then (if 0 ≤ (i : Int) ∧ i < (xs.length : Int) then K (s.put d (atA x e xs i.toNat)) else none) else none
  | _, _, _ => none
def setCells (cs new : List AV) (off : Nat) : List AV := cs.take off ++ new ++ cs.drop (off + new.length)
/-- What stands behind a write to an element of a slice of the frame's own. -/
def wrCell (live id i : Nat) (e : Ty) (y : e.den) : AV → AV
  | .own j T e' ys => if Nat.beq j id then (match (Ty.cast (a := e) (b := e') y : Option e'.den) with
      | some y' => .own j T e' (ys.set i y')
      | none => .bad) else (if hasBit live j then .own j T e' ys else .bad)
  | .el j T e' ys k => if Nat.beq j id then (match (Ty.cast (a := e) (b := e') y : Option e'.den) with
      | some y' => .el j T e' (ys.set i y') k
      | none => .bad) else (if hasBit live j then .el j T e' ys k else .bad)
  | .v t x => .v t x
  | .nilS => .nilS
  | .ptr b off => .ptr b off
  | .raw v => .raw v
  | .fn f caps => .fn f caps
  | _ => .bad
def wrV2 (live id i : Nat) (e : Ty) (y : e.den) : AV → AV
  | .agg cs => .agg (cs.map (wrCell live id i e y))
  | x => wrCell live id i e y x
def wrAV (live id i : Nat) (e : Ty) (y : e.den) : AV → AV
  | .tup xs => .tup (xs.map (wrV2 live id i e y))
  | x => wrV2 live id i e y x
def isTup : AV → Bool
  | .tup _ => true
  | _ => false
def wrSt (s : St) (id i : Nat) (e : Ty) (y : e.den) : St :=
  { t := s.t.map (wrAV s.live id i e y)
    bx := s.bx.map (Option.map fun p => (p.1, p.2.map (wrCell s.live id i e y)))
    live := s.live
    g := s.g.map (wrAV s.live id i e y) }
def sizedCells (P : Program) (t : TypeId) (x : AV) : Option (List AV) := match x.cells with
  | some cs => if Nat.beq cs.length (szOf P t) && cs.all okCell then some cs else none
  | none => none
def roomOk : Nat := 140737488355328
def bytesT (P : Program) (t : TypeId) : Nat := ((P.info? t).map (·.bytes)).getD 0
/-- The sorts of a slice's elements, by the slice's type. -/
def elemTy (Γ : Ctx) (t : TypeId) : Option (TypeId × Ty) := match Γ.P.underlying t with
  | some (.slice e) => match Γ.typ e with
    | some ty => if elemOk Γ.P e ty then some (e, ty) else none
    | none => none
  | _ => none
/-- What is appended to: elements, and the live slices without it. -/
def headOf (et : TypeId) (e : Ty) (live : Nat) : AV → Option (List e.den × Nat)
  | .own id T e' xs => if hasBit live id && Nat.beq T et then (Ty.cast (a := .sl e') (b := .sl e) xs : Option (List e.den)).map (·, delBit live id) else none
  | .nilS => some ([], live)
  | _ => none
def appendA (id : Nat) (t tx : TypeId) (x y : AV) (s : St) (d : Option Tmp) (K : St → Option R) : Option R :=
  match elemTy Γ t with
  | some (et, e) => match headOf et e s.live x with
    | some (xs, live) =>
      match Γ.P.underlying tx with
      | some .string => match y, e with
        | .v .str b, .int .u8 => if ((xs : List Int).length + b.size) * bytesT Γ.P et ≤ roomOk then K (St.put { s with live := addBit live id } d (.own id et (.int .u8) ((xs : List Int) ++ bytesOf b))) else none
        | _, _ => none
      | some (.slice _) => match y.asSl e with
        | some ys => if (xs.length + ys.length) * bytesT Γ.P et ≤ roomOk then K (St.put { s with live := addBit live id } d (.own id et e (xs ++ ys))) else none
        | none => none
      | _ => none
    | none => none
  | none => none
def partsA (e : Ty) : Nat → List (Nat × AV) → Option (List e.den)
  | _, [] => some []
  | n, (i, x) :: r => if Nat.beq i n then (match x.asTy e, partsA e (n + 1) r with
    | some y, some ys => some (y :: ys)
    | _, _ => none) else none
/-- A struct's cells, its parts laid in. -/
def fillA (P : Program) (t : TypeId) : List AV → List (Nat × AV) → Option (List AV)
  | cs, [] => some cs
  | cs, (i, x) :: r => match fieldOf P t i with
    | some (off, ft) => match sizedCells P ft x with
      | some new => if Nat.ble (off + new.length) cs.length then fillA P t (setCells cs new off) r else none
      | none => none
    | none => none
def placesOk (P : Program) (t : TypeId) : Bool := match P.underlying t with
  | some (.struct fields) => (fields.toList.mapM (fun f => (P.info? f.type).map fun i => (f.offset, i.size))).isSome
  | _ => false
def fillB (P : Program) (t : TypeId) (cs : List AV) (parts : List (Nat × AV)) : Option (List AV) := if placesOk P t then fillA P t cs parts else none
def lenA (x : AV) : Option Nat := match x with
  | .v .str b => some b.size
  | .v (.sl _) xs => some (List.length xs)
  | .al _ xs => some xs.length
  | .own _ _ _ xs => some xs.length
  | .nilS => some 0
  | _ => none
def callA (id : Nat) (f : FuncId) (args : List AV) (ts : List TypeId) (s : St) (d : Option Tmp) (K : St → Option R) : Option R :=
  match byVals (bif Γ.raw f then fun _ => none else Γ.typ) args ts with
  | some vs => if ((Γ.sh f).freshA || args.all calm) && (Γ.sh f).small then
      (Γ.call f vs).bind fun r => K (St.put { s with live := (Γ.sh f).bits id s.live } d (mkAV id (Γ.sh f) r))
    else none
  | none => none
def noneAt (bx : List (Option (TypeId × List AV))) (n : Nat) : Bool := match bx[n]? with
  | some none => true
  | _ => false
def aOp (n : Nat) (o : Oper) (s : St) (K : St → Option R) : Option R := match o.op with
  | .move x => K (s.put o.dst (s.ev x))
  | .assign x => K (s.put o.dst (s.ev x))
  | .pick c a b => match s.ev c with
    | .v .bool c => bif c then K (s.put o.dst (s.ev a)) else K (s.put o.dst (s.ev b))
    | _ => none
  | .box T x => match sizedCells Γ.P T (s.ev x) with
    | some cs => if Nat.blt n s.bx.length then K (St.put { s with bx := s.bx.set n (some (T, cs)) } o.dst (.ptr n 0)) else none
    | none => none
  | .alloc T => match (Γ.P.info? T).bind (·.zero) with
    | some z => match sizedCells Γ.P T (ofConst z) with
      | some cs => if noneAt s.bx n then K (St.put { s with bx := s.bx.set n (some (T, cs)) } o.dst (.ptr n 0)) else none
      | none => none
    | none => none
  | .load T a => match s.ev a with
    | .ptr b off => match s.bx[b]? with
      | some (some (_, cs)) => match partA Γ.P T cs off with
        | some x => K (s.put o.dst x)
        | none => none
      | _ => none
    | .ro cs => match partA Γ.P T cs 0 with
      | some x => K (s.put o.dst x)
      | none => none
    | .el _ _ e xs i => match partA Γ.P T (cellsT e (xs.getD i e.dflt)) 0 with
      | some x => K (s.put o.dst x)
      | none => none
    | _ => none
  | .store T a x => match s.ev a, sizedCells Γ.P T (s.ev x) with
    | .ptr b off, some new => match s.bx[b]? with
      | some (some (T', cs)) => if Nat.ble (off + new.length) cs.length && Nat.blt 0 (szOf Γ.P T) then K (St.put { s with bx := s.bx.set b (some (T', setCells cs new off)) } o.dst (.raw undef)) else none
      | _ => none
    | .el id _ e _ i, some _ => match (s.ev x).asTy e with
      | some y => if hasBit s.live id && Nat.blt 0 (szOf Γ.P T) then K ((wrSt s id i e y).put o.dst (.raw undef)) else none
      | none => none
    | _, _ => none
  | .nilCheck x => match s.ev x with
    | .ptr b off => K (s.put o.dst (.ptr b off))
    | .ro cs => K (s.put o.dst (.ro cs))
    | .el id T e xs i => K (s.put o.dst (.el id T e xs i))
    | _ => none
  | .fieldAddr S x f => match s.ev x, fieldOf Γ.P S f with
    | .ptr b off, some (k, _) => K (s.put o.dst (.ptr b (off + k)))
    | .ro cs, some (k, _) => K (s.put o.dst (.ro (cs.drop k)))
    | .el _ _ e xs i, some (k, _) => K (s.put o.dst (.ro ((cellsT e (xs.getD i e.dflt)).drop k)))
    | _, _ => none
  | .field S x f => match s.ev x, fieldOf Γ.P S f with
    | .agg cs, some (k, ft) => match partA Γ.P ft cs k with
      | some x => K (s.put o.dst x)
      | none => none
    | _, _ => none
  | .indexAddr t x ix => indexA Γ.P t (s.ev x) (s.ev ix) s o.dst K
  | .index t x ix => match Γ.P.underlying t, s.ev x, s.ev ix with
    | some .string, .v .str b, .v (.int _) i => if 0 ≤ (i : Int) ∧ i < (b.size : Int) then K (s.put o.dst (.v (.int .u8) (byteAt b i))) else none
    | _, _, _ => none
  | .slice t x lo hi mx => match mx, optInt (lo.map s.ev), optInt (hi.map s.ev), Γ.P.underlying t with
    | none, some l, some h, some .string => (match s.ev x with | .v .str b => sliceA (.v .str b) l h s o.dst K | _ => none)
    | none, some l, some h, some (.slice et) => (match slElems (s.ev x) with
      | some ⟨e, _⟩ => if elemOk Γ.P et e then sliceA (s.ev x) l h s o.dst K else none
      | none => if isNil (some (s.ev x)) && Nat.blt 0 (szOf Γ.P et) then cutA 0 l h (fun _ _ => K (s.put o.dst .nilS)) else none)
    | _, _, _, _ => none
  | .makeSlice t l c => match elemTy Γ t, s.ev l, s.ev c with
    | some (et, e), .v (.int .i64) a, .v (.int .i64) b => match (Γ.P.info? et).bind (·.zero) with
      | some z => match (ofConst z).asTy e with
        | some x => if (0 : Int) ≤ a ∧ (a : Int) = b ∧ (b : Int) * (bytesT Γ.P et : Int) ≤ (roomOk : Int) then
            K (St.put { s with live := addBit s.live (8 * n) } o.dst (.own (8 * n) et e (List.replicate (Int.toNat a) x))) else none
        | none => none
      | none => none
    | _, _, _ => none
  | .buildSlice t len parts => match elemTy Γ t with
    | some (et, e) => match partsA e 0 (frzP e s.live (parts.toList.map fun (i, x) => (i, s.ev x))).1 with
      | some xs => if Nat.beq parts.size len && Nat.ble (len * e.sz) 1000 && Nat.ble len 1000 then K (St.put { s with live := addBit (frzP e s.live (parts.toList.map fun (i, x) => (i, s.ev x))).2 (8 * n) } o.dst (.own (8 * n) et e xs)) else none
      | none => none
    | none => none
  | .build t parts => match Γ.P.underlying t, (Γ.P.info? t).bind (·.zero) with
    | some (.struct _), some (.agg z) => match (ofConst (.agg z)) with
      | .agg cs => match fillB Γ.P t cs (parts.toList.map fun (i, x) => (i, s.ev x)) with
        | some cs' => K (s.put o.dst (.agg cs'))
        | none => none
      | _ => none
    | _, _ => none
  | .extract x i => match s.ev x with
    | .tup vs => match vs[i]? with
      | some y => bif isTup y then none else K (s.put o.dst y)
      | none => none
    | _ => none
  | .binOp op t x y _ => binA Γ.P op t (s.ev x) (s.ev y) s o.dst K
  | .unOp op _ x => match cellV (s.ev x) with
    | some a => if scalarV a then fin1 s o.dst (evS Γ.P (Op.unary op a)) K else none
    | none => none
  | .makeFunc fn first caps => match fn, first.toList with
    | .func f, [] => if (caps.toList.map s.ev).all isCap then K (s.put o.dst (.fn f (caps.toList.map s.ev))) else none
    | _, _ => none
  | .convert src dst x => bif sameSl Γ.P src dst then convS Γ.P dst (s.ev x) s o.dst K else match s.ev x with
    | .v (.flt k) b => (match Γ.P.underlying dst with
      | some (.int j) => (match Γ.P.underlying src with
        | some (.float _) => (fToI k b j).bind fun n => K (s.put o.dst (.v (.int j) n))
        | _ => none)
      | _ => (if scalarV (.float k b) then fin1 s o.dst (evS Γ.P (convert src dst (.float k b))) K else none))
    | .v .str b => (match Γ.P.underlying src, Γ.P.underlying dst with
      | some .string, some (.slice et) => (match Γ.P.underlying et with | some (.int .u8) => K (s.put o.dst (.v (.sl (.int .u8)) (bytesL b))) | _ => none)
      | _, _ => (if scalarV (.string b) then fin1 s o.dst (evS Γ.P (convert src dst (.string b))) K else none))
    | .v (.sl (.int .u8)) xs => (match Γ.P.underlying src, Γ.P.underlying dst with
      | some (.slice et), some .string => (match Γ.P.underlying et with | some (.int .u8) => K (s.put o.dst (.v .str (strOf xs))) | _ => none)
      | _, _ => none)
    | .al (.int .u8) xs => (match Γ.P.underlying src, Γ.P.underlying dst with
      | some (.slice et), some .string => (match Γ.P.underlying et with | some (.int .u8) => K (s.put o.dst (.v .str (strOf xs))) | _ => none)
      | _, _ => none)
    | .own _ _ (.int .u8) xs => (match Γ.P.underlying src, Γ.P.underlying dst with
      | some (.slice et), some .string => (match Γ.P.underlying et with | some (.int .u8) => K (s.put o.dst (.v .str (strOf xs))) | _ => none)
      | _, _ => none)
    | .nilS => (match Γ.P.underlying src, Γ.P.underlying dst with
      | some (.slice et), some .string => (match Γ.P.underlying et with | some (.int .u8) => K (s.put o.dst (.v .str ByteArray.empty)) | _ => none)
      | _, _ => none)
    | x => match cellV x with
      | some a => if scalarV a then fin1 s o.dst (evS Γ.P (convert src dst a)) K else none
      | none => none
  | .call c => match c.callee with
    | .value f => match s.ev f with
      | .fn f [] => callA Γ (8 * n) f ((c.args.toList).map s.ev) c.argTypes.toList s o.dst K
      | _ => none
    | .builtin .len => match c.args.toList, c.argTypes.toList with
      | [x], [t] => (match Γ.P.underlying t with
        | some .string => (match s.ev x with | .v .str b => K (s.put o.dst (.v (.int .i64) (b.size : Int))) | _ => none)
        | some (.slice _) => (match slElems (s.ev x), s.ev x with
          | some ⟨_, xs⟩, _ => K (s.put o.dst (.v (.int .i64) (xs.length : Int)))
          | none, .nilS => K (s.put o.dst (.v (.int .i64) (0 : Int)))
          | none, _ => none)
        | _ => none)
      | _, _ => none
    | .builtin .min => match c.args.toList with
      | [x, y] => mmA false (s.ev x) (s.ev y) s o.dst K
      | _ => none
    | .builtin .max => match c.args.toList with
      | [x, y] => mmA true (s.ev x) (s.ev y) s o.dst K
      | _ => none
    | .builtin .append => match c.args.toList, c.argTypes.toList with
      | [x, y], [t, tx] => appendA Γ (8 * n) t tx (s.ev x) (s.ev y) s o.dst K
      | _, _ => none
    | _ => none
  | _ => none
/-- One operation of a region, under its guard. -/
def aGuard (ops : Array Oper) (n : Nat) (o : Oper) (s : St) (K : St → Option R) : Option R := match o.guard with
  | none => aOp Γ n o s K
  | some (j, want) => match (ops[j]?).bind (·.dst) with
    | none => none
    | some g => match s.t.getD g .bad with
      | .v .bool b => bif b == want then aOp Γ n o (s.put (some g) (.v .bool want)) K else K ((s.put (some g) (.v .bool (!want))).put o.dst (.raw undef))
      | .raw (.tuple _) => K (s.put o.dst (.raw undef))
      | _ => none
/-! The state, laid out: (propositionally nothing; for the one who reckons, everything). -/
def fNat (n : Nat) (K : Nat → R) : R := Nat.rec (motive := fun _ => R) (K 0) (fun m _ => K (m + 1)) n
def fList {α : Type} (l : List α) : (List α → R) → R := List.rec (motive := fun _ => (List α → R) → R) (fun K => K []) (fun a _ ih K => ih fun l => K (a :: l)) l
def fSt (s : St) (K : St → R) : R := fList s.t fun t => fNat s.live fun live => K { t := t, bx := s.bx, live := live, g := s.g }
theorem fNat_eq (n : Nat) (K : Nat → R) : fNat n K = K n := by cases n <;> rfl
theorem fList_eq {α : Type} : ∀ (l : List α) (K : List α → R), fList l K = K l
  | [], _ => rfl
  | a :: l, K => by
    show fList l (fun l => K (a :: l)) = _
    rw [fList_eq l]
theorem fSt_eq (s : St) (K : St → R) : fSt s K = K s := by simp [fSt, fList_eq, fNat_eq]
/-- May it be a call that is reckoned inside the caller's frame? -/
def mayInl (o : Oper) : Bool := match o.op with
  | .call c => match c.callee with
    | .value (.func f) => Γ.isIn f
    | .value (.tmp _) => true
    | _ => false
  | _ => false
/-- Whom it calls, and with what kept. -/
def inlOf (s : St) (o : Oper) : Option (FuncId × List AV × Call) := match o.op with
  | .call c => match c.callee with
    | .value (.func f) => some (f, [], c)
    | .value (.tmp t) => match s.t.getD t .bad with
      | .fn f caps => some (f, caps, c)
      | _ => none
    | _ => none
  | _ => none
def goInl (o : Oper) (s : St) (K : St → Option R) : Option R := match inlOf s o with
  | some (f, caps, c) => Γ.inl R f (c.args.toList.map s.ev ++ caps) s fun v s' => K (s'.put o.dst v)
  | none => none
/-- Such a call, under its guard. -/
def aInl (ops : Array Oper) (o : Oper) (s : St) (K : St → Option R) : Option R := match o.guard with
  | none => goInl Γ o s K
  | some (j, want) => match (ops[j]?).bind (·.dst) with
    | none => none
    | some g => match s.t.getD g .bad with
      | .v .bool b => bif b == want then goInl Γ o (s.put (some g) (.v .bool want)) K
          else K ((s.put (some g) (.v .bool (!want))).put o.dst (.raw undef))
      | .raw (.tuple _) => K (s.put o.dst (.raw undef))
      | _ => none
/-- The operations one by one. Behind a call that is reckoned inside, the numbers begin anew. -/
def aOps (ops : Array Oper) : Nat → List Nat → St → (St → Option R) → Option R
  | _, [], s, K => K s
  | base, i :: r, s, K => match ops[i]? with
    | none => none
    | some o => match mayInl Γ o with
      | true => aInl Γ ops o s fun s' => fNat s'.bx.length fun base' => aOps ops base' r { s' with bx := s'.bx ++ List.replicate ops.size none } K
      | false => fNat (base + i) fun n => aGuard Γ ops n o s fun s' => fSt s' fun s' => aOps ops base r s' K
end

/-! ### control -/
def tmpsOf (l : List Operand) : List Nat := l.filterMap fun | .tmp t => some t | _ => none
/-- Reads (true) and writes of temporaries, in the text's order. -/
def evOps (ops : Array Oper) : List Oper → List (Bool × Nat)
  | [] => []
  | o :: r => (tmpsOf o.op.operands.toList).map (true, ·) ++ (match o.guard with | some (j, _) => (match (ops[j]?).bind (·.dst) with | some g => [(true, g)] | none => []) | none => [])
      ++ (match o.dst with | some d => [(false, d)] | none => []) ++ evOps ops r
def evCode : Code → List (Bool × Nat)
  | .seq a b => evCode a ++ evCode b
  | .cond c x y => (tmpsOf [c]).map (true, ·) ++ evCode x ++ evCode y
  | .block _ c => evCode c
  | .loop c => evCode c
  | .scope c => evCode c
  | .region _ ops _ => evOps ops ops.toList
  | _ => []
/-- Which temporaries are written ahead of every read. -/
def killMask : List (Bool × Nat) → Nat → Nat → Nat
  | [], _, k => k
  | (true, t) :: r, seen, k => if hasBit k t then killMask r seen k else killMask r (addBit seen t) k
  | (false, t) :: r, seen, k => if hasBit seen t then killMask r seen k else killMask r seen (addBit k t)
def killAt (m : Nat) : Nat → List AV → List AV
  | _, [] => []
  | i, x :: xs => (if hasBit m i then .bad else x) :: killAt m (i + 1) xs
def addId (l : List Nat) (i : Nat) : List Nat := if l.any (Nat.beq i ·) then l else l ++ [i]
def capIds : List AV → List Nat → List Nat
  | [], l => l
  | .ptr b _ :: r, l => capIds r (addId l b)
  | _ :: r, l => capIds r l
def boxIds : List AV → List Nat → List Nat
  | [], l => l
  | .ptr b _ :: r, l => boxIds r (addId l b)
  | .fn _ caps :: r, l => boxIds r (capIds caps l)
  | _ :: r, l => boxIds r l
def cellIds : List AV → List Nat → List Nat
  | [], l => l
  | .own i _ _ _ :: r, l => cellIds r (addId l i)
  | _ :: r, l => cellIds r l
def tokIds : List AV → List Nat → List Nat
  | [], l => l
  | .own i _ _ _ :: r, l => tokIds r (addId l i)
  | .agg cs :: r, l => tokIds r (cellIds cs l)
  | _ :: r, l => tokIds r l
def idx (i : Nat) : Nat → List Nat → Option Nat
  | _, [] => none
  | n, j :: r => if Nat.beq i j then some n else idx i (n + 1) r
def renCell (toks : List Nat) : AV → AV
  | .own i T e xs => match idx i 0 toks with
    | some k => .own k T e xs
    | none => .bad
  | .v t x => .v t x
  | .al e xs => .al e xs
  | .nilS => .nilS
  | .raw v => .raw v
  | _ => .bad
def renCap (bxs : List Nat) : AV → AV
  | .ptr b off => match idx b 0 bxs with
    | some k => .ptr k off
    | none => .bad
  | .raw v => .raw v
  | _ => .bad
def renTmp (bxs toks : List Nat) : AV → AV
  | .agg cs => .agg (cs.map (renCell toks))
  | .ptr b off => match idx b 0 bxs with
    | some k => .ptr k off
    | none => .bad
  | .ro cs => .ro cs
  | .fn f caps => .fn f (caps.map (renCap bxs))
  | x => renCell toks x
/-- What the callers keep: looks at cells are given up. -/
def renG (bxs toks : List Nat) : AV → AV
  | .ro _ => .bad
  | x => renTmp bxs toks x
def liveL (live : Nat) : Nat → List Nat → Nat
  | _, [] => 0
  | n, i :: r => if hasBit live i then addBit (liveL live (n + 1) r) n else liveL live (n + 1) r
def boxesOf (bx : List (Option (TypeId × List AV))) : List Nat → List AV
  | [] => []
  | b :: r => (match bx[b]? with | some (some (_, cs)) => cs | _ => []) ++ boxesOf bx r
/-- At a loop, named by its first region: temporaries to strike at its head, and where it is left; temporaries with no slice yet, to be taken as slices of the frame's own. -/
abbrev Hints := Nat → Nat × Nat × List (Nat × TypeId × Ty) × List (Nat × Nat × TypeId × Ty)
def noHints : Hints := fun _ => (0, 0, [], [])
def firstReg : Code → Option Nat
  | .seq a b => match firstReg a with
    | some i => some i
    | none => firstReg b
  | .cond _ x y => match firstReg x with
    | some i => some i
    | none => firstReg y
  | .block _ c => firstReg c
  | .loop c => firstReg c
  | .scope c => firstReg c
  | .region id _ _ => some id
  | _ => none
def nilsAt : Nat → List (Nat × TypeId × Ty) → List AV → List AV
  | _, [], t => t
  | n, (i, T, e) :: r, t => nilsAt (n + 1) r (match t[i]? with
    | some .nilS => t.set i (.own n T e [])
    | _ => t)
def useNils (t : List AV) (l : List (Nat × TypeId × Ty)) : List (Nat × TypeId × Ty) := l.filter fun p => isNil t[p.1]?
/-- .. in boxes. -/
def nilCell (n : Nat) (T : TypeId) (e : Ty) : AV → AV
  | .nilS => .own n T e []
  | x => x
def nilsBx : Nat → List (Nat × Nat × TypeId × Ty) → List (Option (TypeId × List AV)) → List (Option (TypeId × List AV))
  | _, [], bx => bx
  | n, (b, j, T, e) :: r, bx => nilsBx (n + 1) r (match bx[b]? with
    | some (some (T0, cs)) => bx.set b (some (T0, cs.set j (nilCell n T e (cs.getD j .bad))))
    | _ => bx)
def useNilsB (bx : List (Option (TypeId × List AV))) (l : List (Nat × Nat × TypeId × Ty)) : List (Nat × Nat × TypeId × Ty) := l.filter fun p => match bx[p.1]? with
  | some (some (_, cs)) => isNil cs[p.2.1]?
  | _ => false
def addBits (m n : Nat) : Nat → Nat
  | 0 => m
  | k + 1 => addBits (addBit m n) (n + 1) k
/-- The state at a loop's head: what is dead is struck, what is the frame's own gets new numbers, in order. -/
def canon0 (keep : Hints) (c : Code) (s : St) : St :=
  let h := keep ((firstReg c).getD 0)
  let t := killAt h.1 0 (killAt (bif hasBit h.1 1000 then 0 else killMask (evCode c) 0 0) 0 s.t)
  let bxs := boxIds (t ++ s.g) []
  let toks := tokIds (t ++ s.g) (cellIds (boxesOf s.bx bxs) [])
  let t1 := t.map (renTmp bxs toks)
  let ns := useNils t1 h.2.2.1
  let bx1 := bxs.map (fun b => match s.bx[b]? with | some (some (T, cs)) => some (T, cs.map (renCell toks)) | _ => none)
  let nb := useNilsB bx1 h.2.2.2
  { t := nilsAt toks.length ns t1
    bx := nilsBx (toks.length + ns.length) nb bx1 ++ List.replicate (toks.length + (ns.length + nb.length)) none
    live := addBits (liveL s.live 0 toks) toks.length (ns.length + nb.length)
    g := s.g.map (renG bxs toks) }
/-- What is nil yet, taken as a slice to read. Places from 1000 on: the temporary and one, the cell (999: itself). -/
def vnil1 (j : Nat) (e : Ty) : AV → AV
  | .agg cs => .agg (match cs[j]? with
    | some .nilS => cs.set j (.v (.sl e) [])
    | _ => cs)
  | .nilS => if Nat.beq j 999 then .v (.sl e) [] else .nilS
  | x => x
def vnils : List (Nat × TypeId × Ty) → List AV → List AV
  | [], t => t
  | (i, _, e) :: r, t => vnils r (if Nat.ble 1000 i then (match t[i / 1000 - 1]? with
    | some x => t.set (i / 1000 - 1) (vnil1 (i % 1000) e x)
    | none => t) else t)
/-- .. in boxes (from 1000 on: the box, the cell). -/
def vnilsB : List (Nat × Nat × TypeId × Ty) → List (Option (TypeId × List AV)) → List (Option (TypeId × List AV))
  | [], bx => bx
  | (b, j, _, e) :: r, bx => vnilsB r (if Nat.ble 1000 b then (match bx[b - 1000]? with
    | some (some (T, cs)) => bx.set (b - 1000) (some (T, match cs[j]? with
      | some .nilS => cs.set j (.v (.sl e) [])
      | _ => cs))
    | _ => bx) else bx)
def canon (keep : Hints) (c : Code) (s : St) : St :=
  let s0 := canon0 keep c s
  { s0 with t := vnils (keep ((firstReg c).getD 0)).2.2.1 s0.t, bx := vnilsB (keep ((firstReg c).getD 0)).2.2.2 s0.bx }
/-- .. where it is left. -/
def strike (keep : Hints) (c : Code) (s : St) : St := { s with t := killAt (keep ((firstReg c).getD 0)).2.1 0 s.t }
/-! The pairs of a region that may come up in either order. -/
inductive Cls where
  | pure | load | tok | other | wr | app
def clsOf (Γ : Ctx) (o : Oper) : Cls := match o.op with
  | .move _ => .pure
  | .assign _ => .pure
  | .pick .. => .pure
  | .nilCheck _ => .pure
  | .fieldAddr .. => .pure
  | .field .. => .pure
  | .build .. => .pure
  | .indexAddr .. => .pure
  | .index .. => .pure
  | .slice .. => .pure
  | .extract .. => .pure
  | .binOp .. => .pure
  | .unOp .. => .pure
  | .convert src dst _ => bif sameSl Γ.P src dst then .app else .pure
  | .load .. => .load
  | .store .. => .wr
  | .makeFunc .. => .pure
  | .makeSlice .. => .tok
  | .buildSlice t _ _ => (match elemTy Γ t with | some (_, .sl _) => .app | _ => .tok)
  | .call c => match c.callee with
    | .value (.func f) => if (Γ.sh f).noOwn then .pure else .tok
    | .builtin .len => .pure
    | .builtin .min => .pure
    | .builtin .max => .pure
    | .builtin .append => .app
    | _ => .other
  | _ => .other
def clsFree : Cls → Cls → Bool
  | .wr, _ => false
  | _, .wr => false
  | .pure, _ => true
  | _, .pure => true
  | .load, .load => true
  | .load, .tok => true
  | .tok, .load => true
  | .tok, .tok => true
  | .load, .app => true
  | .app, .load => true
  | _, _ => false
def isAlloc (o : Oper) : Bool := match o.op with
  | .alloc _ => true
  | _ => false
def lateOk : Cls → Bool
  | .load => true
  | .tok => true
  | _ => false
def isExt (o : Oper) : Bool := match o.op with
  | .extract (.tmp _) _ => o.guard.isNone
  | _ => false
def isSto (o : Oper) : Bool := match o.op with
  | .store .. => o.guard.isNone
  | _ => false
/-- May the two come up in either order? (A new variable behind what reads or makes slices, too; a write behind a part of an answer.) -/
def freePair (Γ : Ctx) (y o : Oper) : Bool := clsFree (clsOf Γ y) (clsOf Γ o) || (lateOk (clsOf Γ y) && isAlloc o) || (isExt y && isSto o)
def edgeMask (masks : List Nat) : List Edge → Nat
  | [] => 0
  | e :: r => if Region.binds .any e then (2 ^ e.on ||| masks.getD e.on 0) ||| edgeMask masks r else edgeMask masks r
/-- For each operation those ahead of it, by its edges and theirs. -/
def masksOf : List Oper → List Nat → List Nat
  | [], ms => ms
  | o :: r, ms => masksOf r (ms ++ [edgeMask ms o.after.toList])
def edgesBack (o : Oper) (i : Nat) : Bool := o.after.toList.all fun e => !Region.binds .any e || Nat.blt e.on i
def pairsOk (Γ : Ctx) (ops : Array Oper) (masks : List Nat) : List (Oper × Nat) → Bool
  | [] => true
  | (o, i) :: r => edgesBack o i && (ops.toList.zipIdx.all fun (y, j) => !Nat.blt j i || hasBit (masks.getD i 0) j || (Oper.apart ops y o && freePair Γ y o && !mayInl Γ y && !mayInl Γ o)) && pairsOk Γ ops masks r
def regionOk (Γ : Ctx) (ops : Array Oper) : Bool := pairsOk Γ ops (masksOf ops.toList []) ops.toList.zipIdx

/-- A struct that is handed back: the slices of the frame's own in it are given up. -/
def giveCs : Nat → List AV → List AV × Nat
  | live, [] => ([], live)
  | live, x :: r => match x with
    | .own id _ e xs => if hasBit live id then (.v (.sl e) xs :: (giveCs (delBit live id) r).1, (giveCs (delBit live id) r).2) else (.bad :: (giveCs live r).1, (giveCs live r).2)
    | x => (x :: (giveCs live r).1, (giveCs live r).2)
def giveAV (live : Nat) : AV → AV × Nat
  | .agg cs => (.agg (giveCs live cs).1, (giveCs live cs).2)
  | x => (x, live)
def giveL : Nat → List AV → List AV × Nat
  | live, [] => ([], live)
  | live, x :: r => ((giveAV live x).1 :: (giveL (giveAV live x).2 r).1, (giveL (giveAV live x).2 r).2)
/-- Are all slices in what is handed back of the frame's own? -/
def frsCell (live : Nat) : AV → Bool
  | .own id _ e _ => hasBit live id && e.noSl
  | .nilS => true
  | .v t _ => t.noSl
  | _ => false
def frsAV (live : Nat) : AV → Bool
  | .agg cs => cs.all (frsCell live)
  | x => frsCell live x
def okFrs (live : Nat) (xs : List AV) : Bool := xs.all (frsAV live)
section
variable {R : Type} (Γ : Ctx) (keep : Hints)
abbrev LoopK (R : Type) := Code → St → (AEx → St → Option R) → Option R
def aCode (L : LoopK R) : Code → St → (AEx → St → Option R) → Option R
  | .skip, s, K => K .normal s
  | .label _, s, K => K .normal s
  | .seq a b, s, K => aCode L a s fun e s' => match e with
    | .normal => aCode L b s' K
    | e => K e s'
  | .cond c x y, s, K => match s.ev c with
    | .v .bool b => bif b then aCode L x s K else aCode L y s K
    | _ => none
  | .block id c, s, K => aCode L c s fun e s' => match e with
    | .exit j => if Nat.beq j id then K .normal s' else K (.exit j) s'
    | e => K e s'
  | .loop c, s, K => L c (canon keep c s) K
  | .exit id, s, K => K (.exit id) s
  | .scope c, s, K => aCode L c s K
  | .ret, s, K => K .ret s
  | .region _ ops draw, s, K => if !draw || (Γ.P.follows .mixedOrders && regionOk Γ ops) then
      aOps Γ ops s.bx.length (List.range ops.size) { s with bx := s.bx ++ List.replicate ops.size none } (K .normal) else none
  | _, _, _ => none
def iter : Nat → LoopK R
  | 0, _, _, _ => none
  | n + 1, c, s, K => aCode Γ keep (iter n) c s fun e s' => match e with
    | .normal => iter n c (canon keep c s') K
    | e => K e (strike keep c s')
def resA (s : St) : ResultVar → Option AV
  | .tmp t => some (s.t.getD t .bad)
  | .cell a T => match s.t.getD a .bad with
    | .ptr b off => match s.bx[b]? with
      | some (some (_, cs)) => partA Γ.P T cs off
      | _ => none
    | _ => none
def resL (s : St) : List ResultVar → Option (List AV)
  | [] => some []
  | r :: rs => match resA Γ s r, resL s rs with
    | some x, some xs => some (x :: xs)
    | _, _ => none
/-- Own slices that are handed back where a slice to read is told of: given up. -/
def giveN : List (Option TypeId × Ty) → Nat → List AV → List AV × Nat
  | (o, _) :: l, live, x :: r => match o, x with
    | none, .own id _ e xs => bif hasBit live id then (.v (.sl e) xs :: (giveN l (delBit live id) r).1, (giveN l (delBit live id) r).2) else (.bad :: (giveN l live r).1, (giveN l live r).2)
    | _, x => (x :: (giveN l live r).1, (giveN l live r).2)
  | _, live, r => (r, live)
def Sh.parts : Sh → List (Option TypeId × Ty)
  | .one o t => [(o, t)]
  | .tup l => l
abbrev finX (sh : Sh) (live : Nat) (xs : List AV) : Option sh.den := bif sh.frs then (bif sh.flat && okFrs live xs then toSh (giveL live xs).2 sh (giveL live xs).1 else none) else toSh (giveL live xs).2 sh (giveL live xs).1
def finA (fn : Func) (sh : Sh) : AEx → St → Option sh.den
  | .exit _, _ => none
  | _, s => match resL Γ s fn.results.toList with
    | some xs => finX sh (giveN sh.parts s.live xs).2 (giveN sh.parts s.live xs).1
    | none => none
def aBody (L : (R : Type) → LoopK R) (fn : Func) (sh : Sh) (args : List AV) : Option sh.den := match fn.body with
  | some c => aCode Γ keep (L sh.den) c { t := args ++ List.replicate (fn.ntmps - args.length) (.raw undef), bx := [], live := 0, g := [] } (finA Γ fn sh)
  | none => none
end
/-- What a body reckoned inside leaves: its answer; the caller's temporaries are taken back. -/
def inFin {R : Type} (Γ : Ctx) (fn : Func) (k : Nat) (K : AV → St → Option R) : AEx → St → Option R
  | .exit _, _ => none
  | _, s => match resL Γ s fn.results.toList with
    | some [x] => K x { t := s.g.take k, bx := s.bx, live := s.live, g := s.g.drop k }
    | some xs => if xs.all (fun | .tup _ => false | _ => true) then K (.tup xs) { t := s.g.take k, bx := s.bx, live := s.live, g := s.g.drop k } else none
    | none => none
structure Base where
  P : Program
  typ : TypeId → Option Ty
  sh : FuncId → Sh
  keep : FuncId → Hints
  isIn : FuncId → Bool
  sp : (f : FuncId) → Option (List AV → Option (sh f).den)
  /-- Functions that get nil as nil. -/
  raw : FuncId → Bool := fun _ => false
  /-- Functions whose reckoning is given by hand, over what their calls answer. -/
  spc : (f : FuncId) → Option (((g : FuncId) → List AV → Option (sh g).den) → List AV → Option (sh f).den) := fun _ => none
  /-- Functions that are reckoned inside the caller's frame, by hand. -/
  spi : FuncId → Option ((List AV → St → Bool) × (List AV → St → Option (AV × St))) := fun _ => none
  /-- Functions to which slices of the frame's own are given up. -/
  gv : FuncId → Bool := fun _ => false
abbrev CallT (B : Base) : Type := (f : FuncId) → List AV → Option (B.sh f).den
abbrev InlT : Type 1 := (R : Type) → FuncId → List AV → St → (AV → St → Option R) → Option R
/-- The machine's context over what its calls answer. -/
@[reducible] def mkC (B : Base) (call : CallT B) (inl : InlT) : Ctx := { P := B.P, typ := B.typ, sh := B.sh, call := call, isIn := B.isIn, raw := B.raw, inl := inl }
def stepN (B : Base) (call : CallT B) (inl : InlT) (n : Nat) (f : FuncId) (args : List AV) : Option (B.sh f).den := match B.sp f with
  | some g => g args
  | none => match B.spc f with
   | some g => g call args
   | none => match B.P.funcs[f]? with
    | some fn => aBody (mkC B call inl) (B.keep f) (fun R => iter (R := R) (mkC B call inl) (B.keep f) n) fn (B.sh f) args
    | none => none
/-- What is handed over to be read: slices of the frame's own are given up. -/
def gvAV (live : Nat) : AV → AV × Nat
  | .own id _ e xs => if hasBit live id then (.v (.sl e) xs, delBit live id) else (.bad, live)
  | x => giveAV live x
def gvL : Nat → List AV → List AV × Nat
  | live, [] => ([], live)
  | live, x :: r => ((gvAV live x).1 :: (gvL (gvAV live x).2 r).1, (gvL (gvAV live x).2 r).2)
def goGive {R : Type} (B : Base) (call : CallT B) (f : FuncId) (args : List AV) (s : St) (K : AV → St → Option R) : Option R := match B.P.funcs[f]? with
  | some fn => match fn.body with
    | some _ => match byVals B.typ (gvL s.live args).1 fn.params.toList with
      | some vs => if ((B.sh f).freshA || (gvL s.live args).1.all calm) && (B.sh f).small then
          (call f vs).bind fun r => K (mkAV (8 * s.bx.length) (B.sh f) r) { s with live := (B.sh f).bits (8 * s.bx.length) (gvL s.live args).2, bx := s.bx ++ [none] }
        else none
      | none => none
    | none => none
  | none => none
def inlN (B : Base) (call : CallT B) (inl : InlT) (n : Nat) : InlT := fun R f args s K => match B.gv f with
 | true => goGive B call f args s K
 | false => match B.spi f with
 | some g => bif g.1 args s then (g.2 args s).bind fun p => K p.1 p.2 else none
 | none => match B.P.funcs[f]? with
  | some fn => match fn.body with
    | some c => aCode (mkC B call inl) (B.keep f) (iter (R := R) (mkC B call inl) (B.keep f) n) c { t := args ++ List.replicate (fn.ntmps - args.length) (.raw undef), bx := s.bx, live := s.live, g := s.t ++ s.g } (inFin (mkC B call inl) fn s.t.length K)
    | none => none
  | none => none
def lvl (B : Base) : Nat → CallT B × InlT
  | 0 => (fun _ _ => none, fun _ _ _ _ _ => none)
  | n + 1 => (stepN B (lvl B n).1 (lvl B n).2 n, inlN B (lvl B n).1 (lvl B n).2 n)
def callN (B : Base) (n : Nat) : CallT B := (lvl B n).1
@[reducible] def ctxN (B : Base) (n : Nat) : Ctx := mkC B (lvl B n).1 (lvl B n).2
end
end Go.Eng
/- ENGINE, part B: what an abstract value says of a value in a world; what stays when the world goes on. -/
namespace Go.Eng
open Go Go.RowKit
/-- A variable of the library's holds a value of an interface's type. -/
def IfaceAt (w : World) (name : String) : Prop := ∀ g, Go.Proofs.Tryd.prog.globalNamed name = some g → ∃ ev, w.cell? ⟨g, 0, none⟩ = some ev ∧ (ev = .nilIface ∨ ∃ te pe, ev = .iface te pe)
def IntAt (w : World) (name : String) : Prop := ∀ g, Go.Proofs.Tryd.prog.globalNamed name = some g → ∃ m, w.cell? ⟨g, 0, none⟩ = some (.int .i64 m)
def TabAt (w : World) (name : String) (k : IntKind) (zs : List Int) : Prop := ∀ g, Go.Proofs.Tryd.prog.globalNamed name = some g → Lib.TabIs Go.Proofs.Tryd.prog w name k zs
/-- What holds of every world that is met: the library's variables that the program's road reads. -/
structure okW (w : World) : Prop where
  syn : IfaceAt w "strconv.ErrSyntax"
  rng : IfaceAt w "strconv.ErrRange"
  len : IntAt w "internal/bytealg.MaxLen"
  pow : TabAt w "internal/strconv.uint64pow10" .u64 Lib.pow10Tab
theorem cell_keeps {w w' : World} (h : Below w.heap.size w w') {g : Nat} {v : Value} (hv : w.cell? ⟨g, 0, none⟩ = some v) : w'.cell? ⟨g, 0, none⟩ = some v := by
  refine (h.cell (show (⟨g, 0, none⟩ : Addr).block < w.heap.size from ?_)).trans hv
  unfold World.cell? at hv
  simp only at hv
  cases hh : w.heap[g]? with
  | none => rw [hh] at hv; simp at hv
  | some _ => exact (Array.getElem?_eq_some_iff.1 hh).1
theorem tab_keeps {w w' : World} {name : String} {k : IntKind} {zs : List Int} (h : Lib.TabIs Go.Proofs.Tryd.prog w name k zs) (hb : Below w.heap.size w w') : Lib.TabIs Go.Proofs.Tryd.prog w' name k zs := by
  unfold Lib.TabIs World.var? at h ⊢
  cases hg : Go.Proofs.Tryd.prog.globalNamed name with
  | none => rw [hg] at h; cases h
  | some g =>
    rw [hg] at h
    simp only [Option.bind_some] at h ⊢
    have hlt : g < w.heap.size := by
      cases hh : w.heap[g]? with
      | none => rw [hh] at h; cases h
      | some _ => exact (Array.getElem?_eq_some_iff.1 hh).1
    rw [hb.block g hlt]
    exact h
theorem okW.below {w w' : World} (h : okW w) (hb : Below w.heap.size w w') : okW w' :=
  ⟨fun g hg => let ⟨ev, h1, h2⟩ := h.syn g hg; ⟨ev, cell_keeps hb h1, h2⟩,
   fun g hg => let ⟨ev, h1, h2⟩ := h.rng g hg; ⟨ev, cell_keeps hb h1, h2⟩,
   fun g hg => let ⟨m, h1⟩ := h.len g hg; ⟨m, cell_keeps hb h1⟩,
   fun g hg => tab_keeps (h.pow g hg) hb⟩
def repsOf {α : Type} (r : α → List Value → Prop) : List α → List Value → Prop
  | [], cs => cs = []
  | x :: xs, cs => ∃ c0 c1, cs = c0 ++ c1 ∧ r x c0 ∧ repsOf r xs c1
/-- Cells that lie in a row where they may be read. -/
def CellsAt (w : World) (Q : Nat → Nat → Prop) (A : Option Addr) (inner : List Value) : Prop :=
  inner = [] ∨ ∃ ad, A = some ad ∧ Q ad.block (ad.off + inner.length) ∧ ∀ j u, inner[j]? = some u → w.cell? (ad.add j) = some u
def rep (w : World) (N : Nat → Prop) : (t : Ty) → t.den → List Value → Prop
  | .int k, n, cs => cs = [.int k n]
  | .bool, b, cs => cs = [.bool b]
  | .str, s, cs => cs = [.string s]
  | .flt k, b, cs => cs = [.float k b]
  | .unit, _, cs => cs = []
  | .pair a b, x, cs => ∃ c0 c1, cs = c0 ++ c1 ∧ rep w N a x.1 c0 ∧ rep w N b x.2 c1
  | .sl e, xs, cs => ∃ A c inner, cs = [.slice A (List.length xs) c] ∧ List.length xs ≤ c ∧ repsOf (rep w N e) xs inner ∧ CellsAt w (fun b _ => N b) A inner
section
variable {w w' : World} {N N' : Nat → Prop}
theorem repsOf_imp {α : Type} {r r' : α → List Value → Prop} (h : ∀ x cs, r x cs → r' x cs) : ∀ (xs : List α) (cs : List Value), repsOf r xs cs → repsOf r' xs cs
  | [], _, h0 => h0
  | _ :: xs, _, ⟨c0, c1, e, h0, h1⟩ => ⟨c0, c1, e, h _ _ h0, repsOf_imp h xs _ h1⟩
theorem repsOf_append {α : Type} {r : α → List Value → Prop} : ∀ {xs ys : List α} {cs ds : List Value}, repsOf r xs cs → repsOf r ys ds → repsOf r (xs ++ ys) (cs ++ ds)
  | [], _, _, _, rfl, h1 => h1
  | _ :: xs, _, _, _, ⟨c0, c1, e, h0, h⟩, h1 => ⟨c0, c1 ++ _, by rw [e, List.append_assoc], h0, repsOf_append h h1⟩
theorem repsOf_length {α : Type} {r : α → List Value → Prop} {n : Nat} (h : ∀ x cs, r x cs → cs.length = n) : ∀ (xs : List α) (cs : List Value), repsOf r xs cs → cs.length = xs.length * n
  | [], _, rfl => by simp
  | x :: xs, _, ⟨c0, c1, e, h0, h1⟩ => by rw [e, List.length_append, h _ _ h0, repsOf_length h xs _ h1, List.length_cons, Nat.succ_mul, Nat.add_comm]
theorem repsOf_get {α : Type} {r : α → List Value → Prop} {n : Nat} (h : ∀ x cs, r x cs → cs.length = n) : ∀ (xs : List α) (cs : List Value) (i : Nat) (x : α), repsOf r xs cs → xs[i]? = some x → ∃ c, r x c ∧ ∀ j u, c[j]? = some u → cs[i * n + j]? = some u
  | [], _, _, _, _, hx => by simp at hx
  | y :: xs, _, 0, x, ⟨c0, c1, e, h0, h1⟩, hx => by
    simp only [List.getElem?_cons_zero, Option.some.injEq] at hx
    subst hx
    refine ⟨c0, h0, fun j u hj => ?_⟩
    rw [e, Nat.zero_mul, Nat.zero_add, List.getElem?_append_left (List.getElem?_eq_some_iff.1 hj).1]
    exact hj
  | y :: xs, _, i + 1, x, ⟨c0, c1, e, h0, h1⟩, hx => by
    rw [List.getElem?_cons_succ] at hx
    obtain ⟨c, hc, hr⟩ := repsOf_get h xs c1 i x h1 hx
    refine ⟨c, hc, fun j u hj => ?_⟩
    have := hr j u hj
    rw [e, List.getElem?_append_right (by rw [h _ _ h0, Nat.succ_mul]; omega), h _ _ h0, show (i + 1) * n + j - n = i * n + j by rw [Nat.succ_mul]; omega]
    exact this
theorem repsOf_take {α : Type} {r : α → List Value → Prop} {n : Nat} (h : ∀ x cs, r x cs → cs.length = n) : ∀ (xs : List α) (cs : List Value) (k : Nat), repsOf r xs cs → repsOf r (xs.take k) (cs.take (k * n))
  | [], _, k, rfl => by simp [repsOf]
  | x :: xs, _, 0, _ => by simp [repsOf]
  | x :: xs, _, k + 1, ⟨c0, c1, e, h0, h1⟩ => by
    refine ⟨c0, c1.take (k * n), ?_, h0, repsOf_take h xs c1 k h1⟩
    have hl := h _ _ h0
    rw [e, List.take_append, hl, Nat.succ_mul, show k * n + n - n = k * n by omega, List.take_of_length_le (l := c0) (by omega)]
theorem repsOf_drop {α : Type} {r : α → List Value → Prop} {n : Nat} (h : ∀ x cs, r x cs → cs.length = n) : ∀ (xs : List α) (cs : List Value) (k : Nat), repsOf r xs cs → repsOf r (xs.drop k) (cs.drop (k * n))
  | [], _, k, rfl => by simp [repsOf]
  | x :: xs, _, 0, h0 => by simpa using h0
  | x :: xs, _, k + 1, ⟨c0, c1, e, h0, h1⟩ => by
    have hl := h _ _ h0
    rw [List.drop_succ_cons, e, List.drop_append, hl, Nat.succ_mul, show k * n + n - n = k * n by omega, List.drop_of_length_le (l := c0) (by omega), List.nil_append]
    exact repsOf_drop h xs c1 k h1
theorem CellsAt.imp {Q Q' : Nat → Nat → Prop} {A : Option Addr} {inner : List Value} (h : CellsAt w Q A inner)
    (hQ : ∀ b hi, Q b hi → Q' b hi ∧ ∀ o, o < hi → w'.cell? ⟨b, o, none⟩ = w.cell? ⟨b, o, none⟩) : CellsAt w' Q' A inner := by
  rcases h with h | ⟨ad, hA, hq, hc⟩
  · exact .inl h
  · refine .inr ⟨ad, hA, (hQ _ _ hq).1, fun j u hj => ?_⟩
    have h0 := hc j u hj
    have hlt := (List.getElem?_eq_some_iff.1 hj).1
    have key : ad.add j = ⟨ad.block, ad.off + j, none⟩ := by
      unfold Addr.add at h0 ⊢
      split
      · rename_i hz
        rw [if_pos hz] at h0
        cases ad with
        | mk b o sp =>
          cases sp with
          | none => simp [hz]
          | some z => simp [World.cell?] at h0; split at h0 <;> simp at h0
      · rfl
    rw [key] at h0 ⊢
    rw [(hQ _ _ hq).2 _ (by omega)]
    exact h0
theorem cell_of_heap {b o : Nat} (h : w'.heap[b]? = w.heap[b]?) : w'.cell? ⟨b, o, none⟩ = w.cell? ⟨b, o, none⟩ := by simp [World.cell?, h]
theorem rep_step (hN : ∀ b, N b → N' b ∧ w'.heap[b]? = w.heap[b]?) : ∀ (t : Ty) (x : t.den) (cs : List Value), rep w N t x cs → rep w' N' t x cs := by
  intro t
  induction t with
  | int k => exact fun _ _ h => h
  | bool => exact fun _ _ h => h
  | str => exact fun _ _ h => h
  | flt k => exact fun _ _ h => h
  | unit => exact fun _ _ h => h
  | pair a b iha ihb => exact fun x cs ⟨c0, c1, e, h0, h1⟩ => ⟨c0, c1, e, iha _ _ h0, ihb _ _ h1⟩
  | sl e ih =>
    rintro xs cs ⟨A, c, inner, rfl, hl, hr, hc⟩
    exact ⟨A, c, inner, rfl, hl, repsOf_imp ih xs inner hr, hc.imp fun b _ hb => ⟨(hN b hb).1, fun o _ => cell_of_heap (hN b hb).2⟩⟩
theorem rep_len : ∀ (t : Ty) (x : t.den) (cs : List Value), rep w N t x cs → cs.length = t.sz := by
  intro t
  induction t with
  | pair a b iha ihb =>
    rintro x cs ⟨c0, c1, rfl, h0, h1⟩
    rw [List.length_append, iha _ _ h0, ihb _ _ h1]; rfl
  | sl e ih => rintro xs cs ⟨A, c, inner, rfl, _⟩; rfl
  | unit => rintro _ _ rfl; rfl
  | _ => intro x cs h; rw [h]; rfl
theorem rep_one : ∀ (t : Ty) (x : t.den) (cs : List Value), rep w N t x cs → ∀ u ∈ cs, u.oneCell' = true := by
  intro t
  induction t with
  | pair a b iha ihb =>
    rintro x cs ⟨c0, c1, rfl, h0, h1⟩ u hu
    rcases List.mem_append.1 hu with hu | hu
    · exact iha _ _ h0 u hu
    · exact ihb _ _ h1 u hu
  | sl e ih => rintro xs cs ⟨A, c, inner, rfl, _⟩ u hu; rw [List.mem_singleton.1 hu]; rfl
  | unit => rintro _ _ rfl u hu; cases hu
  | int k => intro x cs h u hu; rw [h] at hu; rw [List.mem_singleton.1 hu]; rfl
  | bool => intro x cs h u hu; rw [h] at hu; rw [List.mem_singleton.1 hu]; rfl
  | str => intro x cs h u hu; rw [h] at hu; rw [List.mem_singleton.1 hu]; rfl
  | flt k => intro x cs h u hu; rw [h] at hu; rw [List.mem_singleton.1 hu]; rfl
theorem reps_one {e : Ty} : ∀ (xs : List e.den) (cs : List Value), repsOf (rep w N e) xs cs → ∀ u ∈ cs, u.oneCell' = true
  | [], _, rfl, u, hu => by cases hu
  | x :: xs, _, ⟨c0, c1, e, h0, h1⟩, u, hu => by
    rw [e] at hu
    rcases List.mem_append.1 hu with hu | hu
    · exact rep_one _ _ _ h0 u hu
    · exact reps_one xs _ h1 u hu
theorem reps_len {e : Ty} (xs : List e.den) (cs : List Value) (h : repsOf (rep w N e) xs cs) : cs.length = xs.length * e.sz := repsOf_length (rep_len e) xs cs h
end

/-! ### the view of a frame -/
structure Vw where
  w : World
  base : Nat
  N : Nat → Prop
  live : Nat → Prop
  G : Nat → Option Nat
  E : Nat → Nat
  U : Nat → Prop
  isBox : Nat → Prop
  B : Nat → Nat
def Vw.Rd (q : Vw) (b hi : Nat) : Prop := q.N b ∨ ∃ τ, q.live τ ∧ q.G τ = some b ∧ hi ≤ q.E τ
def all2 {α β : Type} (r : α → β → Prop) : List α → List β → Prop
  | [], [] => True
  | x :: xs, y :: ys => r x y ∧ all2 r xs ys
  | _, _ => False
/-- A slice that may be read. -/
def Vw.Sl (q : Vw) (e : Ty) (xs : List e.den) (val : Value) : Prop :=
  ∃ A c inner, val = .slice A xs.length c ∧ xs.length ≤ c ∧ repsOf (rep q.w q.N e) xs inner ∧ CellsAt q.w q.Rd A inner
/-- .. that is owned. -/
def Vw.Own (q : Vw) (τ : Nat) (T : TypeId) (e : Ty) (xs : List e.den) (val : Value) : Prop :=
  ∃ inner, q.w.ownsRow q.base T e.sz val xs.length inner ∧ val.ownBlock = q.G τ ∧ repsOf (rep q.w q.N e) xs inner ∧ q.E τ = inner.length
def V0 (q : Vw) : AV → Value → Prop
  | .v t x, u => rep q.w q.N t x [u]
  | _, _ => False
/-- Cells that may be read, behind a pointer. -/
def Vw.Ro (q : Vw) (cs : List AV) (val : Value) : Prop := ∃ ad, val = .pointer (some ad) ∧ (cs = [] ∨ q.Rd ad.block (ad.off + cs.length)) ∧ ∀ j x, cs[j]? = some x → ∃ u, q.w.cell? (ad.add j) = some u ∧ V0 q x u
/-- What a closure keeps: places of boxes. -/
def Vp (q : Vw) : AV → Value → Prop
  | .ptr b off, val => val = .pointer (some ⟨q.B b, off, none⟩) ∧ q.isBox b
  | .raw v, val => val = v
  | .bad, _ => True
  | _, _ => False
def V1 (q : Vw) : AV → Value → Prop
  | .v t x, val => rep q.w q.N t x [val]
  | .al e xs, val => q.Sl e xs val
  | .own τ T e xs, val => q.U τ ∧ q.Sl e xs val ∧ (q.live τ → q.Own τ T e xs val)
  | .el τ T e xs i, val => q.U τ ∧ q.Ro (cellsT e (xs.getD i e.dflt)) val ∧ (q.live τ → i < xs.length ∧ ∃ g sl, q.G τ = some g ∧ val = .pointer (some ⟨g, i * e.sz, none⟩) ∧ q.Own τ T e xs sl)
  | .nilS, val => val = .slice none 0 0
  | .ptr b off, val => val = .pointer (some ⟨q.B b, off, none⟩) ∧ q.isBox b
  | .ro cs, val => q.Ro cs val
  | .fn f caps, val => ∃ vs : List Value, val = .func (.func f) #[] vs.toArray ∧ all2 (Vp q) caps vs
  | .raw v, val => val = v
  | .bad, _ => True
  | _, _ => False
def V2 (q : Vw) : AV → Value → Prop
  | .agg cs, val => ∃ vs : List Value, val = .agg vs.toArray ∧ all2 (V1 q) cs vs ∧ ∀ u ∈ vs, u.oneCell' = true
  | x, val => V1 q x val
def V (q : Vw) : AV → Value → Prop
  | .tup xs, val => ∃ vs : List Value, val = .tuple vs.toArray ∧ all2 (V2 q) xs vs
  | x, val => V2 q x val
theorem all2_imp {α β : Type} {r r' : α → β → Prop} (h : ∀ x y, r x y → r' x y) : ∀ (xs : List α) (ys : List β), all2 r xs ys → all2 r' xs ys
  | [], [], _ => trivial
  | _ :: xs, _ :: ys, ⟨h0, h1⟩ => ⟨h _ _ h0, all2_imp h xs ys h1⟩
theorem all2_len {α β : Type} {r : α → β → Prop} : ∀ {xs : List α} {ys : List β}, all2 r xs ys → xs.length = ys.length
  | [], [], _ => rfl
  | _ :: xs, _ :: ys, ⟨_, h1⟩ => by rw [List.length_cons, List.length_cons, all2_len h1]
theorem all2_get {α β : Type} {r : α → β → Prop} : ∀ {xs : List α} {ys : List β} {i : Nat} {x : α}, all2 r xs ys → xs[i]? = some x → ∃ y, ys[i]? = some y ∧ r x y
  | _ :: xs, y :: ys, 0, x, ⟨h0, h1⟩, hx => ⟨y, rfl, by simp at hx; exact hx ▸ h0⟩
  | _ :: xs, _ :: ys, i + 1, x, ⟨h0, h1⟩, hx => by
    rw [List.getElem?_cons_succ] at hx ⊢
    exact all2_get h1 hx
theorem all2_drop {α β : Type} {r : α → β → Prop} : ∀ {xs : List α} {ys : List β} (n : Nat), all2 r xs ys → all2 r (xs.drop n) (ys.drop n)
  | xs, ys, 0, h => by simpa using h
  | [], [], n + 1, _ => by simp [all2]
  | _ :: xs, _ :: ys, n + 1, ⟨_, h1⟩ => by simpa using all2_drop n h1
theorem all2_take {α β : Type} {r : α → β → Prop} : ∀ {xs : List α} {ys : List β} (n : Nat), all2 r xs ys → all2 r (xs.take n) (ys.take n)
  | xs, ys, 0, h => by simp [all2]
  | [], [], n + 1, _ => by simp [all2]
  | _ :: xs, _ :: ys, n + 1, ⟨h0, h1⟩ => by simpa [all2] using ⟨h0, all2_take n h1⟩
theorem all2_append {α β : Type} {r : α → β → Prop} : ∀ {xs : List α} {ys : List β} {xs' : List α} {ys' : List β}, all2 r xs ys → all2 r xs' ys' → all2 r (xs ++ xs') (ys ++ ys')
  | [], [], _, _, _, h => h
  | _ :: xs, _ :: ys, _, _, ⟨h0, h1⟩, h => ⟨h0, all2_append h1 h⟩
/-- What of one view stands in another. -/
structure Vw.To (q q' : Vw) : Prop where
  base : q'.base = q.base
  N : ∀ b, q.N b → q'.N b ∧ q'.w.heap[b]? = q.w.heap[b]?
  R : ∀ b hi, q.Rd b hi → q'.Rd b hi ∧ ∀ o, o < hi → q'.w.cell? ⟨b, o, none⟩ = q.w.cell? ⟨b, o, none⟩
  L : ∀ τ, q.U τ → q'.U τ ∧ (q'.live τ → q.live τ ∧ q'.G τ = q.G τ ∧ q'.E τ = q.E τ ∧ ∀ k, q.G τ = some k → q'.w.heap[k]? = q.w.heap[k]?)
  Bx : ∀ b, q.isBox b → q'.isBox b ∧ q'.B b = q.B b
section
variable {q q' : Vw}
theorem Vw.To.sl (h : q.To q') {e : Ty} {xs : List e.den} {val : Value} : q.Sl e xs val → q'.Sl e xs val := by
  rintro ⟨A, c, inner, rfl, hl, hr, hc⟩
  exact ⟨A, c, inner, rfl, hl, repsOf_imp (rep_step h.N e) xs inner hr, hc.imp h.R⟩
theorem own_at {w w' : World} {base : Nat} {T size n : Nat} {v : Value} {xs : List Value} (h : w.ownsRow base T size v n xs) (hm : ∀ k, v.ownBlock = some k → w'.heap[k]? = w.heap[k]?) : w'.ownsRow base T size v n xs := by
  obtain ⟨h1, h2⟩ := h
  refine ⟨h1, ?_⟩
  rcases h2 with h2 | ⟨g, cap, cur, rfl, hg, hh, r⟩
  · exact .inl h2
  · exact .inr ⟨g, cap, cur, rfl, hg, (hm g (by simp [Value.ownBlock])).trans hh, r⟩
theorem Vw.To.v0 (h : q.To q') {x : AV} {val : Value} (hv : V0 q x val) : V0 q' x val := by
  cases x <;> simp only [V0] at hv ⊢ <;> first | exact hv.elim | exact rep_step h.N _ _ _ hv
theorem addr_key {w : World} {ad : Addr} {j : Nat} {u : Value} (h : w.cell? (ad.add j) = some u) : ad.add j = ⟨ad.block, ad.off + j, none⟩ := by
  unfold Addr.add at h ⊢
  split
  · rename_i hz
    rw [if_pos hz] at h
    cases ad with
    | mk b o sp =>
      cases sp with
      | none => simp [hz]
      | some z => simp [World.cell?] at h; split at h <;> simp at h
  · rfl
theorem Vw.To.ro (h : q.To q') {cs : List AV} {val : Value} (hv : q.Ro cs val) : q'.Ro cs val := by
  obtain ⟨ad, h0, h1, h2⟩ := hv
  have hR := h.R
  refine ⟨ad, h0, h1.imp id fun h => ?_, fun j x hj => ?_⟩
  · exact (hR _ _ h).1
  · obtain ⟨u, hu, hx⟩ := h2 j x hj
    refine ⟨u, ?_, h.v0 hx⟩
    have hk := addr_key hu
    rw [hk] at hu ⊢
    have hne : cs ≠ [] := by rintro rfl; simp at hj
    rw [(h.R _ _ (h1.resolve_left hne)).2 _ (by have := (List.getElem?_eq_some_iff.1 hj).1; omega)]
    exact hu
theorem Vw.To.vp (h : q.To q') {x : AV} {val : Value} (hv : Vp q x val) : Vp q' x val := by
  cases x with
  | ptr b off =>
    obtain ⟨h0, h1⟩ := hv
    obtain ⟨h2, h3⟩ := h.Bx b h1
    exact ⟨by rw [h3]; exact h0, h2⟩
  | raw v => exact hv
  | bad => trivial
  | _ => exact hv.elim
theorem Vw.To.v1 (h : q.To q') {x : AV} {val : Value} (hv : V1 q x val) : V1 q' x val := by
  cases x with
  | v t x => exact rep_step h.N _ _ _ hv
  | al e xs => exact h.sl hv
  | own τ T e xs =>
    obtain ⟨h0, h1, h2⟩ := hv
    obtain ⟨h3, h4⟩ := h.L τ h0
    refine ⟨h3, h.sl h1, fun hl => ?_⟩
    obtain ⟨h5, h6, h7, h8⟩ := h4 hl
    obtain ⟨inner, ho, hb, hr, hE⟩ := h2 h5
    exact ⟨inner, by rw [h.base]; exact own_at ho (fun k hk => h8 k (hb ▸ hk)), by rw [h6]; exact hb, repsOf_imp (rep_step h.N e) xs inner hr, by rw [h7]; exact hE⟩
  | el τ T e xs i =>
    obtain ⟨h0, hro, h1⟩ := hv
    obtain ⟨h3, h4⟩ := h.L τ h0
    refine ⟨h3, h.ro hro, fun hl => ?_⟩
    obtain ⟨h5, h6, h7, h8⟩ := h4 hl
    obtain ⟨hi, g, sl, hg, hval, inner, ho, hb, hr, hE⟩ := h1 h5
    exact ⟨hi, g, sl, by rw [h6]; exact hg, hval, inner, by rw [h.base]; exact own_at ho (fun k hk => h8 k (hb ▸ hk)), by rw [h6]; exact hb, repsOf_imp (rep_step h.N e) xs inner hr, by rw [h7]; exact hE⟩
  | nilS => exact hv
  | ptr b off =>
    obtain ⟨h0, h1⟩ := hv
    obtain ⟨h2, h3⟩ := h.Bx b h1
    exact ⟨by rw [h3]; exact h0, h2⟩
  | ro cs => exact h.ro hv
  | fn f caps =>
    obtain ⟨vs, h0, h1⟩ := hv
    exact ⟨vs, h0, all2_imp (fun _ _ => h.vp) _ _ h1⟩
  | raw v => exact hv
  | bad => trivial
  | agg cs => exact hv.elim
  | tup vs => exact hv.elim
theorem Vw.To.v2 (h : q.To q') {x : AV} {val : Value} (hv : V2 q x val) : V2 q' x val := by
  cases x with
  | agg cs =>
    obtain ⟨vs, h0, h1, h2⟩ := hv
    exact ⟨vs, h0, all2_imp (fun _ _ => h.v1) _ _ h1, h2⟩
  | _ => simp only [V2] at hv ⊢; exact h.v1 hv
theorem Vw.To.v (h : q.To q') {x : AV} {val : Value} (hv : V q x val) : V q' x val := by
  cases x with
  | tup xs =>
    obtain ⟨vs, h0, h1⟩ := hv
    exact ⟨vs, h0, all2_imp (fun _ _ => h.v2) _ _ h1⟩
  | _ => simp only [V] at hv ⊢; exact h.v2 hv
end
end Go.Eng
/- ENGINE, part C: what holds of a frame; operations that turn no memory. -/
namespace Go.Eng
open Go Go.RowKit
structure Mp where
  G : Nat → Option Nat
  E : Nat → Nat
  U : Nat → Prop
  B : Nat → Nat
/-- What a frame came upon: the blocks that may be read; what its callers, reckoned with it, keep aside. -/
structure Env where
  N : Nat → Prop
  gv : List Value
  /-- Blocks that nobody turns. -/
  fr : List (Nat × Obj)
def vw (w0 : World) (Nin : Env) (s : St) (m : Mp) (w : World) : Vw where
  w := w
  base := w0.heap.size
  N b := b < w.heap.size ∧ (b < w0.heap.size → Nin.N b) ∧ (∀ τ, hasBit s.live τ = true → m.G τ ≠ some b) ∧ (∀ (i : Nat) (T : TypeId) (cs : List AV), s.bx[i]? = some (some (T, cs)) → m.B i ≠ b)
  live τ := hasBit s.live τ = true
  G := m.G
  E := m.E
  U := m.U
  isBox b := ∃ T cs, s.bx[b]? = some (some (T, cs))
  B := m.B
structure Inv (w0 : World) (Nin : Env) (D : Nat → Prop) (s : St) (m : Mp) (a : Act) (w : World) : Prop where
  below : Below w0.heap.size w0 w
  defers : a.defers = []
  tlen : a.tmps.size = s.t.length
  tmps : ∀ (i : Nat) (x : AV) (v : Value), s.t[i]? = some x → a.tmps[i]? = some v → V (vw w0 Nin s m w) x v
  toks : ∀ τ k : Nat, hasBit s.live τ = true → m.G τ = some k → w0.heap.size ≤ k ∧ k < w.heap.size
  inj : ∀ τ τ' k : Nat, hasBit s.live τ = true → hasBit s.live τ' = true → m.G τ = some k → m.G τ' = some k → τ = τ'
  boxes : ∀ (b : Nat) (T : TypeId) (cs : List AV), s.bx[b]? = some (some (T, cs)) → w0.heap.size ≤ m.B b ∧ ∃ vs : List Value, w.heap[m.B b]? = some (.cells vs.toArray T (0, 0)) ∧ all2 (V1 (vw w0 Nin s m w)) cs vs ∧ ∀ u ∈ vs, u.oneCell' = true
  binj : ∀ (b : Nat) (T : TypeId) (cs : List AV) (b' : Nat) (T' : TypeId) (cs' : List AV), s.bx[b]? = some (some (T, cs)) → s.bx[b']? = some (some (T', cs')) → m.B b = m.B b' → b = b'
  sep : ∀ (τ k b : Nat) (T : TypeId) (cs : List AV), hasBit s.live τ = true → m.G τ = some k → s.bx[b]? = some (some (T, cs)) → m.B b ≠ k
  uD : ∀ τ, m.U τ → D (τ / 8)
  bD : ∀ (b : Nat) (T : TypeId) (cs : List AV), s.bx[b]? = some (some (T, cs)) → D b
  liveU : ∀ τ, hasBit s.live τ = true → m.U τ
  ghost : all2 (V (vw w0 Nin s m w)) s.g Nin.gv
  frz : ∀ p ∈ Nin.fr, (vw w0 Nin s m w).N p.1 ∧ w.heap[p.1]? = some p.2
  ok : okW w0
section
variable {w0 : World} {Nin : Env} {D : Nat → Prop} {s : St} {m : Mp} {a : Act} {w : World}
theorem Inv.okNow (h : Inv w0 Nin D s m a w) : okW w := h.ok.below h.below
theorem vw_put (d : Option Tmp) (x : AV) : vw w0 Nin (s.put d x) m w = vw w0 Nin s m w := by cases d <;> rfl
theorem put_bx (d : Option Tmp) (x : AV) : (s.put d x).bx = s.bx := by cases d <;> rfl
theorem put_live (d : Option Tmp) (x : AV) : (s.put d x).live = s.live := by cases d <;> rfl
theorem Inv.put (h : Inv w0 Nin D s m a w) (d : Option Tmp) {x : AV} {v : Value} (hv : V (vw w0 Nin s m w) x v) : Inv w0 Nin D (s.put d x) m (a.put d v) w := by
  cases d with
  | none => exact h
  | some d =>
    refine ⟨h.below, h.defers, ?_, ?_, h.toks, h.inj, h.boxes, h.binj, h.sep, h.uD, h.bD, h.liveU, h.ghost, h.frz, h.ok⟩
    · show (a.tmps.setIfInBounds d v).size = (s.t.set d x).length
      rw [Array.size_setIfInBounds, List.length_set, h.tlen]
    · intro i y u hy hu
      show V (vw w0 Nin s m w) y u
      have hy' : (s.t.set d x)[i]? = some y := hy
      have hu' : (a.tmps.setIfInBounds d v)[i]? = some u := hu
      by_cases hi : d = i
      · subst hi
        rw [List.getElem?_set] at hy'
        rw [Array.getElem?_setIfInBounds] at hu'
        simp only [if_true] at hy' hu'
        split at hy'
        · split at hu'
          · cases hy'; cases hu'; exact hv
          · cases hu'
        · cases hy'
      · rw [List.getElem?_set_ne hi] at hy'
        rw [Array.getElem?_setIfInBounds_ne hi] at hu'
        exact h.tmps i y u hy' hu'
theorem V_ofConst (q : Vw) (v : Value) : V q (ofConst v) v := by
  have cell : ∀ u : Value, u.oneCell' = true → V1 q (match u with
    | .int k n => .v (.int k) n
    | .bool b => .v .bool b
    | .string s => .v .str s
    | .float k b => .v (.flt k) b
    | .slice none 0 0 => .nilS
    | v => .raw v) u := by
    intro u hu
    cases u with
    | slice A n c =>
      cases A with
      | none =>
        cases n with
        | zero => cases c <;> rfl
        | succ n => rfl
      | some A => rfl
    | agg _ => cases hu
    | tuple _ => cases hu
    | _ => rfl
  cases v with
  | slice A n c =>
    cases A with
    | none =>
      cases n with
      | zero => cases c <;> rfl
      | succ n => rfl
    | some A => rfl
  | agg cs =>
    simp only [ofConst]
    split
    · rename_i hall
      have hall' : ∀ u ∈ cs.toList, u.oneCell' = true := fun u hu => by simpa using List.all_eq_true.1 hall u hu
      refine ⟨cs.toList, rfl, ?_, hall'⟩
      generalize cs.toList = l at hall'
      induction l with
      | nil => trivial
      | cons u l ih => exact ⟨cell u (hall' u List.mem_cons_self), ih (fun x hx => hall' x (List.mem_cons_of_mem _ hx))⟩
    · rfl
  | _ => rfl
theorem Inv.ev (h : Inv w0 Nin D s m a w) (x : Operand) : V (vw w0 Nin s m w) (s.ev x) (a.eval x) := by
  cases x with
  | tmp t =>
    show V _ (s.t.getD t .bad) (a.tmps.getD t undef)
    by_cases ht : t < s.t.length
    · have h1 : s.t[t]? = some s.t[t] := List.getElem?_eq_getElem ht
      have ht' : t < a.tmps.size := by rw [h.tlen]; exact ht
      have h2 : a.tmps[t]? = some a.tmps[t] := Array.getElem?_eq_getElem ht'
      have := h.tmps t _ _ h1 h2
      rw [List.getD_eq_getElem?_getD, h1, Array.getD_eq_getD_getElem?, h2]
      exact this
    · rw [List.getD_eq_getElem?_getD, List.getElem?_eq_none (Nat.le_of_not_lt ht)]
      trivial
  | const v => exact V_ofConst _ v
  | global g => trivial
  | func f => exact ⟨[], rfl, trivial⟩
/-- More names may be used up. -/
theorem Inv.wider {D' : Nat → Prop} (h : Inv w0 Nin D s m a w) (hD : ∀ n, D n → D' n) : Inv w0 Nin D' s m a w :=
  ⟨h.below, h.defers, h.tlen, h.tmps, h.toks, h.inj, h.boxes, h.binj, h.sep, fun τ hτ => hD _ (h.uD τ hτ), fun b T cs hb => hD _ (h.bD b T cs hb), h.liveU, h.ghost, h.frz, h.ok⟩
end
/-! ### values that hang on no memory -/
theorem cellV_eq {q : Vw} {x : AV} {v u : Value} (h : cellV x = some v) (hv : V q x u) : u = v := by
  cases x with
  | v t y =>
    cases t <;> simp only [cellV, Option.some.injEq, reduceCtorEq] at h <;> subst h <;>
      (have h' : [u] = [_] := hv; exact (List.cons.inj h').1)
  | raw y =>
    simp only [cellV, Option.some.injEq] at h
    subst h
    exact hv
  | _ => simp [cellV] at h
theorem cellV_one {q : Vw} {x : AV} {v u : Value} (h : cellV x = some v) (hv : V1 q x u) : u = v := by
  cases x with
  | v t y =>
    cases t <;> simp only [cellV, Option.some.injEq, reduceCtorEq] at h <;> subst h <;>
      (have h' : [u] = [_] := hv; exact (List.cons.inj h').1)
  | raw y =>
    simp only [cellV, Option.some.injEq] at h
    subst h
    exact hv
  | _ => simp [cellV] at h
theorem V_ofV1 {q : Vw} {x : AV} {v : Value} (h : ofV1 v = some x) : V q x v := by
  cases v <;> simp only [ofV1, Option.some.injEq, reduceCtorEq] at h <;> subst h <;> rfl
theorem evS_run {P : Program} {α : Type} : ∀ {c : Sem α} {x : α}, evS P c = some x → ∀ w, c.run P w = .ok x w := by
  intro c
  induction c with
  | pure a => intro x h w; simp only [evS, Option.some.injEq] at h; subst h; rfl
  | program k ih => intro x h w; exact ih P h w
  | _ => intro x h; simp [evS] at h
/-! ### the operations, one by one -/
section
variable {P : Program} {o : Oper} {a : Act} {w : World} {K : Act → World → Prop} {Q : Exit → Act → World → Prop}
theorem wp_value {v : Value} {w' : World} (hrun : (execOp a.eval o).run P w = .ok (.value v) w') (h : K (a.put o.dst v) w') : o.wp P a w K Q := by
  unfold Oper.wp; rw [hrun]; exact h
theorem wp_skip' {w' : World} (hrun : (execOp a.eval o).run P w = .ok .skip w') (h : K (a.put o.dst undef) w') : o.wp P a w K Q := by
  unfold Oper.wp; rw [hrun]; exact h
/-- An operation that answers one value: by the run of its own part. -/
theorem run_v {c : Sem Value} {v : Value} {w' : World} (h : c.run P w = .ok v w') : (do pure (Next.value (← c)) : Sem Next).run P w = .ok (.value v) w' := by
  rw [Sem.run_bind, h]; rfl
end
theorem run_sizeOf {P : Program} {t : TypeId} (h : Nat.blt 0 (szOf P t) = true) (w : World) : (sizeOf t).run P w = .ok (szOf P t) w := by
  unfold szOf at h ⊢
  cases hi : P.info? t with
  | none => rw [hi] at h; cases h
  | some i => simp [sizeOf, typeInfo, hi]
theorem run_isAgg_yes {P : Program} {t : TypeId} (h : isAggT P t = true) (w : World) : (isAgg t).run P w = .ok true w := by
  unfold isAggT at h
  split at h
  · rename_i hu
    simp [isAgg, run_underlying hu]
  · cases h
theorem run_isAgg_no {P : Program} {t : TypeId} (h : isOneT P t = true) (w : World) : (isAgg t).run P w = .ok false w := by
  unfold isOneT at h
  split at h <;> first | cases h | skip
  rename_i d hd1 hd2 hu
  unfold isAgg
  rw [Sem.run_bind, run_underlying hu]
  cases d <;> first | rfl | (exact absurd rfl (hd1 _)) | (exact absurd rfl (hd2 _ _))
theorem run_loadVar_agg {P : Program} {t : TypeId} {w : World} {ad : Addr} {us : List Value} (h : isAggT P t = true) (hs : szOf P t = us.length) (h0 : Nat.blt 0 (szOf P t) = true)
    (hc : ∀ j u, us[j]? = some u → w.cell? (ad.add j) = some u) : (loadVar t ad).run P w = .ok (.agg us.toArray) w := by
  have hl := run_loadCells_list (P := P) w ad us hc
  simp only [loadVar, Sem.run_bind, run_isAgg_yes h, Result.andThen_ok, if_true, run_sizeOf h0, hs, hl, Sem.run_pure]
theorem run_loadVar_one {P : Program} {t : TypeId} {w : World} {ad : Addr} {u : Value} (h : isOneT P t = true) (hc : w.cell? ad = some u) : (loadVar t ad).run P w = .ok u w := by
  simp only [loadVar, Sem.run_bind, run_isAgg_no h, Result.andThen_ok, Bool.false_eq_true, if_false]
  simp [load, Sem.run, hc]
/-- A part of cells that are known, read out of memory. -/
theorem part_sound {P : Program} {q : Vw} {t : TypeId} {cs : List AV} {off : Nat} {x : AV} (h : partA P t cs off = some x) {ad : Addr}
    (hc : ∀ j y, cs[off + j]? = some y → ∃ u, q.w.cell? (ad.add j) = some u ∧ V1 q y u ∧ u.oneCell' = true) :
    ∃ v, (loadVar t ad).run P q.w = .ok v q.w ∧ V q x v := by
  unfold partA at h
  split at h
  · rename_i hagg
    split at h
    · rename_i hb
      simp only [Option.some.injEq] at h
      subst h
      rw [Bool.and_eq_true] at hb
      have hle := Nat.le_of_ble_eq_true hb.1
      -- the cells, one by one
      have key : ∀ (l : List AV) (k : Nat), (∀ j y, l[j]? = some y → cs[off + (k + j)]? = some y) →
          ∃ us : List Value, all2 (V1 q) l us ∧ (∀ u ∈ us, u.oneCell' = true) ∧ ∀ j u, us[j]? = some u → q.w.cell? (ad.add (k + j)) = some u := by
        intro l
        induction l with
        | nil => exact fun k _ => ⟨[], trivial, (fun u hu => by cases hu), (fun j u hj => by simp at hj)⟩
        | cons y l ih =>
          intro k hk
          obtain ⟨u, hu, hv, h1⟩ := hc k y (by simpa using hk 0 y rfl)
          obtain ⟨us, h2, h3, h4⟩ := ih (k + 1) (fun j z hj => by
            have := hk (j + 1) z (by simpa using hj)
            rwa [show k + (j + 1) = k + 1 + j by omega] at this)
          refine ⟨u :: us, ⟨hv, h2⟩, fun x hx => ?_, fun j x hj => ?_⟩
          · rcases List.mem_cons.1 hx with rfl | hx
            · exact h1
            · exact h3 x hx
          · cases j with
            | zero => simp only [List.getElem?_cons_zero, Option.some.injEq] at hj; subst hj; exact hu
            | succ j =>
              rw [List.getElem?_cons_succ] at hj
              have := h4 j x hj
              rwa [show k + 1 + j = k + (j + 1) by omega] at this
      obtain ⟨us, h2, h3, h4⟩ := key ((cs.drop off).take (szOf P t)) 0 (fun j y hj => by
        rw [List.getElem?_take] at hj
        split at hj
        · rw [List.getElem?_drop] at hj; simpa using hj
        · cases hj)
      have hlen : us.length = szOf P t := by
        rw [← all2_len h2, List.length_take, List.length_drop]; omega
      exact ⟨_, run_loadVar_agg hagg hlen.symm hb.2 (fun j u hj => by simpa using h4 j u hj), us, rfl, h2, h3⟩
    · cases h
  · split at h
    · rename_i hb
      rw [Bool.and_eq_true] at hb
      obtain ⟨u, hu, hv, h1⟩ := hc 0 x (by simpa using h)
      have hu' : q.w.cell? ad = some u := by simpa [Addr.add] using hu
      refine ⟨u, run_loadVar_one hb.1 hu', ?_⟩
      cases x with
      | agg _ => exact hv.elim
      | tup _ => exact hv.elim
      | _ => exact hv
    · cases h
/-- .. and out of a struct's value. -/
theorem part_value {P : Program} {q : Vw} {t : TypeId} {cs : List AV} {off : Nat} {x : AV} (h : partA P t cs off = some x) {vs : List Value} (hc : all2 (V1 q) cs vs) (h1 : ∀ u ∈ vs, u.oneCell' = true) (w : World) :
    ∃ v, (part t vs.toArray off).run P w = .ok v w ∧ V q x v := by
  unfold partA at h
  split at h
  · rename_i hagg
    split at h
    · rename_i hb
      simp only [Option.some.injEq] at h
      subst h
      rw [Bool.and_eq_true] at hb
      refine ⟨.agg ((vs.drop off).take (szOf P t)).toArray, ?_, _, rfl, all2_take _ (all2_drop _ hc), fun u hu => h1 u (List.mem_of_mem_drop (List.mem_of_mem_take hu))⟩
      simp only [part, Sem.run_bind, run_isAgg_yes hagg, Result.andThen_ok, if_true, run_sizeOf hb.2, Sem.run_pure]
      congr 2
      rw [List.extract_toArray]
      congr 1
      rw [List.extract_eq_take_drop]
      congr 1
      omega
    · cases h
  · split at h
    · rename_i hb
      rw [Bool.and_eq_true] at hb
      obtain ⟨u, hu, hv⟩ := all2_get hc h
      refine ⟨u, ?_, ?_⟩
      · simp only [part, Sem.run_bind, run_isAgg_no hb.1, Result.andThen_ok, Bool.false_eq_true, if_false, List.getElem?_toArray, hu, Sem.run_pure]
      · cases x with
        | agg _ => exact hv.elim
        | tup _ => exact hv.elim
        | _ => exact hv
    · cases h
end Go.Eng
/- ENGINE, part D: the operations that turn no memory, each shown to answer what its model answers. -/
namespace Go.Eng
open Go Go.RowKit
section
variable {R : Type}
def Post (K : St → Option R) (r : R) (w0 : World) (Nin : Env) (D : Nat → Prop) : Act → World → Prop := fun a' w' => ∃ s' m', K s' = some r ∧ Inv w0 Nin D s' m' a' w'
variable {P : Program} {w0 : World} {Nin : Env} {D : Nat → Prop} {s : St} {m : Mp} {a : Act} {w : World} {o : Oper} {K : St → Option R} {r : R} {Q : Exit → Act → World → Prop}
theorem quiet_fin {x : AV} {v : Value} (hrun : (execOp a.eval o).run P w = .ok (.value v) w) (hv : V (vw w0 Nin s m w) x v) (hK : K (s.put o.dst x) = some r) (hi : Inv w0 Nin D s m a w) :
    o.wp P a w (Post K r w0 Nin D) Q := wp_value hrun ⟨_, m, hK, hi.put o.dst hv⟩
end
section
variable {q : Vw}
theorem V_bool {b : Bool} {v : Value} (h : V q (.v .bool b) v) : v = .bool b := (List.cons.inj (show [v] = [.bool b] from h)).1
theorem V_int {k : IntKind} {n : Int} {v : Value} (h : V q (.v (.int k) n) v) : v = .int k n := (List.cons.inj (show [v] = [.int k n] from h)).1
theorem V_str {b : ByteArray} {v : Value} (h : V q (.v .str b) v) : v = .string b := (List.cons.inj (show [v] = [.string b] from h)).1
theorem Rd_le {b hi hi' : Nat} (h : q.Rd b hi) (hle : hi' ≤ hi) : q.Rd b hi' := h.imp id fun ⟨τ, h1, h2, h3⟩ => ⟨τ, h1, h2, Nat.le_trans hle h3⟩
theorem sl_of_rep {e : Ty} {xs : List e.den} {v : Value} (h : rep q.w q.N (.sl e) xs [v]) : q.Sl e xs v := by
  obtain ⟨A, c, inner, he, hl, hr, hc⟩ := h
  refine ⟨A, c, inner, (List.cons.inj he).1, hl, hr, ?_⟩
  rcases hc with hc | ⟨ad, h1, h2, h3⟩
  · exact .inl hc
  · exact .inr ⟨ad, h1, .inl h2, h3⟩
theorem slElems_sound {x : AV} {e : Ty} {xs : List e.den} {v : Value} (h : slElems x = some ⟨e, xs⟩) (hv : V q x v) : q.Sl e xs v := by
  cases x with
  | v t y =>
    cases t <;> simp only [slElems, Option.some.injEq, reduceCtorEq] at h
    cases h
    exact sl_of_rep hv
  | al e' ys => simp only [slElems, Option.some.injEq] at h; cases h; exact hv
  | own τ T e' ys => simp only [slElems, Option.some.injEq] at h; cases h; exact hv.2.1
  | _ => simp [slElems] at h
theorem asSl_sound {x : AV} {e : Ty} {xs : List e.den} {v : Value} (h : x.asSl e = some xs) (hv : V q x v) : q.Sl e xs v := by
  have hcast : ∀ {e' : Ty} {ys : List e'.den}, (Ty.cast (a := .sl e') (b := .sl e) ys : Option (List e.den)) = some xs → q.Sl e' ys v → q.Sl e xs v := by
    intro e' ys hc hs
    unfold Ty.cast at hc
    split at hc
    · rename_i hsame
      have he : e' = e := Ty.same_eq (by simpa [Ty.same] using hsame)
      subst he
      simp only [Option.some.injEq] at hc
      have : ys = xs := hc
      subst this
      exact hs
    · cases hc
  cases x with
  | v t y =>
    cases t <;> simp only [AV.asSl, reduceCtorEq] at h
    exact hcast h (sl_of_rep hv)
  | al e' ys => exact hcast h hv
  | own τ T e' ys => exact hcast h hv.2.1
  | nilS =>
    simp only [AV.asSl, Option.some.injEq] at h
    subst h
    have hv' : v = .slice none 0 0 := hv
    exact ⟨none, 0, [], hv', Nat.le_refl _, rfl, .inl rfl⟩
  | _ => simp [AV.asSl] at h
theorem add_add (ad : Addr) (p j : Nat) : (ad.add p).add j = ad.add (p + j) := by
  unfold Addr.add
  by_cases hp : p = 0
  · subst hp; simp
  · by_cases hj : j = 0
    · subst hj; simp
    · rw [if_neg hp, if_neg hj, if_neg (by omega)]
      simp only [Addr.mk.injEq, and_true, true_and]
      omega
theorem add_block (ad : Addr) (p : Nat) : (ad.add p).block = ad.block := by unfold Addr.add; split <;> rfl
theorem add_off (ad : Addr) (p : Nat) : (ad.add p).off = ad.off + p := by
  unfold Addr.add
  split
  · rename_i h; subst h; rfl
  · rfl
theorem cellsT_len : ∀ (t : Ty) (x : t.den), (cellsT t x).length = t.sz := by
  intro t
  induction t with
  | pair a b iha ihb => intro x; simp only [cellsT, List.length_append, iha, ihb, Ty.sz]
  | _ => intro x; rfl
theorem cellsT_V0 : ∀ (t : Ty) (x : t.den) (cs : List Value), rep q.w q.N t x cs → all2 (V0 q) (cellsT t x) cs := by
  intro t
  induction t with
  | pair a b iha ihb =>
    rintro x cs ⟨c0, c1, rfl, h0, h1⟩
    exact all2_append (iha _ _ h0) (ihb _ _ h1)
  | unit => rintro x cs rfl; trivial
  | sl e ih =>
    rintro x cs h
    have h' := h
    obtain ⟨A, c, inner, rfl, _⟩ := h'
    exact ⟨h, trivial⟩
  | _ => rintro x cs rfl; exact ⟨rfl, trivial⟩
theorem V1_of_V0 {x : AV} {v : Value} (h : V0 q x v) : V1 q x v := by cases x <;> first | exact h.elim | exact h
theorem one_of_V0 {x : AV} {v : Value} (h : V0 q x v) : v.oneCell' = true := by
  cases x <;> first | exact h.elim | exact rep_one _ _ _ h v List.mem_cons_self
end
section
variable {R : Type} {P : Program} {w0 : World} {Nin : Env} {D : Nat → Prop} {s : St} {m : Mp} {a : Act} {w : World} {o : Oper} {K : St → Option R} {r : R} {Q : Exit → Act → World → Prop}
theorem snd_pick {c x y : Operand} (hop : o.op = .pick c x y) (h : (match s.ev c with
    | .v .bool c => bif c then K (s.put o.dst (s.ev x)) else K (s.put o.dst (s.ev y))
    | _ => none) = some r) (hi : Inv w0 Nin D s m a w) : o.wp P a w (Post K r w0 Nin D) Q := by
  have hc := hi.ev c
  split at h
  · rename_i b hb
    rw [hb] at hc
    have hc' := V_bool hc
    cases b with
    | true => exact quiet_fin (v := a.eval x) (by simp [execOp, hop, hc', asBool]) (hi.ev x) h hi
    | false => exact quiet_fin (v := a.eval y) (by simp [execOp, hop, hc', asBool]) (hi.ev y) h hi
  · cases h
theorem snd_load {T : TypeId} {x : Operand} (hop : o.op = .load T x) (h : (match s.ev x with
    | .ptr b off => match s.bx[b]? with
      | some (some (_, cs)) => match partA P T cs off with
        | some x => K (s.put o.dst x)
        | none => none
      | _ => none
    | .ro cs => match partA P T cs 0 with
      | some x => K (s.put o.dst x)
      | none => none
    | .el _ _ e xs i => match partA P T (cellsT e (xs.getD i e.dflt)) 0 with
      | some x => K (s.put o.dst x)
      | none => none
    | _ => none) = some r) (hi : Inv w0 Nin D s m a w) : o.wp P a w (Post K r w0 Nin D) Q := by
  have hx := hi.ev x
  have go : ∀ cs : List AV, (vw w0 Nin s m w).Ro cs (a.eval x) → ∀ y, partA P T cs 0 = some y → K (s.put o.dst y) = some r → o.wp P a w (Post K r w0 Nin D) Q := by
    intro cs hro y hy h
    obtain ⟨ad, he, _, h2⟩ := hro
    obtain ⟨v, hrun, hv⟩ := part_sound (q := vw w0 Nin s m w) hy (ad := ad) (fun j z hj => by
      obtain ⟨u, hu, hv⟩ := h2 j z (by simpa using hj)
      exact ⟨u, hu, V1_of_V0 hv, one_of_V0 hv⟩)
    exact quiet_fin (v := v) (by
      simp only [execOp, hop]
      exact run_v (by simp only [Instr.loadAt, Instr.sureAddr, he, Sem.run_bind, Sem.run_pure, Result.andThen_ok]; exact hrun)) hv h hi
  split at h
  · rename_i b off hb
    rw [hb] at hx
    split at h
    · rename_i T' cs hbx
      split at h
      · rename_i y hy
        obtain ⟨he, _⟩ := (show _ ∧ _ from hx)
        obtain ⟨_, vs, hh, h2, h1⟩ := hi.boxes b T' cs hbx
        obtain ⟨v, hrun, hv⟩ := part_sound (q := vw w0 Nin s m w) hy (ad := ⟨m.B b, off, none⟩) (fun j z hj => by
          obtain ⟨u, hu, hv⟩ := all2_get h2 hj
          refine ⟨u, ?_, hv, h1 u (List.mem_of_getElem? hu)⟩
          rw [show (⟨m.B b, off, none⟩ : Addr).add j = ⟨m.B b, off + j, none⟩ by unfold Addr.add; split <;> simp_all]
          show w.cell? _ = _
          simp [World.cell?, hh, hu])
        exact quiet_fin (v := v) (by
          have he' : a.eval x = .pointer (some ⟨m.B b, off, none⟩) := he
          simp only [execOp, hop]
          exact run_v (by simp only [Instr.loadAt, Instr.sureAddr, he', Sem.run_bind, Sem.run_pure, Result.andThen_ok]; exact hrun)) hv h hi
      · cases h
    · cases h
  · rename_i cs hb
    rw [hb] at hx
    split at h
    · rename_i y hy
      exact go cs hx y hy h
    · cases h
  · rename_i id T' e xs i hb
    rw [hb] at hx
    split at h
    · rename_i y hy
      exact go _ hx.2.1 y hy h
    · cases h
  · cases h
theorem snd_nilCheck {x : Operand} (hop : o.op = .nilCheck x) (h : (match s.ev x with
    | .ptr b off => K (s.put o.dst (.ptr b off))
    | .ro cs => K (s.put o.dst (.ro cs))
    | .el id T e xs i => K (s.put o.dst (.el id T e xs i))
    | _ => none) = some r) (hi : Inv w0 Nin D s m a w) : o.wp P a w (Post K r w0 Nin D) Q := by
  have hx := hi.ev x
  split at h
  · rename_i b off hb
    rw [hb] at hx
    have he : a.eval x = .pointer (some ⟨m.B b, off, none⟩) := hx.1
    exact quiet_fin (v := a.eval x) (by simp [execOp, hop, he]) hx h hi
  · rename_i cs hb
    rw [hb] at hx
    obtain ⟨ad, he, _⟩ := (show ∃ ad, _ ∧ _ ∧ _ from hx)
    exact quiet_fin (v := a.eval x) (by simp [execOp, hop, he]) hx h hi
  · rename_i id T e xs i hb
    rw [hb] at hx
    obtain ⟨ad, he, _⟩ := (show ∃ ad, _ ∧ _ ∧ _ from hx.2.1)
    exact quiet_fin (v := a.eval x) (by simp [execOp, hop, he]) hx h hi
  · cases h
theorem run_fieldAt {S : TypeId} {f k : Nat} {ft : TypeId} (hf : fieldOf P S f = some (k, ft)) (ad : Addr) (w : World) :
    (Instr.fieldAt S (.pointer (some ad)) f).run P w = .ok (.pointer (some (ad.add k))) w := by
  unfold fieldOf at hf
  split at hf
  · rename_i fs hu
    split at hf
    · rename_i fd hfd
      split at hf
      · rename_i hs
        simp only [Option.some.injEq, Prod.mk.injEq] at hf
        obtain ⟨rfl, rfl⟩ := hf
        have h0 : ¬ szOf P fd.type = 0 := by
          intro h; rw [h] at hs; cases hs
        simp only [Instr.fieldAt, Sem.run_bind, run_underlying hu, Result.andThen_ok, hfd, Instr.sureAddr, Sem.run_pure, fieldPlace, run_sizeOf hs, if_neg h0]
      · cases hf
    · cases hf
  · cases hf
theorem snd_fieldAddr {S : TypeId} {x : Operand} {f : Nat} (hop : o.op = .fieldAddr S x f) (h : (match s.ev x, fieldOf P S f with
    | .ptr b off, some (k, _) => K (s.put o.dst (.ptr b (off + k)))
    | .ro cs, some (k, _) => K (s.put o.dst (.ro (cs.drop k)))
    | .el _ _ e xs i, some (k, _) => K (s.put o.dst (.ro ((cellsT e (xs.getD i e.dflt)).drop k)))
    | _, _ => none) = some r) (hi : Inv w0 Nin D s m a w) : o.wp P a w (Post K r w0 Nin D) Q := by
  have hx := hi.ev x
  have go : ∀ cs : List AV, (vw w0 Nin s m w).Ro cs (a.eval x) → ∀ k ft, fieldOf P S f = some (k, ft) → K (s.put o.dst (.ro (cs.drop k))) = some r → o.wp P a w (Post K r w0 Nin D) Q := by
    intro cs hro k ft hf h
    obtain ⟨ad, he, h1, h2⟩ := hro
    refine quiet_fin (x := .ro (cs.drop k)) (v := .pointer (some (ad.add k))) ?_ ⟨_, rfl, ?_, ?_⟩ h hi
    · simp only [execOp, hop]
      exact run_v (by rw [he, run_fieldAt hf])
    · by_cases hk : cs.length ≤ k
      · exact .inl (List.drop_eq_nil_of_le hk)
      · rcases h1 with h1 | h1
        · subst h1; exact .inl (by simp)
        · refine .inr ?_
          rw [add_block, add_off, List.length_drop]
          exact Rd_le h1 (by omega)
    · intro j y hj
      rw [List.getElem?_drop] at hj
      obtain ⟨u, hu, hv⟩ := h2 _ _ hj
      exact ⟨u, by rw [add_add]; exact hu, hv⟩
  split at h
  · rename_i b off k ft hb hf
    rw [hb] at hx
    have he : a.eval x = .pointer (some ⟨m.B b, off, none⟩) := hx.1
    refine quiet_fin (x := .ptr b (off + k)) (v := .pointer (some ⟨m.B b, off + k, none⟩)) ?_ ⟨rfl, hx.2⟩ h hi
    simp only [execOp, hop]
    refine run_v ?_
    rw [he, run_fieldAt hf]
    congr 3
    unfold Addr.add; split <;> simp_all
  · rename_i cs k ft hb hf
    rw [hb] at hx
    exact go cs hx k ft hf h
  · rename_i id T e xs i k ft hb hf
    rw [hb] at hx
    exact go _ hx.2.1 k ft hf h
  · cases h
theorem snd_field {S : TypeId} {x : Operand} {f : Nat} (hop : o.op = .field S x f) (h : (match s.ev x, fieldOf P S f with
    | .agg cs, some (k, ft) => match partA P ft cs k with
      | some x => K (s.put o.dst x)
      | none => none
    | _, _ => none) = some r) (hi : Inv w0 Nin D s m a w) : o.wp P a w (Post K r w0 Nin D) Q := by
  have hx := hi.ev x
  split at h
  · rename_i cs k ft hb hf
    split at h
    · rename_i y hy
      rw [hb] at hx
      obtain ⟨vs, he, h2, h1⟩ := (show ∃ vs, _ ∧ _ ∧ _ from hx)
      obtain ⟨v, hrun, hv⟩ := part_value hy h2 h1 w
      refine quiet_fin (v := v) ?_ hv h hi
      unfold fieldOf at hf
      split at hf
      · rename_i fs hu
        split at hf
        · rename_i fd hfd
          split at hf
          · simp only [Option.some.injEq, Prod.mk.injEq] at hf
            obtain ⟨rfl, rfl⟩ := hf
            simp only [execOp, hop]
            refine run_v ?_
            simp only [Instr.field, Sem.run_bind, run_underlying hu, Result.andThen_ok, hfd, he, asAgg, Sem.run_pure, hrun]
          · cases hf
        · cases hf
      · cases hf
    · cases h
  · cases h
theorem snd_extract {x : Operand} {i : Nat} (hop : o.op = .extract x i) (h : (match s.ev x with
    | .tup vs => match vs[i]? with
      | some y => bif isTup y then none else K (s.put o.dst y)
      | none => none
    | _ => none) = some r) (hi : Inv w0 Nin D s m a w) : o.wp P a w (Post K r w0 Nin D) Q := by
  have hx := hi.ev x
  split at h
  · rename_i vs hb
    rw [hb] at hx
    split at h
    · rename_i y hy
      have h : K (s.put o.dst y) = some r := by
        cases ht : isTup y with
        | true => rw [ht] at h; cases h
        | false => rw [ht] at h; exact h
      obtain ⟨us, he, h2⟩ := (show ∃ us, _ ∧ _ from hx)
      obtain ⟨u, hu, hv⟩ := all2_get h2 hy
      refine quiet_fin (v := u) ?_ ?_ h hi
      · simp only [execOp, hop]
        refine run_v ?_
        simp only [he, Instr.extract, List.getElem?_toArray, hu, Sem.run_pure]
      · cases y with
        | tup _ => exact hv.elim
        | _ => exact hv
    · cases h
  · cases h
/-- An element's place in what is read. -/
theorem ro_of_sl {q : Vw} {e : Ty} {xs : List e.den} {A : Option Addr} {inner : List Value} (hr : repsOf (rep q.w q.N e) xs inner) (hc : CellsAt q.w q.Rd A inner) (hpos : 0 < e.sz) {i : Nat} (hlt : i < xs.length) :
    ∃ ad, A = some ad ∧ q.Ro (cellsT e (xs.getD i e.dflt)) (.pointer (some (ad.add (i * e.sz)))) := by
  have hget : xs[i]? = some xs[i] := List.getElem?_eq_getElem hlt
  obtain ⟨ci, hci, hcell⟩ := repsOf_get (rep_len e) xs inner _ _ hr hget
  have hilen := reps_len xs inner hr
  have hge : (i + 1) * e.sz ≤ inner.length := by rw [hilen]; exact Nat.mul_le_mul_right _ hlt
  rcases hc with hc | ⟨ad, hA, hq, hcc⟩
  · subst hc
    simp only [List.length_nil] at hge
    exact absurd (Nat.mul_pos (Nat.succ_pos i) hpos) (by have := hge; exact Nat.not_lt.2 this)
  · refine ⟨ad, hA, _, rfl, .inr ?_, ?_⟩
    · rw [add_block, add_off, cellsT_len]
      exact Rd_le hq (by rw [Nat.succ_mul] at hge; omega)
    · intro j y hy
      have hd : xs.getD i e.dflt = xs[i] := by rw [List.getD_eq_getElem?_getD, hget]; rfl
      rw [hd] at hy
      obtain ⟨u, hu', hv⟩ := all2_get (cellsT_V0 (q := q) e _ _ hci) hy
      exact ⟨u, by rw [add_add]; exact hcc _ _ (hcell _ _ hu'), hv⟩
/-- .. in a slice of the frame's own. -/
theorem ro_of_own {q : Vw} {τ : Nat} {T : TypeId} {e : Ty} {xs : List e.den} {sl : Value} (ho : q.Own τ T e xs sl) (hl : q.live τ) {g : Nat} (hG : q.G τ = some g) {i : Nat} (hlt : i < xs.length) :
    q.Ro (cellsT e (xs.getD i e.dflt)) (.pointer (some ⟨g, i * e.sz, none⟩)) := by
  rcases Nat.eq_zero_or_pos e.sz with h0 | hpos
  · have : cellsT e (xs.getD i e.dflt) = [] := List.eq_nil_of_length_eq_zero (by rw [cellsT_len, h0])
    rw [this]
    exact ⟨_, rfl, .inl rfl, fun j x hj => by simp at hj⟩
  obtain ⟨inner, hown, hb, hr, hE⟩ := ho
  rcases hown.2 with ⟨rfl, hn⟩ | ⟨g', cap, cur, rfl, hbg, hg, hnc, hcm, hcs, htake⟩
  · exact absurd hlt (by rw [hn]; exact Nat.not_lt_zero _)
  · have hgg : g' = g := by rw [hG] at hb; simpa [Value.ownBlock] using hb
    subst hgg
    obtain ⟨ad, hA, hro⟩ := ro_of_sl (q := q) (A := some ⟨g', 0, none⟩) hr (.inr ⟨_, rfl, .inr ⟨τ, hl, hG, by show 0 + inner.length ≤ q.E τ; rw [hE]; omega⟩, hown.cells (g := g') rfl⟩) hpos hlt
    cases hA
    have : (⟨g', 0, none⟩ : Addr).add (i * e.sz) = ⟨g', i * e.sz, none⟩ := by unfold Addr.add; split <;> simp_all
    rw [this] at hro
    exact hro
theorem snd_indexAddr {t : TypeId} {x ix : Operand} (hop : o.op = .indexAddr t x ix) (h : indexA P t (s.ev x) (s.ev ix) s o.dst K = some r) (hi : Inv w0 Nin D s m a w) :
    o.wp P a w (Post K r w0 Nin D) Q := by
  have hx := hi.ev x
  have hj := hi.ev ix
  unfold indexA at h
  split at h
  · rename_i et e xs k i hu hsl hix
    split at h
    · rename_i hok
      split at h
      · rename_i hin
        obtain ⟨A, c, inner, he, hl, hr, hc⟩ := slElems_sound hsl hx
        rw [hix] at hj
        have hj' := V_int hj
        unfold elemOk at hok
        split at hok
        · rename_i inf hinf
          rw [Bool.and_eq_true, Bool.and_eq_true, Bool.and_eq_true] at hok
          replace hok := hok.1
          have hsz : inf.size = e.sz := Nat.eq_of_beq_eq_true hok.1.1
          have hpos : 0 < e.sz := by rw [← hsz]; exact Nat.le_of_ble_eq_true hok.1.2
          have hlt : Int.toNat i < xs.length := (Int.toNat_lt hin.1).2 hin.2
          obtain ⟨ad, hA, hro⟩ := ro_of_sl hr hc hpos hlt
          have hV : V (vw w0 Nin s m w) (atA (s.ev x) e xs i.toNat) (.pointer (some (ad.add (i.toNat * e.sz)))) := by
            unfold atA
            split
            · rename_i id T e' ys hev
              rw [hev] at hsl hx
              simp only [slElems, Option.some.injEq] at hsl
              cases hsl
              obtain ⟨h0, _, h2⟩ := (show _ ∧ _ ∧ _ from hx)
              refine ⟨h0, hro, fun hlv => ⟨hlt, ?_⟩⟩
              have hO := h2 hlv
              obtain ⟨inner', hown, hb, _⟩ := hO
              rcases hown.2 with ⟨_, hn⟩ | ⟨g', cap, cur, hsl', _⟩
              · exact absurd hlt (by rw [hn]; exact Nat.not_lt_zero _)
              · have hO := h2 hlv
                rw [he] at hsl'
                simp only [Value.slice.injEq] at hsl'
                have hA' : A = some ⟨g', 0, none⟩ := hsl'.1
                rw [hA'] at hA
                cases hA
                refine ⟨g', a.eval x, ?_, ?_, hO⟩
                · rw [← hb, he, hA']; rfl
                · congr 2
                  unfold Addr.add; split <;> simp_all
            · exact hro
          refine quiet_fin (v := .pointer (some (ad.add (i.toNat * e.sz)))) ?_ hV h hi
          simp only [execOp, hop]
          refine run_v ?_
          rw [he, hj', hA]
          have hin' : 0 ≤ i ∧ i < ((List.length xs : Nat) : Int) := hin
          simp only [Instr.indexAt, asIntOf, Sem.run_bind, Sem.run_pure, Result.andThen_ok, run_underlying hu]
          simp [hin', sizeOf, typeInfo, hinf, hsz]
        · cases hok
      · cases h
    · cases h
  · cases h
end
end Go.Eng
/- ENGINE, part E: strings, slices cut, numbers, conversions, lengths. -/
namespace Go.Eng
open Go Go.RowKit
section
variable {R : Type} {P : Program} {w0 : World} {Nin : Env} {D : Nat → Prop} {s : St} {m : Mp} {a : Act} {w : World} {o : Oper} {K : St → Option R} {r : R} {Q : Exit → Act → World → Prop}
theorem byteAt_eq (b : ByteArray) (i : Int) (h0 : 0 ≤ i) (h1 : i < (b.size : Int)) : b[i.toNat]? = some (b[i.toNat]'((Int.toNat_lt h0).2 h1)) ∧ byteAt b i = ((b[i.toNat]'((Int.toNat_lt h0).2 h1)).toNat : Int) := by
  have h := (Int.toNat_lt h0).2 h1
  refine ⟨getElem?_pos b i.toNat h, ?_⟩
  unfold byteAt
  rw [dif_pos h]
theorem snd_index {t : TypeId} {x ix : Operand} (hop : o.op = .index t x ix) (h : (match P.underlying t, s.ev x, s.ev ix with
    | some .string, .v .str b, .v (.int _) i => if 0 ≤ (i : Int) ∧ i < (b.size : Int) then K (s.put o.dst (.v (.int .u8) (byteAt b i))) else none
    | _, _, _ => none) = some r) (hi : Inv w0 Nin D s m a w) : o.wp P a w (Post K r w0 Nin D) Q := by
  have hx := hi.ev x
  have hj := hi.ev ix
  split at h
  · rename_i b k i hu hb hix
    rw [hb] at hx
    rw [hix] at hj
    have hx' := V_str hx
    have hj' := V_int hj
    split at h
    · rename_i hin
      obtain ⟨e1, e2⟩ := byteAt_eq b i hin.1 hin.2
      refine quiet_fin (x := .v (.int .u8) (byteAt b i)) (v := .int .u8 (byteAt b i)) ?_ rfl h hi
      simp only [execOp, hop]
      refine run_v ?_
      rw [hx', hj']
      have h0 : (0 : Int) ≤ i := hin.1
      simp only [Instr.index, asIntOf, Sem.run_bind, Sem.run_pure, Result.andThen_ok, run_underlying hu]
      rw [if_pos h0, e1, e2]
      rfl
    · cases h
  · cases h
def OptRel : Option Int → Option Value → Prop
  | none, none => True
  | some n, some v => ∃ k, v = .int k n
  | _, _ => False
theorem optInt_sound {lo : Option Operand} {l : Option Int} (h : optInt (lo.map s.ev) = some l) (hi : Inv w0 Nin D s m a w) : OptRel l (lo.map a.eval) := by
  cases lo with
  | none => simp only [Option.map_none, optInt, Option.some.injEq] at h; subst h; trivial
  | some x =>
    have hx := hi.ev x
    simp only [Option.map_some, optInt] at h
    split at h <;> first | cases h | skip
    · rename_i heq; cases heq
    · rename_i k n heq
      simp only [Option.some.injEq] at heq
      rw [heq] at hx
      exact ⟨_, V_int hx⟩
theorem cut_sound {n : Nat} {lo hi : Option Int} {lv hv : Option Value} {Kc : Nat → Nat → Option R} (h : cutA n lo hi Kc = some r) (hl : OptRel lo lv) (hh : OptRel hi hv) :
    ∃ L H, Kc L H = some r ∧ L ≤ H ∧ H ≤ n ∧ ∀ (isS : Bool) (cap : Nat) (w : World), n ≤ cap → (isS = false → cap = n) → (Instr.sliceBounds isS n cap lv hv none).run P w = .ok (L, H, cap) w := by
  cases lo with
  | none =>
    cases lv with
    | some _ => exact hl.elim
    | none =>
      cases hi with
      | none =>
        cases hv with
        | some _ => exact hh.elim
        | none => exact ⟨0, n, h, Nat.zero_le _, Nat.le_refl _, fun isS cap w _ _ => by simp [Instr.sliceBounds, Sem.run_bind]⟩
      | some hi =>
        cases hv with
        | none => exact hh.elim
        | some hv =>
          obtain ⟨k, rfl⟩ := hh
          simp only [cutA] at h
          split at h
          · rename_i hc
            refine ⟨0, hi.toNat, h, Nat.zero_le _, by omega, fun isS cap w hcap _ => ?_⟩
            have e := fun code => run_sliceBound (P := P) (w := w) k hi cap code hc.1 (by omega)
            simp [Instr.sliceBounds, Sem.run_bind, e]
          · cases h
  | some lo =>
    cases lv with
    | none => exact hl.elim
    | some lv =>
      obtain ⟨kl, rfl⟩ := hl
      cases hi with
      | none =>
        cases hv with
        | some _ => exact hh.elim
        | none =>
          simp only [cutA] at h
          split at h
          · rename_i hc
            refine ⟨lo.toNat, n, h, by omega, Nat.le_refl _, fun isS cap w hcap _ => ?_⟩
            have e := fun code => run_sliceBound (P := P) (w := w) kl lo n code hc.1 (by omega)
            simp [Instr.sliceBounds, Sem.run_bind, e]
          · cases h
      | some hi =>
        cases hv with
        | none => exact hh.elim
        | some hv =>
          obtain ⟨k, rfl⟩ := hh
          simp only [cutA] at h
          split at h
          · rename_i hc
            refine ⟨lo.toNat, hi.toNat, h, by omega, by omega, fun isS cap w hcap _ => ?_⟩
            have e := fun code => run_sliceBound (P := P) (w := w) k hi cap code (by omega) (by omega)
            have e2 := fun code => run_sliceBound (P := P) (w := w) kl lo hi.toNat code hc.1 (by omega)
            simp [Instr.sliceBounds, Sem.run_bind, e, e2]
          · cases h
/-- A cut of a slice that is read. -/
theorem sl_cut {q : Vw} {e : Ty} {xs : List e.den} {A : Option Addr} {c L H : Nat} {inner : List Value} {Q : Nat → Nat → Prop} (hQ : ∀ b hi hi', Q b hi → hi' ≤ hi → Q b hi')
    (hl : xs.length ≤ c) (hr : repsOf (rep q.w q.N e) xs inner) (hc : CellsAt q.w Q A inner) (hLH : L ≤ H) (hH : H ≤ xs.length) :
    ∃ inner', repsOf (rep q.w q.N e) ((xs.take H).drop L) inner' ∧ CellsAt q.w Q (if c = L then A else A.map (·.add (L * e.sz))) inner' := by
  refine ⟨(inner.take (H * e.sz)).drop (L * e.sz), repsOf_drop (rep_len e) _ _ _ (repsOf_take (rep_len e) _ _ _ hr), ?_⟩
  have hlen := reps_len xs inner hr
  by_cases hn : (inner.take (H * e.sz)).drop (L * e.sz) = []
  · exact .inl hn
  rcases hc with hc | ⟨ad, hA, hq, hcell⟩
  · subst hc; exact .inl (by simp)
  · refine .inr ?_
    have hne : ¬ c = L := by
      intro he
      have : H = L := by omega
      subst this
      apply hn
      rw [List.drop_eq_nil_iff, List.length_take]
      omega
    rw [if_neg hne, hA]
    refine ⟨ad.add (L * e.sz), rfl, ?_, fun j u hj => ?_⟩
    · rw [add_block, add_off]
      refine hQ _ _ _ hq ?_
      rw [List.length_drop, List.length_take]
      have h1 : L * e.sz ≤ H * e.sz := Nat.mul_le_mul_right _ hLH
      have h2 : H * e.sz ≤ inner.length := by rw [hlen]; exact Nat.mul_le_mul_right _ hH
      rw [Nat.min_eq_left h2]
      omega
    · rw [add_add]
      rw [List.getElem?_drop, List.getElem?_take] at hj
      split at hj
      · exact hcell _ _ hj
      · cases hj
theorem cut_len {α : Type} (xs : List α) {L H : Nat} (hH : H ≤ xs.length) : ((xs.take H).drop L).length = H - L := by
  rw [List.length_drop, List.length_take]; omega
theorem snd_sliceStr {t : TypeId} {x : Operand} {lo hi : Option Operand} {l h' : Option Int} {b : ByteArray} (hop : o.op = .slice t x lo hi none) (hu : P.underlying t = some .string) (hb : s.ev x = .v .str b)
    (hl : optInt (lo.map s.ev) = some l) (hh : optInt (hi.map s.ev) = some h') (h : cutA b.size l h' (fun l h => K (s.put o.dst (.v .str (b.extract l h)))) = some r) (hI : Inv w0 Nin D s m a w) :
    o.wp P a w (Post K r w0 Nin D) Q := by
  have hx := hI.ev x
  rw [hb] at hx
  have hx' := V_str hx
  obtain ⟨L, H, hK, h1, h2, hrun⟩ := cut_sound (P := P) h (optInt_sound hl hI) (optInt_sound hh hI)
  refine quiet_fin (x := .v .str (b.extract L H)) (v := .string (b.extract L H)) ?_ rfl hK hI
  simp only [execOp, hop]
  refine run_v ?_
  rw [run_sliceAt_string (h := hu), hx']
  simp only [Instr.slice, Sem.run_bind, run_underlying hu, Result.andThen_ok, Option.map_none, Option.isSome_none, Bool.false_eq_true, if_false, hrun false b.size w (Nat.le_refl _) (fun _ => rfl), Sem.run_pure]
theorem snd_sliceSl {t et : TypeId} {x : Operand} {lo hi : Option Operand} {l h' : Option Int} (hop : o.op = .slice t x lo hi none) (hu : P.underlying t = some (.slice et))
    {e : Ty} {ys : List e.den} (hsl : slElems (s.ev x) = some ⟨e, ys⟩) (hok : elemOk P et e = true)
    (hl : optInt (lo.map s.ev) = some l) (hh : optInt (hi.map s.ev) = some h') (h : sliceA (s.ev x) l h' s o.dst K = some r) (hI : Inv w0 Nin D s m a w) :
    o.wp P a w (Post K r w0 Nin D) Q := by
  have hx := hI.ev x
  obtain ⟨inf, hinf, hsz⟩ : ∃ i, P.info? et = some i ∧ i.size = e.sz := by
    unfold elemOk at hok
    split at hok
    · rename_i inf hinf
      rw [Bool.and_eq_true, Bool.and_eq_true, Bool.and_eq_true] at hok
      exact ⟨inf, hinf, Nat.eq_of_beq_eq_true hok.1.1.1⟩
    · cases hok
  have run : ∀ (A : Option Addr) (n c L H : Nat), a.eval x = .slice A n c → (∀ (isS : Bool) (cap : Nat) (w : World), n ≤ cap → (isS = false → cap = n) → (Instr.sliceBounds isS n cap (lo.map a.eval) (hi.map a.eval) none).run P w = .ok (L, H, cap) w) → n ≤ c →
      (execOp a.eval o).run P w = .ok (.value (.slice (if c = L then A else A.map (·.add (L * e.sz))) (H - L) (c - L))) w := by
    intro A n c L H he hb hn
    simp only [execOp, hop]
    refine run_v ?_
    have hu' : P.underlying t = some (.slice (P.elem t)) := by rw [hu]; simp [Program.elem, hu]
    rw [run_sliceAt_slice (h := hu'), he]
    simp only [Instr.slice, Sem.run_bind, run_underlying hu, Result.andThen_ok, Option.map_none, hb true c w hn (fun h => by cases h), sizeOf, typeInfo]
    simp [hinf, hsz]
  have done_ : ∀ (e' : Ty) (xs : List e'.den) (e1 : e' = e), (vw w0 Nin s m w).Sl e' xs (a.eval x) → cutA xs.length l h' (fun l h => K (s.put o.dst (.al e' ((xs.take h).drop l)))) = some r → o.wp P a w (Post K r w0 Nin D) Q := by
    rintro e' xs rfl ⟨A, c, inner, he, hlc, hr, hc⟩ hcut
    obtain ⟨L, H, hK, h1, h2, hb⟩ := cut_sound (P := P) hcut (optInt_sound hl hI) (optInt_sound hh hI)
    obtain ⟨inner', hr', hc'⟩ := sl_cut (q := vw w0 Nin s m w) (Q := (vw w0 Nin s m w).Rd) (fun b hi hi' h hle => Rd_le h hle) hlc hr hc h1 h2
    refine quiet_fin (x := .al e' ((xs.take H).drop L)) (run A _ c L H he hb hlc) ⟨_, c - L, inner', ?_, ?_, hr', hc'⟩ hK hI
    · rw [cut_len xs h2]
    · rw [cut_len xs h2]; omega
  unfold sliceA at h
  split at h
  · rename_i b hb; rw [hb] at hsl; simp [slElems] at hsl
  · rename_i e' xs hb
    rw [hb] at hsl hx
    simp only [slElems, Option.some.injEq] at hsl
    cases hsl
    obtain ⟨A, c, inner, he, hlc, hr, hc⟩ := (show rep _ _ _ _ _ from hx)
    have he' := (List.cons.inj he).1
    obtain ⟨L, H, hK, h1, h2, hb'⟩ := cut_sound (P := P) h (optInt_sound hl hI) (optInt_sound hh hI)
    obtain ⟨inner', hr', hc'⟩ := sl_cut (q := vw w0 Nin s m w) (Q := fun b _ => (vw w0 Nin s m w).N b) (fun b hi hi' h _ => h) hlc hr hc h1 h2
    refine quiet_fin (x := .v (.sl e) ((List.take H ys).drop L)) (run A _ c L H he' hb' hlc) ⟨_, c - L, inner', ?_, ?_, hr', hc'⟩ hK hI
    · rw [cut_len ys h2]
    · rw [cut_len ys h2]; omega
  · rename_i e' xs hb
    rw [hb] at hsl hx
    simp only [slElems, Option.some.injEq] at hsl
    cases hsl
    exact done_ _ ys rfl hx h
  · rename_i τ T e' xs hb
    rw [hb] at hsl hx
    simp only [slElems, Option.some.injEq] at hsl
    cases hsl
    exact done_ _ ys rfl hx.2.1 h
  · cases h
theorem snd_sliceNil {t et : TypeId} {x : Operand} {lo hi : Option Operand} {l h' : Option Int} (hop : o.op = .slice t x lo hi none) (hu : P.underlying t = some (.slice et)) (hx : s.ev x = .nilS) (hsz : Nat.blt 0 (szOf P et) = true)
    (hl : optInt (lo.map s.ev) = some l) (hh : optInt (hi.map s.ev) = some h') (h : cutA 0 l h' (fun _ _ => K (s.put o.dst .nilS)) = some r) (hI : Inv w0 Nin D s m a w) :
    o.wp P a w (Post K r w0 Nin D) Q := by
  have hv := hI.ev x
  rw [hx] at hv
  have hv' : a.eval x = .slice none 0 0 := hv
  obtain ⟨L, H, hK, h1, h2, hb⟩ := cut_sound (P := P) h (optInt_sound hl hI) (optInt_sound hh hI)
  have hL : L = 0 := by omega
  have hH : H = 0 := by omega
  subst hL hH
  refine quiet_fin (x := .nilS) (v := .slice none 0 0) ?_ rfl hK hI
  simp only [execOp, hop]
  refine run_v ?_
  have hu' : P.underlying t = some (.slice (P.elem t)) := by rw [hu]; simp [Program.elem, hu]
  have hs := run_sizeOf (P := P) (t := et) hsz
  rw [run_sliceAt_slice (h := hu'), hv']
  simp only [Instr.slice, Sem.run_bind, run_underlying hu, Result.andThen_ok, Option.map_none, hb true 0 w (Nat.le_refl _) (fun h => by cases h), hs]
  simp
/-! ### numbers -/
theorem snd_fin1 {c : Sem Value} (h : fin1 s o.dst (evS P c) K = some r) (hrun : ∀ v, c.run P w = .ok v w → (execOp a.eval o).run P w = .ok (.value v) w) (hi : Inv w0 Nin D s m a w) :
    o.wp P a w (Post K r w0 Nin D) Q := by
  unfold fin1 at h
  split at h
  · rename_i v hv
    split at h
    · rename_i x hx
      exact quiet_fin (hrun v (evS_run hv w)) (V_ofV1 hx) h hi
    · cases h
  · cases h
theorem eqGuard_scalar {op : BinOp} {t : TypeId} {x y : Operand} {u v : Value} (h : scalarV u = true) : eqGuard op t x y u v = pure () := by
  cases u <;> first | (cases h; done) | (cases op <;> rfl)
theorem snd_binPlain {op : BinOp} {t yt : TypeId} {x y : Operand} (hop : o.op = .binOp op t x y yt) (h : binPlain P op t (s.ev x) (s.ev y) s o.dst K = some r) (hi : Inv w0 Nin D s m a w) :
    o.wp P a w (Post K r w0 Nin D) Q := by
  have hx := hi.ev x
  have hy := hi.ev y
  unfold binPlain at h
  split at h
  · rename_i u v hu hv
    split at h
    · rename_i hs
      rw [Bool.and_eq_true] at hs
      have eu := cellV_eq hu hx
      have ev := cellV_eq hv hy
      refine snd_fin1 h (fun z hz => ?_) hi
      simp only [execOp, hop]
      refine run_v ?_
      rw [eu, ev, eqGuard_scalar hs.1]
      simpa [Sem.run_bind] using hz
    · cases h
  · cases h
theorem fkind_eq {k j : FloatKind} (h : (Ty.fkNo k == Ty.fkNo j) = true) : k = j := Ty.fkNo_inj h
theorem V_flt {q : Vw} {k : FloatKind} {n : Nat} {v : Value} (h : V q (.v (.flt k) n) v) : v = .float k n := (List.cons.inj (show [v] = [.float k n] from h)).1
theorem obind_some {α β : Type} {x : Option α} {f : α → Option β} {b : β} (h : x.bind f = some b) : ∃ y, x = some y ∧ f y = some b := by
  cases x with
  | none => cases h
  | some y => exact ⟨y, rfl, h⟩
theorem snd_flt {op : BinOp} {t yt : TypeId} {x y : Operand} (hop : o.op = .binOp op t x y yt) {k j : FloatKind} {a' b' : Nat} (ha : s.ev x = .v (.flt k) a') (hb : s.ev y = .v (.flt j) b') {res : Option Nat}
    (hres : ∀ n, res = some n → k = j → (binOp op t (.float k a') (.float j b')).run P w = .ok (.float k n) w)
    (h : (if Ty.fkNo k == Ty.fkNo j then res.bind fun r => K (s.put o.dst (.v (.flt k) r)) else none) = some r) (hi : Inv w0 Nin D s m a w) : o.wp P a w (Post K r w0 Nin D) Q := by
  have hx := hi.ev x
  have hy := hi.ev y
  rw [ha] at hx; rw [hb] at hy
  split at h
  · rename_i hk
    obtain ⟨n, hn, hK⟩ := obind_some h
    refine quiet_fin (x := .v (.flt k) n) (v := .float k n) ?_ rfl hK hi
    simp only [execOp, hop]
    refine run_v ?_
    rw [V_flt hx, V_flt hy, eqGuard_scalar rfl]
    simpa [Sem.run_bind] using hres n hn (fkind_eq hk)
  · cases h
theorem kind_eq {k j : IntKind} (h : (Ty.kindNo k == Ty.kindNo j) = true) : k = j := Ty.kindNo_inj h
theorem snd_bin {op : BinOp} {t yt : TypeId} {x y : Operand} (hop : o.op = .binOp op t x y yt) (h : binA P op t (s.ev x) (s.ev y) s o.dst K = some r)
    (hagg : ∀ neg xs ys, s.ev x = .agg xs → s.ev y = .agg ys → (op = if neg then .neq else .eql) → aggEq P neg t xs ys s o.dst K = some r → o.wp P a w (Post K r w0 Nin D) Q)
    (hi : Inv w0 Nin D s m a w) : o.wp P a w (Post K r w0 Nin D) Q := by
  have hx := hi.ev x
  have hy := hi.ev y
  unfold binA at h
  split at h
  · rename_i k a' j b' ha hb
    exact snd_flt hop ha hb (fun n hn hk => by subst hk; simp [binOp, Op.floatArith, hn, Sem.run_bind]) h hi
  · rename_i k a' j b' ha hb
    exact snd_flt hop ha hb (fun n hn hk => by subst hk; simp [binOp, Op.floatArith, hn, Sem.run_bind]) h hi
  · rename_i k a' j b' ha hb
    exact snd_flt hop ha hb (fun n hn hk => by subst hk; simp [binOp, Op.floatArith, hn, Sem.run_bind]) h hi
  · rename_i k a' j b' ha hb
    exact snd_flt hop ha hb (fun n hn hk => by subst hk; simp [binOp, Op.floatArith, hn, Sem.run_bind]) h hi
  · rename_i k a' j b' ha hb
    rw [ha] at hx; rw [hb] at hy
    have ex := V_int hx
    have ey := V_int hy
    split at h
    · rename_i hk
      have hk' := kind_eq hk
      split at h
      · cases h
      · rename_i hz
        refine quiet_fin (x := .v (.int k) (k.wrap (Int.tdiv a' b'))) (v := .int k (k.wrap (Int.tdiv a' b'))) ?_ rfl h hi
        simp only [execOp, hop]
        refine run_v ?_
        rw [ex, ey, eqGuard_scalar rfl]
        subst hk'
        have hz' : ¬ b' = (0 : Int) := hz
        simp [Sem.run_bind, binOp, Op.intDiv, hz']
    · cases h
  · rename_i k a' j b' ha hb
    rw [ha] at hx; rw [hb] at hy
    have ex := V_int hx
    have ey := V_int hy
    split at h
    · rename_i hk
      have hk' := kind_eq hk
      split at h
      · cases h
      · rename_i hz
        refine quiet_fin (x := .v (.int k) (Int.tmod a' b')) (v := .int k (Int.tmod a' b')) ?_ rfl h hi
        simp only [execOp, hop]
        refine run_v ?_
        rw [ex, ey, eqGuard_scalar rfl]
        subst hk'
        have hz' : ¬ b' = (0 : Int) := hz
        simp [Sem.run_bind, binOp, Op.intDiv, hz']
    · cases h
  · rename_i k a' j b' ha hb
    rw [ha] at hx; rw [hb] at hy
    have ex := V_int hx
    have ey := V_int hy
    split at h
    · cases h
    · rename_i hz
      refine quiet_fin (x := .v (.int k) (k.wrap (a' * 2 ^ (min (Int.toNat b') k.bits)))) (v := .int k (k.wrap (a' * 2 ^ (min (Int.toNat b') k.bits)))) ?_ rfl h hi
      simp only [execOp, hop]
      refine run_v ?_
      rw [ex, ey, eqGuard_scalar rfl]
      have hz' : ¬ b' < (0 : Int) := hz
      simp [Sem.run_bind, binOp, Op.shift, hz']
  · rename_i k a' j b' ha hb
    rw [ha] at hx; rw [hb] at hy
    have ex := V_int hx
    have ey := V_int hy
    split at h
    · cases h
    · rename_i hz
      refine quiet_fin (x := .v (.int k) (Int.fdiv a' (2 ^ (min (Int.toNat b') k.bits)))) (v := .int k (Int.fdiv a' (2 ^ (min (Int.toNat b') k.bits)))) ?_ rfl h hi
      simp only [execOp, hop]
      refine run_v ?_
      rw [ex, ey, eqGuard_scalar rfl]
      have hz' : ¬ b' < (0 : Int) := hz
      simp [Sem.run_bind, binOp, Op.shift, hz']
  · rename_i a' b' ha hb
    rw [ha] at hx; rw [hb] at hy
    have ex := V_str hx
    have ey := V_str hy
    split at h
    · cases h
    · rename_i hz
      refine quiet_fin (x := .v .str (a' ++ b')) (v := .string (a' ++ b')) ?_ rfl h hi
      simp only [execOp, hop]
      refine run_v ?_
      rw [ex, ey, eqGuard_scalar rfl]
      simp only [Sem.run_bind, Sem.run_pure, Result.andThen_ok, binOp, Op.stringOp, if_neg hz]
  · rename_i xs ys ha hb
    exact hagg false xs ys ha hb rfl h
  · rename_i xs ys ha hb
    exact hagg true xs ys ha hb rfl h
  all_goals first | (cases h; done) | exact snd_binPlain hop h hi
theorem snd_un {op : UnOp} {t : TypeId} {x : Operand} (hop : o.op = .unOp op t x) (h : (match cellV (s.ev x) with
    | some a => if scalarV a then fin1 s o.dst (evS P (Op.unary op a)) K else none
    | none => none) = some r) (hi : Inv w0 Nin D s m a w) : o.wp P a w (Post K r w0 Nin D) Q := by
  have hx := hi.ev x
  split at h
  · rename_i u hu
    split at h
    · have eu := cellV_eq hu hx
      refine snd_fin1 h (fun z hz => ?_) hi
      simp only [execOp, hop]
      exact run_v (by rw [eu]; exact hz)
    · cases h
  · cases h
/-! ### conversions -/
theorem reps_u8 {q : Vw} : ∀ (xs : List Int) (inner : List Value), repsOf (rep q.w q.N (.int .u8)) xs inner → inner = xs.map (Value.int .u8)
  | [], _, h => h
  | x :: xs, _, ⟨c0, c1, e, h0, h1⟩ => by
    rw [e, reps_u8 xs _ h1, show c0 = [.int .u8 x] from h0]; rfl
theorem run_toString {q : Vw} {xs : List Int} {v : Value} (hs : q.Sl (.int .u8) xs v) {src dst e : TypeId} (h1 : P.underlying src = some (.slice e)) (he : P.underlying e = some (.int .u8)) (hd : P.underlying dst = some .string) :
    (convert src dst v).run P q.w = .ok (.string (strOf xs)) q.w := by
  obtain ⟨A, c, inner, rfl, hl, hr, hc⟩ := hs
  have hin := reps_u8 xs inner hr
  rw [run_convert_bytes_string q.w src dst e _ _ c h1 he hd]
  rcases hc with hc | ⟨ad, rfl, _, hcell⟩
  · have hx : xs = [] := by
      rw [hc] at hin
      exact List.map_eq_nil_iff.1 hin.symm
    subst hx
    cases A with
    | none => rfl
    | some ad =>
      have := run_bytesToString (P := P) q.w ad 0 c [] (by simp [loadCells, loadCellsFrom])
      exact this
  · subst hin
    have hload := run_loadCells_list (P := P) q.w ad _ hcell
    rw [List.length_map] at hload
    rw [run_bytesToString q.w ad _ c xs hload, foldl_push_bytes]
    simp [strOf, ByteArray.empty, ByteArray.emptyWithCapacity]
    rfl
theorem snd_conv {src dst : TypeId} {x : Operand} (hop : o.op = .convert src dst x) (h : aOp { P := P, typ := fun _ => none, sh := fun _ => .one none .unit, call := fun _ _ => none, isIn := fun _ => false, inl := fun _ _ _ _ _ => none } 0 o s K = some r) (hss : sameSl P src dst = false) (hnb : ∀ b et, s.ev x = .v .str b → P.underlying src = some .string → P.underlying dst = some (.slice et) → False) (hi : Inv w0 Nin D s m a w) :
    o.wp P a w (Post K r w0 Nin D) Q := by
  have hx := hi.ev x
  simp only [aOp, hop, hss, cond_false] at h
  have str : ∀ {xs : List Int}, (vw w0 Nin s m w).Sl (.int .u8) xs (a.eval x) → (match P.underlying src, P.underlying dst with
      | some (.slice et), some .string => (match P.underlying et with | some (.int .u8) => K (s.put o.dst (.v .str (strOf xs))) | _ => none)
      | _, _ => none) = some r → o.wp P a w (Post K r w0 Nin D) Q := by
    intro xs hs h
    split at h
    · rename_i et h1 h2
      split at h
      · rename_i h3
        refine quiet_fin (x := .v .str (strOf xs)) (v := .string (strOf xs)) ?_ rfl h hi
        simp only [execOp, hop]
        exact run_v (run_toString (q := vw w0 Nin s m w) hs h1 h3 h2)
      · cases h
    · cases h
  split at h
  · rename_i k b hb
    rw [hb] at hx
    have ex := V_flt hx
    split at h
    · rename_i j hj
      split at h
      · rename_i fk hsrc
        obtain ⟨n, hn, hK⟩ := obind_some h
        refine quiet_fin (x := .v (.int j) n) (v := .int j n) ?_ rfl hK hi
        simp only [execOp, hop]
        refine run_v ?_
        rw [ex]
        unfold fToI at hn
        split at hn
        · rename_i n' hto
          split at hn
          · rename_i hin
            have := Option.some.inj hn
            subst this
            simp only [convert, Sem.run_bind, run_underlying hsrc, run_underlying hj, Result.andThen_ok, Conv.floatToInt, hto]
            rw [if_pos hin]; rfl
          · cases hn
        · cases hn
      · cases h
    · split at h
      · refine snd_fin1 h (fun z hz => ?_) hi
        simp only [execOp, hop]
        exact run_v (by rw [ex]; exact hz)
      · cases h
  · rename_i b hb
    rw [hb] at hx
    have ex := V_str hx
    split at h
    · rename_i et h1 h2
      exact (hnb b et hb h1 h2).elim
    · split at h
      · refine snd_fin1 h (fun z hz => ?_) hi
        simp only [execOp, hop]
        exact run_v (by rw [ex]; exact hz)
      · cases h
  · rename_i xs hb; rw [hb] at hx; exact str (sl_of_rep hx) h
  · rename_i xs hb; rw [hb] at hx; exact str hx h
  · rename_i τ T xs hb; rw [hb] at hx; exact str hx.2.1 h
  · rename_i hb
    rw [hb] at hx
    have hv : a.eval x = .slice none 0 0 := hx
    exact str (xs := []) ⟨none, 0, [], hv, Nat.le_refl _, rfl, .inl rfl⟩ h
  · split at h
    · rename_i u hu
      split at h
      · have eu := cellV_eq hu hx
        refine snd_fin1 h (fun z hz => ?_) hi
        simp only [execOp, hop]
        exact run_v (by rw [eu]; exact hz)
      · cases h
    · cases h
/-! ### the length -/
theorem mmV_spec {mx : Bool} {x y z : AV} (h : mmV mx x y = some z) : ∃ (k : IntKind) (a b : Int), x = .v (.int k) a ∧ y = .v (.int k) b ∧ z = .v (.int k) (bif mx then maxI a b else minI a b) := by
  unfold mmV at h
  split at h
  · rename_i j a k b
    split at h
    · rename_i hk
      have := Ty.kindNo_inj hk
      subst this
      exact ⟨j, a, b, rfl, rfl, (Option.some.inj h).symm⟩
    · cases h
  · cases h
theorem fm2_spec {mx : Bool} {k : FloatKind} {a b c : Nat} (h : fm2 mx k a b = some c) : (k.format.order a b).isSome = true ∧ c = bif mx then maxF k a b else minF k a b := by
  unfold fm2 at h
  split at h
  · rename_i ho
    exact ⟨ho, (Option.some.inj h).symm⟩
  · cases h
theorem run_min2 {k : FloatKind} {a b : Nat} (h : (k.format.order a b).isSome = true) (ts : Array TypeId) (t : TypeId) (w : World) : (Builtin.min_ ts t #[.float k a, .float k b]).run P w = .ok (.float k (minF k a b)) w := by
  cases ho : k.format.order a b with
  | none => rw [ho] at h; cases h
  | some c => cases c <;> simp [Builtin.min_, Builtin.min2, minF, ho]
theorem run_max2 {k : FloatKind} {a b : Nat} (h : (k.format.order a b).isSome = true) (ts : Array TypeId) (t : TypeId) (w : World) : (Builtin.max_ ts t #[.float k a, .float k b]).run P w = .ok (.float k (maxF k a b)) w := by
  cases ho : k.format.order a b with
  | none => rw [ho] at h; cases h
  | some c => cases c <;> simp [Builtin.max_, Builtin.max2, maxF, ho]
theorem snd_mm (mx : Bool) {c : Call} {x y : Operand} (hop : o.op = .call c) (hc : c.callee = .builtin (if mx then .max else .min)) (ha : c.args.toList = [x, y])
    (h : mmA mx (s.ev x) (s.ev y) s o.dst K = some r) (hi : Inv w0 Nin D s m a w) : o.wp P a w (Post K r w0 Nin D) Q := by
  have ha' : c.args = #[x, y] := by rw [← Array.toList_inj]; exact ha
  have hx := hi.ev x
  have hy := hi.ev y
  unfold mmA at h
  split at h
  · rename_i j u h1
    split at h
    case h_2 => cases h
    rename_i k v h2
    split at h
    case isFalse => cases h
    rename_i hk
    have := Ty.fkNo_inj hk
    subst this
    obtain ⟨p, hp, hK⟩ := obind_some h
    obtain ⟨ho, rfl⟩ := fm2_spec hp
    rw [h1] at hx
    rw [h2] at hy
    cases mx with
    | false =>
      refine quiet_fin (x := .v (.flt j) (minF j u v)) (v := .float j (minF j u v)) ?_ rfl hK hi
      simp only [execOp, hop, resolve, hc, ha', List.map_toArray, List.map_cons, List.map_nil, Sem.run_bind, Sem.run_pure, Result.andThen_ok, invoke, builtin, V_flt hx, V_flt hy, run_min2 ho, Bool.false_eq_true, if_false]
    | true =>
      refine quiet_fin (x := .v (.flt j) (maxF j u v)) (v := .float j (maxF j u v)) ?_ rfl hK hi
      simp only [execOp, hop, resolve, hc, ha', List.map_toArray, List.map_cons, List.map_nil, Sem.run_bind, Sem.run_pure, Result.andThen_ok, invoke, builtin, V_flt hx, V_flt hy, run_max2 ho, if_true]
  · split at h
    · rename_i z hz
      obtain ⟨k, u, v, h1, h2, rfl⟩ := mmV_spec hz
      rw [h1] at hx
      rw [h2] at hy
      cases mx with
      | false =>
        refine quiet_fin (x := .v (.int k) (minI u v)) (v := .int k (minI u v)) ?_ rfl h hi
        simp only [execOp, hop, resolve, hc, ha', List.map_toArray, List.map_cons, List.map_nil, Sem.run_bind, Sem.run_pure, Result.andThen_ok, invoke, builtin, V_int hx, V_int hy, run_min_int2, minI, Bool.false_eq_true, if_false]
      | true =>
        refine quiet_fin (x := .v (.int k) (maxI u v)) (v := .int k (maxI u v)) ?_ rfl h hi
        simp only [execOp, hop, resolve, hc, ha', List.map_toArray, List.map_cons, List.map_nil, Sem.run_bind, Sem.run_pure, Result.andThen_ok, invoke, builtin, V_int hx, V_int hy, run_max_int2, maxI, if_true]
    · cases h
theorem snd_len {c : Call} {x : Operand} {t : TypeId} (hop : o.op = .call c) (hc : c.callee = .builtin .len) (ha : c.args.toList = [x]) (ht : c.argTypes.toList = [t])
    (h : (match P.underlying t with
        | some .string => (match s.ev x with | .v .str b => K (s.put o.dst (.v (.int .i64) (b.size : Int))) | _ => none)
        | some (.slice _) => (match slElems (s.ev x), s.ev x with
          | some ⟨_, xs⟩, _ => K (s.put o.dst (.v (.int .i64) (xs.length : Int)))
          | none, .nilS => K (s.put o.dst (.v (.int .i64) (0 : Int)))
          | none, _ => none)
        | _ => none) = some r) (hi : Inv w0 Nin D s m a w) : o.wp P a w (Post K r w0 Nin D) Q := by
  have hx := hi.ev x
  have ha' : c.args = #[x] := by rw [← Array.toList_inj]; exact ha
  have ht' : c.argTypes = #[t] := by rw [← Array.toList_inj]; exact ht
  have run : ∀ n : Int, (Builtin.len_ #[t] o.type #[a.eval x]).run P w = .ok (.int .i64 n) w → (execOp a.eval o).run P w = .ok (.value (.int .i64 n)) w := by
    intro n hn
    simp only [execOp, hop, resolve, hc, ha', ht', List.map_toArray, List.map_cons, List.map_nil, Sem.run_bind, Sem.run_pure, Result.andThen_ok, invoke, builtin, hn]
  split at h
  · rename_i hu
    split at h
    · rename_i b hb
      rw [hb] at hx
      have hx' := V_str hx
      refine quiet_fin (x := .v (.int .i64) (b.size : Int)) (v := .int .i64 (b.size : Int)) (run _ ?_) rfl h hi
      rw [hx']
      simp [Builtin.len_, run_underlying hu, goInt]
    · cases h
  · rename_i et hu
    split at h
    · rename_i _ _ e xs hsl
      obtain ⟨A, c', inner, he, _⟩ := slElems_sound hsl hx
      refine quiet_fin (x := .v (.int .i64) (xs.length : Int)) (v := .int .i64 (xs.length : Int)) (run _ ?_) rfl h hi
      rw [he]
      simp [Builtin.len_, run_underlying hu, goInt]
    · rename_i hsl hb
      rw [hb] at hx
      have hv : a.eval x = .slice none 0 0 := hx
      refine quiet_fin (x := .v (.int .i64) (0 : Int)) (v := .int .i64 0) (run _ ?_) rfl h hi
      rw [hv]
      simp [Builtin.len_, run_underlying hu, goInt]
    · cases h
  · cases h
end
end Go.Eng
/- ENGINE, part F: operations that make memory: what is the frame's own grows, what is read stays. -/
namespace Go.Eng
open Go Go.RowKit
section
variable {w0 : World} {Nin : Env} {D D' : Nat → Prop} {s s' : St} {m m' : Mp} {a : Act} {w w' : World}
/-- One step of memory, the temporaries as they were. -/
theorem Inv.next (h : Inv w0 Nin D s m a w) (ht : s'.t = s.t) (hto : (vw w0 Nin s m w).To (vw w0 Nin s' m' w')) (hb : Below w0.heap.size w0 w')
    (toks : ∀ τ k : Nat, hasBit s'.live τ = true → m'.G τ = some k → w0.heap.size ≤ k ∧ k < w'.heap.size)
    (inj : ∀ τ τ' k : Nat, hasBit s'.live τ = true → hasBit s'.live τ' = true → m'.G τ = some k → m'.G τ' = some k → τ = τ')
    (boxes : ∀ (b : Nat) (T : TypeId) (cs : List AV), s'.bx[b]? = some (some (T, cs)) → w0.heap.size ≤ m'.B b ∧ ∃ vs : List Value, w'.heap[m'.B b]? = some (.cells vs.toArray T (0, 0)) ∧ all2 (V1 (vw w0 Nin s' m' w')) cs vs ∧ ∀ u ∈ vs, u.oneCell' = true)
    (binj : ∀ (b : Nat) (T : TypeId) (cs : List AV) (b' : Nat) (T' : TypeId) (cs' : List AV), s'.bx[b]? = some (some (T, cs)) → s'.bx[b']? = some (some (T', cs')) → m'.B b = m'.B b' → b = b')
    (sep : ∀ (τ k b : Nat) (T : TypeId) (cs : List AV), hasBit s'.live τ = true → m'.G τ = some k → s'.bx[b]? = some (some (T, cs)) → m'.B b ≠ k)
    (uD : ∀ τ, m'.U τ → D' (τ / 8)) (bD : ∀ (b : Nat) (T : TypeId) (cs : List AV), s'.bx[b]? = some (some (T, cs)) → D' b)
    (liveU : ∀ τ, hasBit s'.live τ = true → m'.U τ) (hgh : s'.g = s.g := by rfl) : Inv w0 Nin D' s' m' a w' :=
  ⟨hb, h.defers, by rw [ht]; exact h.tlen, fun i x v hx hv => hto.v (h.tmps i x v (by rw [← ht]; exact hx) hv), toks, inj, boxes, binj, sep, uD, bD, liveU, by rw [hgh]; exact all2_imp (fun _ _ => hto.v) _ _ h.ghost, fun p hp => ⟨(hto.N _ (h.frz p hp).1).1, (hto.N _ (h.frz p hp).1).2.trans (h.frz p hp).2⟩, h.ok⟩
/-- Slices are made or grow: 'cons' is the one that goes into another. -/
theorem grow_step (h : Inv w0 Nin D s m a w) (ht : s'.t = s.t) (hbx : s'.bx = s.bx) (hB : m'.B = m.B) (cons : Option Nat) (hcons : ∀ τ, cons = some τ → hasBit s.live τ = true)
    (hg : w.grownBy w' (cons.bind m.G)) (hbelow : Below w0.heap.size w0 w')
    (hU : ∀ τ, m.U τ → m'.U τ) (hold : ∀ τ, m.U τ → m'.G τ = m.G τ ∧ m'.E τ = m.E τ)
    (hlive : ∀ τ, m.U τ → hasBit s'.live τ = true → hasBit s.live τ = true ∧ cons ≠ some τ)
    (hkeep : ∀ τ, hasBit s.live τ = true → cons ≠ some τ → hasBit s'.live τ = true)
    (hnew : ∀ τ k, ¬ m.U τ → hasBit s'.live τ = true → m'.G τ = some k → w0.heap.size ≤ k ∧ k < w'.heap.size ∧ (w.heap.size ≤ k ∨ cons.bind m.G = some k))
    (hinj : ∀ τ τ' k, ¬ m.U τ → ¬ m.U τ' → hasBit s'.live τ = true → hasBit s'.live τ' = true → m'.G τ = some k → m'.G τ' = some k → τ = τ')
    (hpre : ∀ τ k, cons = some τ → m.G τ = some k → (∀ o, o < m.E τ → w'.cell? ⟨k, o, none⟩ = w.cell? ⟨k, o, none⟩) ∧ ∀ τ', ¬ m.U τ' → hasBit s'.live τ' = true → m'.G τ' = some k → m.E τ ≤ m'.E τ')
    (uD : ∀ τ, m'.U τ → D' (τ / 8)) (hD : ∀ n, D n → D' n) (liveU : ∀ τ, hasBit s'.live τ = true → m'.U τ) (hgh : s'.g = s.g := by rfl) :
    (vw w0 Nin s m w).To (vw w0 Nin s' m' w') ∧ Inv w0 Nin D' s' m' a w' := by
  -- a block of another live slice, or of none, stands
  have hrow : ∀ k, k < w.heap.size → (∀ τ, cons = some τ → m.G τ ≠ some k) → w'.heap[k]? = w.heap[k]? := by
    intro k hk hne
    refine hg.block k hk ?_
    cases hc : cons with
    | none => simp
    | some τ =>
      intro he
      exact hne τ hc (by simpa using he.symm)
  have hstand : ∀ τ k, hasBit s.live τ = true → cons ≠ some τ → m.G τ = some k → w'.heap[k]? = w.heap[k]? := by
    intro τ k hl hne hG
    refine hrow k (h.toks τ k hl hG).2 (fun τ' hc hG' => ?_)
    have := h.inj τ τ' k hl (hcons τ' hc) hG hG'
    exact hne (this ▸ hc)
  have hbox : ∀ (b : Nat) (T : TypeId) (cs : List AV), s.bx[b]? = some (some (T, cs)) → m.B b < w.heap.size ∧ w'.heap[m.B b]? = w.heap[m.B b]? := by
    intro b T cs hb
    obtain ⟨_, vs, hh, _⟩ := h.boxes b T cs hb
    have hlt : m.B b < w.heap.size := (Array.getElem?_eq_some_iff.1 hh).1
    exact ⟨hlt, hrow _ hlt (fun τ hc hG => h.sep τ _ b T cs (hcons τ hc) hG hb rfl)⟩
  have hto : (vw w0 Nin s m w).To (vw w0 Nin s' m' w') := by
    have hN : ∀ b, (vw w0 Nin s m w).N b → (vw w0 Nin s' m' w').N b ∧ w'.heap[b]? = w.heap[b]? := by
      rintro b ⟨h1, h2, h3, h4⟩
      refine ⟨⟨Nat.lt_of_lt_of_le h1 hg.size, h2, fun τ hl hG => ?_, fun i T cs hb => ?_⟩, hrow b h1 (fun τ hc => h3 τ (hcons τ hc))⟩
      · by_cases hu : m.U τ
        · exact h3 τ (hlive τ hu hl).1 ((hold τ hu).1 ▸ hG)
        · obtain ⟨_, _, h5⟩ := hnew τ b hu hl hG
          rcases h5 with h5 | h5
          · omega
          · cases hc : cons with
            | none => rw [hc] at h5; cases h5
            | some τ' => rw [hc] at h5; exact h3 τ' (hcons τ' hc) h5
      · rw [hB]; exact h4 i T cs (by rw [← hbx]; exact hb)
    refine ⟨rfl, hN, ?_, ?_, ?_⟩
    · rintro b hi (hb | ⟨τ, hl, hG, hE⟩)
      · exact ⟨.inl (hN b hb).1, fun o _ => cell_of_heap (hN b hb).2⟩
      · have hl' : hasBit s.live τ = true := hl
        have hG' : m.G τ = some b := hG
        have hE' : hi ≤ m.E τ := hE
        by_cases hc : cons = some τ
        · obtain ⟨hp1, hp2⟩ := hpre τ b hc hG'
          refine ⟨?_, fun o ho => hp1 o (by omega)⟩
          by_cases hex : ∃ τ', ¬ m.U τ' ∧ hasBit s'.live τ' = true ∧ m'.G τ' = some b
          · obtain ⟨τ', h1, h2, h3⟩ := hex
            exact .inr ⟨τ', h2, h3, Nat.le_trans hE' (hp2 τ' h1 h2 h3)⟩
          · refine .inl ⟨Nat.lt_of_lt_of_le (h.toks τ b hl' hG').2 hg.size, fun hlt => ?_, fun τ' hl'' hG'' => ?_, fun i T cs hb => ?_⟩
            · have := (h.toks τ b hl' hG').1; omega
            · by_cases hu : m.U τ'
              · obtain ⟨h1, h2⟩ := hlive τ' hu hl''
                have := h.inj τ τ' b hl' h1 hG' ((hold τ' hu).1 ▸ hG'')
                exact h2 (this ▸ hc)
              · exact hex ⟨τ', hu, hl'', hG''⟩
            · rw [hB]; exact h.sep τ b i T cs hl' hG' (by rw [← hbx]; exact hb)
        · have hu := h.liveU τ hl'
          refine ⟨.inr ⟨τ, hkeep τ hl' hc, ?_, ?_⟩, fun o _ => cell_of_heap (hstand τ b hl' hc hG')⟩
          · exact (hold τ hu).1.trans hG'
          · show hi ≤ m'.E τ; rw [(hold τ hu).2]; exact hE'
    · intro τ hu
      refine ⟨hU τ hu, fun hl => ?_⟩
      obtain ⟨h1, h2⟩ := hlive τ hu hl
      exact ⟨h1, (hold τ hu).1, (hold τ hu).2, fun k hk => hstand τ k h1 h2 hk⟩
    · rintro b ⟨T, cs, hb⟩
      exact ⟨⟨T, cs, by rw [hbx]; exact hb⟩, by show m'.B b = m.B b; rw [hB]⟩
  refine ⟨hto, h.next ht hto hbelow ?_ ?_ ?_ ?_ ?_ uD ?_ liveU hgh⟩
  · intro τ k hl hG
    by_cases hu : m.U τ
    · have := h.toks τ k (hlive τ hu hl).1 ((hold τ hu).1 ▸ hG)
      exact ⟨this.1, Nat.lt_of_lt_of_le this.2 hg.size⟩
    · obtain ⟨h1, h2, _⟩ := hnew τ k hu hl hG
      exact ⟨h1, h2⟩
  · have mixed : ∀ τ τ' k, m.U τ → ¬ m.U τ' → hasBit s'.live τ = true → hasBit s'.live τ' = true → m'.G τ = some k → m'.G τ' = some k → False := by
      intro τ τ' k hu hu' hl hl' hG hG'
      obtain ⟨h1, h2⟩ := hlive τ hu hl
      have hGo := (hold τ hu).1 ▸ hG
      obtain ⟨_, _, h3⟩ := hnew τ' k hu' hl' hG'
      rcases h3 with h3 | h3
      · have := (h.toks τ k h1 hGo).2; omega
      · cases hc : cons with
        | none => rw [hc] at h3; cases h3
        | some τ0 =>
          rw [hc] at h3
          have := h.inj τ τ0 k h1 (hcons τ0 hc) hGo h3
          exact h2 (this ▸ hc)
    intro τ τ' k hl hl' hG hG'
    by_cases hu : m.U τ
    · by_cases hu' : m.U τ'
      · exact h.inj τ τ' k (hlive τ hu hl).1 (hlive τ' hu' hl').1 ((hold τ hu).1 ▸ hG) ((hold τ' hu').1 ▸ hG')
      · exact (mixed τ τ' k hu hu' hl hl' hG hG').elim
    · by_cases hu' : m.U τ'
      · exact (mixed τ' τ k hu' hu hl' hl hG' hG).elim
      · exact hinj τ τ' k hu hu' hl hl' hG hG'
  · intro b T cs hb
    rw [hbx] at hb
    obtain ⟨h1, vs, h2, h3, h4⟩ := h.boxes b T cs hb
    rw [hB]
    exact ⟨h1, vs, (hbox b T cs hb).2.trans h2, all2_imp (fun _ _ => hto.v1) _ _ h3, h4⟩
  · intro b T cs b' T' cs' hb hb' he
    rw [hbx] at hb hb'
    rw [hB] at he
    exact h.binj b T cs b' T' cs' hb hb' he
  · intro τ k b T cs hl hG hb
    rw [hbx] at hb
    rw [hB]
    by_cases hu : m.U τ
    · exact h.sep τ k b T cs (hlive τ hu hl).1 ((hold τ hu).1 ▸ hG) hb
    · obtain ⟨_, _, h3⟩ := hnew τ k hu hl hG
      rcases h3 with h3 | h3
      · have := (hbox b T cs hb).1; omega
      · cases hc : cons with
        | none => rw [hc] at h3; cases h3
        | some τ0 => rw [hc] at h3; exact h.sep τ0 k b T cs (hcons τ0 hc) h3 hb
  · intro b T cs hb
    rw [hbx] at hb
    exact hD b (h.bD b T cs hb)
/-- What is owned may be read. -/
theorem own_sl {q : Vw} {τ : Nat} {T : TypeId} {e : Ty} {xs : List e.den} {v : Value} (ho : q.Own τ T e xs v) (hl : q.live τ) : q.Sl e xs v := by
  obtain ⟨inner, hown, hb, hr, hE⟩ := ho
  rcases hown.2 with ⟨rfl, hn⟩ | ⟨g, cap, cur, rfl, hbg, hg, hnc, hcm, hcs, htake⟩
  · have hx : xs = [] := List.eq_nil_of_length_eq_zero hn
    subst hx
    exact ⟨none, 0, inner, rfl, Nat.le_refl _, hr, .inl hr⟩
  · refine ⟨some ⟨g, 0, none⟩, cap, inner, rfl, hnc, hr, .inr ⟨_, rfl, .inr ⟨τ, hl, hb.symm, ?_⟩, hown.cells (g := g) rfl⟩⟩
    show 0 + inner.length ≤ q.E τ
    rw [hE]; omega
end
theorem bit_add {n i j : Nat} : hasBit (addBit n i) j = (hasBit n j || decide (i = j)) := by
  unfold hasBit addBit
  rw [Nat.testBit_or, Nat.testBit_two_pow]
theorem bit_del {n i j : Nat} (h : hasBit n i = true) : hasBit (delBit n i) j = (hasBit n j && !decide (i = j)) := by
  unfold hasBit delBit at *
  rw [Nat.testBit_xor, Nat.testBit_two_pow]
  by_cases hij : i = j
  · subst hij; simp [h]
  · simp [hij]
section
variable {P : Program}
theorem cap_le {n c bytes : Nat} (h : (n + c) * bytes ≤ 140737488355328) (hb : 0 < bytes) : n + c ≤ 140737488355328 := by
  have := Nat.le_mul_of_pos_right (n + c) hb
  omega
/-- append, of whatever is appended, onto what is owned. -/
theorem append_owned {w : World} (base : Nat) (t tx ty et : TypeId) (i : TypeInfo) (z : Value) (ht : P.underlying t = some (.slice et)) (hi : P.info? et = some i) (hz : i.zero = some z) (hzs : z.cells.size = i.size) (hs0 : 0 < i.size) (hb0 : 0 < i.bytes)
    (v : Value) (n : Nat) (xs : List Value) (hown : w.ownsRow base et i.size v n xs) (x : Value) (c : Nat) (news : List Value) (hs : Src P i.size tx x c news w)
    (hroom : (n + c) * i.bytes ≤ 140737488355328) (hbase : base ≤ w.heap.size) :
    ∃ v' w', (Builtin.append_ #[t, tx] ty #[v, x]).run P w = .ok v' w' ∧ w'.ownsRow base et i.size v' (n + c) (xs ++ news) ∧ w.grownBy w' v.ownBlock ∧
      (v'.ownBlock = v.ownBlock ∨ ∃ b, v'.ownBlock = some b ∧ w.heap.size ≤ b) ∧ ∀ k, v.ownBlock = some k → ∀ o, o < n * i.size → w'.cell? ⟨k, o, none⟩ = w.cell? ⟨k, o, none⟩ := by
  have hmax := cap_le hroom hb0
  have h63 : ((n + c : Nat) : Int) ≤ 9223372036854775807 := by omega
  have hml : n + c ≤ maxLen := by simp only [maxLen]; omega
  have hlen : (xs ++ news).length = (n + c) * i.size := by rw [List.length_append, hown.1, hs.newsLen, Nat.add_mul]
  have grown : ∀ (old : Nat) (row : Option Nat), old < n + c →
      (w.drew.alloc (.cells ((xs ++ news).toArray ++ Builtin.zeroCells z.cells (grownCap w (n + c) old et - (n + c))) et)).ownsRow base et i.size
        (.slice (some ⟨w.heap.size, 0, none⟩) (n + c) (grownCap w (n + c) old et)) (n + c) (xs ++ news) ∧
      w.grownBy (w.drew.alloc (.cells ((xs ++ news).toArray ++ Builtin.zeroCells z.cells (grownCap w (n + c) old et - (n + c))) et)) row := by
    intro old row ho
    have hge := grownCap_ge w (n + c) old et
    refine ⟨⟨hlen, .inr ⟨w.heap.size, _, _, rfl, hbase, heap_alloc_new w.drew _, hge, grownCap_le_maxLen w (n + c) old et hml, ?_, ?_⟩⟩, ⟨rfl, rfl, rfl, by simp, fun k hk _ => heap_alloc_old w.drew _ k hk⟩⟩
    · simp only [Array.size_append, List.size_toArray, size_zeroCells, hzs, hlen, ← Nat.add_mul]
      congr 1
      omega
    · rw [Array.toList_append, ← hlen]
      exact List.take_left
  rcases hown.2 with ⟨rfl, rfl⟩ | ⟨g, cap, cur, rfl, hbg, hg, hnc, hcm, hcs, htake⟩
  · have hx : xs = [] := List.eq_nil_of_length_eq_zero (by simpa using hown.1)
    subst hx
    by_cases hc : c = 0
    · subst hc
      have hn : news = [] := List.eq_nil_of_length_eq_zero (by simpa using hs.newsLen)
      subst hn
      exact ⟨_, _, run_append_nothing (P := P) w t tx ty et i ht hi none 0 0 (Nat.le_refl _) x hs, World.ownsRow_nil w base et i.size, ⟨rfl, rfl, rfl, Nat.le_refl _, fun _ _ _ => rfl⟩, .inl rfl, fun k hk => by simp [Value.ownBlock] at hk⟩
    · have hr := run_append_grow_src (P := P) w t tx ty et i z ht hi hz none 0 0 [] (run_firstCells_none w.drew i.size 0 0 0) x c news hs (by omega) h63 (growslice_fits (by omega) hroom)
      obtain ⟨h1, h2⟩ := grown 0 (Value.ownBlock (.slice none 0 0)) (by omega)
      exact ⟨_, _, hr, h1, h2, .inr ⟨w.heap.size, rfl, Nat.le_refl _⟩, fun k hk => by simp [Value.ownBlock] at hk⟩
  · have hglt : g < w.heap.size := (Array.getElem?_eq_some_iff.1 hg).1
    by_cases hroom' : n + c ≤ cap
    · have hfit : n * i.size + news.length ≤ cur.size := by rw [hs.newsLen, hcs, ← Nat.add_mul]; exact Nat.mul_le_mul_right _ hroom'
      have hst := run_storeCells_at P g (n * i.size) et news 0 cur w hg (by simpa using hfit) hs.one
      simp only [Nat.add_zero] at hst
      refine ⟨.slice (some ⟨g, 0, none⟩) (n + c) cap, w.setRow g (cur.toList.take (n * i.size) ++ news ++ cur.toList.drop (n * i.size + news.length)).toArray, ?_, ⟨hlen, .inr ⟨g, cap, _, rfl, hbg, setRow_heap w g cur _ et _ hg, hroom', hcm, ?_, ?_⟩⟩, ⟨rfl, rfl, rfl, ?_, fun k _ hk => setRow_other w g k _ (fun e => hk (by simp [Value.ownBlock, e]))⟩, .inl rfl, ?_⟩
      · rcases hs.kind with ⟨e', hk⟩ | hk <;> simp [Builtin.append_, run_underlying ht, run_underlying hk, sizeOf, typeInfo, hi, hs.len, hroom', hs.cells, Addr.add_lit, hst]
      · simp only [List.size_toArray, List.length_append, List.length_take, List.length_drop, Array.length_toList]
        omega
      · rw [htake, ← hlen]
        exact List.take_left
      · simp [World.setRow]
      · intro k hk o ho
        have hgk : g = k := by simpa [Value.ownBlock] using hk
        subst hgk
        have hb := setRow_heap w g cur (cur.toList.take (n * i.size) ++ news ++ cur.toList.drop (n * i.size + news.length)).toArray et _ hg
        have hle : n * i.size ≤ cur.size := by omega
        simp only [World.cell?, hb, hg]
        simp only [Option.isSome_none, Bool.false_eq_true, if_false, List.getElem?_toArray]
        rw [List.append_assoc, List.getElem?_append_left (by rw [List.length_take, Array.length_toList]; omega), List.getElem?_take, if_pos ho]
        simp
    · have holds : ∀ j u, xs[j]? = some u → w.cell? ((⟨g, 0, none⟩ : Addr).add j) = some u := hown.cells (g := g) rfl
      have hf := run_firstCells_some (P := P) w.drew i.size n ⟨g, 0, none⟩ n cap xs hown.1 (by simpa using holds)
      have hr := run_append_grow_src (P := P) w t tx ty et i z ht hi hz (some ⟨g, 0, none⟩) n cap xs hf x c news hs (by omega) h63 (growslice_fits (by omega) hroom)
      obtain ⟨h1, h2⟩ := grown cap (Value.ownBlock (.slice (some ⟨g, 0, none⟩) n cap)) (by omega)
      exact ⟨_, _, hr, h1, h2, .inr ⟨w.heap.size, rfl, Nat.le_refl _⟩, fun k hk o _ => cell_of_heap (heap_alloc_old w.drew _ k (by
        have hgk : g = k := by simpa [Value.ownBlock] using hk
        subst hgk; exact hglt))⟩
end
end Go.Eng
/- ENGINE, part G: append, make, slice literals, boxes, stores. -/
namespace Go.Eng
open Go Go.RowKit
section
variable {R : Type} {Γ : Ctx} {w0 : World} {Nin : Env} {D : Nat → Prop} {s : St} {m : Mp} {a : Act} {w : World} {o : Oper} {K : St → Option R} {r : R} {Q : Exit → Act → World → Prop}
/-- A slice of the frame's own, new or grown. -/
theorem own_fin (h : Inv w0 Nin D s m a w) {n id : Nat} (hn : ¬ D n) (hid : id / 8 = n) (cons : Option Nat) (live' : Nat)
    (hl' : ∀ t, hasBit live' t = (decide (id = t) || (hasBit s.live t && !decide (cons = some t)))) (hcons : ∀ τ, cons = some τ → hasBit s.live τ = true)
    {et : TypeId} {e : Ty} {xs : List e.den} {inner : List Value} {v' : Value} {w' : World} (hown : w'.ownsRow w0.heap.size et e.sz v' xs.length inner)
    (hg : w.grownBy w' (cons.bind m.G)) (hat : v'.ownBlock = cons.bind m.G ∨ ∃ b, v'.ownBlock = some b ∧ w.heap.size ≤ b)
    (hpre : ∀ τ k, cons = some τ → m.G τ = some k → ∀ o, o < m.E τ → w'.cell? ⟨k, o, none⟩ = w.cell? ⟨k, o, none⟩) (hE : ∀ τ, cons = some τ → m.E τ ≤ inner.length)
    (hr : repsOf (rep w (vw w0 Nin s m w).N e) xs inner) :
    ∃ m', Inv w0 Nin (fun k => D k ∨ k = n) { s with live := live' } m' a w' ∧ V (vw w0 Nin { s with live := live' } m' w') (.own id et e xs) v' := by
  have hu : ¬ m.U id := fun hu => hn (hid ▸ h.uD id hu)
  have hne : ∀ t, m.U t → id ≠ t := fun t ht he => hu (he ▸ ht)
  refine ⟨{ G := fun t => if id = t then v'.ownBlock else m.G t, E := fun t => if id = t then inner.length else m.E t, U := fun t => m.U t ∨ t = id, B := m.B }, ?_⟩
  have bits : ∀ t, hasBit live' t = true → t = id ∨ (hasBit s.live t = true ∧ cons ≠ some t) := by
    intro t ht
    rw [hl' t, Bool.or_eq_true] at ht
    rcases ht with ht | ht
    · exact .inl (of_decide_eq_true ht).symm
    · rw [Bool.and_eq_true] at ht
      exact .inr ⟨ht.1, by simpa using ht.2⟩
  have newU : ∀ t, ¬ m.U t → hasBit live' t = true → t = id := by
    intro t ht hl
    rcases bits t hl with rfl | ⟨h1, _⟩
    · rfl
    · exact (ht (h.liveU t h1)).elim
  have hlt : ∀ k, v'.ownBlock = some k → w0.heap.size ≤ k ∧ k < w'.heap.size := hown.lt
  obtain ⟨hto, hinv⟩ := grow_step (s' := { s with live := live' }) (D' := fun k => D k ∨ k = n) h rfl rfl rfl cons hcons hg
    (m' := { G := fun t => if id = t then v'.ownBlock else m.G t, E := fun t => if id = t then inner.length else m.E t, U := fun t => m.U t ∨ t = id, B := m.B })
    (h.below.grown hg h.below.size (fun k hk => by
      cases hc : cons with
      | none => rw [hc] at hk; cases hk
      | some τ => rw [hc] at hk; exact (h.toks τ k (hcons τ hc) hk).1))
    (fun _ ht => .inl ht) (fun t ht => ⟨if_neg (hne t ht), if_neg (hne t ht)⟩)
    (fun t ht hl => by
      rcases bits t hl with rfl | h1
      · exact (hu ht).elim
      · exact h1)
    (fun t hl hc => by
      show hasBit live' t = true
      rw [hl' t, hl]
      simp [hc])
    (fun t k ht hl hG => by
      have he := newU t ht hl
      subst he
      have hG' : v'.ownBlock = some k := by simpa using hG
      refine ⟨(hlt k hG').1, (hlt k hG').2, ?_⟩
      rcases hat with hat | ⟨b, hb, hle⟩
      · exact .inr (hat ▸ hG')
      · left; rw [hb] at hG'; injection hG' with hG'; omega)
    (fun t t' k ht ht' hl hl' _ _ => (newU t ht hl).trans (newU t' ht' hl').symm)
    (fun τ k hc hG => ⟨hpre τ k hc hG, fun t ht hl _ => by
      have he := newU t ht hl
      subst he
      show m.E τ ≤ if t = t then inner.length else m.E t
      rw [if_pos rfl]
      exact hE τ hc⟩)
    (fun t ht => ht.elim (fun ht => .inl (h.uD t ht)) (fun he => .inr (he ▸ hid))) (fun k hk => .inl hk)
    (fun t hl => by
      rcases bits t hl with rfl | ⟨h1, _⟩
      · exact .inr rfl
      · exact .inl (h.liveU t h1))
  refine ⟨hinv, .inr rfl, ?_⟩
  have hO : (vw w0 Nin { s with live := live' } { G := fun t => if id = t then v'.ownBlock else m.G t, E := fun t => if id = t then inner.length else m.E t, U := fun t => m.U t ∨ t = id, B := m.B } w').Own id et e xs v' :=
    ⟨inner, hown, by show _ = if id = id then v'.ownBlock else m.G id; rw [if_pos rfl], repsOf_imp (rep_step hto.N e) xs inner hr, by show (if id = id then inner.length else m.E id) = _; rw [if_pos rfl]⟩
  have hlive : hasBit live' id = true := by rw [hl' id]; simp
  exact ⟨own_sl hO hlive, fun _ => hO⟩
theorem elemTy_sound {t et : TypeId} {e : Ty} (h : elemTy Γ t = some (et, e)) : Γ.P.underlying t = some (.slice et) ∧ Γ.typ et = some e ∧ ∃ i, Γ.P.info? et = some i ∧ i.size = e.sz ∧ 0 < i.size ∧ 0 < i.bytes ∧ bytesT Γ.P et = i.bytes ∧ ∃ z, i.zero = some z ∧ z.cells.size = i.size := by
  unfold elemTy at h
  split at h
  · rename_i et' hu
    split at h
    · rename_i ty hty
      split at h
      · rename_i hok
        simp only [Option.some.injEq, Prod.mk.injEq] at h
        obtain ⟨rfl, rfl⟩ := h
        refine ⟨hu, hty, ?_⟩
        unfold elemOk at hok
        split at hok
        · rename_i i hi
          rw [Bool.and_eq_true, Bool.and_eq_true, Bool.and_eq_true] at hok
          refine ⟨i, hi, Nat.eq_of_beq_eq_true hok.1.1.1, Nat.le_of_ble_eq_true hok.1.1.2, Nat.le_of_ble_eq_true hok.1.2, by simp [bytesT, hi], ?_⟩
          have hz := hok.2
          split at hz
          · rename_i z hz'
            exact ⟨z, hz', Nat.eq_of_beq_eq_true hz⟩
          · cases hz
        · cases hok
      · cases h
    · cases h
  · cases h
theorem cast_eq {e e' : Ty} {ys : List e'.den} {xs : List e.den} (h : (Ty.cast (a := .sl e') (b := .sl e) ys : Option (List e.den)) = some xs) : ∃ he : e' = e, (he ▸ ys : List e.den) = xs := by
  unfold Ty.cast at h
  split at h
  · rename_i hs
    have he : e' = e := Ty.same_eq (by simpa [Ty.same] using hs)
    subst he
    simp only [Option.some.injEq] at h
    exact ⟨rfl, h⟩
  · cases h
theorem headOf_sound {et : TypeId} {e : Ty} {x : AV} {v : Value} {xs : List e.den} {live : Nat} (h : headOf et e s.live x = some (xs, live)) (hi : Inv w0 Nin D s m a w) (hv : V (vw w0 Nin s m w) x v) :
    ∃ cons inner, (∀ τ, cons = some τ → hasBit s.live τ = true) ∧ (∀ t, hasBit live t = (hasBit s.live t && !decide (cons = some t))) ∧ w.ownsRow w0.heap.size et e.sz v xs.length inner ∧ v.ownBlock = cons.bind m.G ∧
      repsOf (rep w (vw w0 Nin s m w).N e) xs inner ∧ ∀ τ, cons = some τ → m.E τ = inner.length := by
  cases x with
  | own τ T e' ys =>
    simp only [headOf] at h
    split at h
    · rename_i hb
      rw [Bool.and_eq_true] at hb
      have hT : T = et := Nat.eq_of_beq_eq_true hb.2
      cases hc : (Ty.cast (a := .sl e') (b := .sl e) ys : Option (List e.den)) with
      | none => rw [hc] at h; cases h
      | some zs =>
        rw [hc] at h
        simp only [Option.map_some, Option.some.injEq, Prod.mk.injEq] at h
        obtain ⟨rfl, rfl⟩ := h
        obtain ⟨he, hz⟩ := cast_eq hc
        subst he hz hT
        obtain ⟨_, _, hO⟩ := hv
        obtain ⟨inner, h1, h2, h3, h4⟩ := hO hb.1
        refine ⟨some τ, inner, (fun t ht => by cases ht; exact hb.1), (fun t => ?_), h1, h2, h3, (fun t ht => by cases ht; exact h4)⟩
        rw [bit_del hb.1]
        simp
    · cases h
  | nilS =>
    simp only [headOf, Option.some.injEq, Prod.mk.injEq] at h
    obtain ⟨rfl, rfl⟩ := h
    have hv' : v = .slice none 0 0 := hv
    subst hv'
    exact ⟨none, [], (fun t ht => by cases ht), (fun t => by simp), World.ownsRow_nil _ _ _ _, rfl, rfl, (fun t ht => by cases ht)⟩
  | _ => simp [headOf] at h
theorem reps_of_bytes {q : Vw} (b : ByteArray) : repsOf (rep q.w q.N (.int .u8)) (bytesOf b) (byteCells b) := by
  unfold bytesOf byteCells
  generalize b.data.toList = l
  induction l with
  | nil => rfl
  | cons x l ih => exact ⟨[.int .u8 (x.toNat : Int)], _, rfl, rfl, ih⟩
theorem snd_append {n : Nat} {c : Call} {x y : Operand} {t tx : TypeId} (hn : ¬ D n)
    (hop : o.op = .call c) (hc : c.callee = .builtin .append) (ha : c.args.toList = [x, y]) (hts : c.argTypes.toList = [t, tx])
    (h : appendA Γ (8 * n) t tx (s.ev x) (s.ev y) s o.dst K = some r) (hi : Inv w0 Nin D s m a w) : o.wp Γ.P a w (Post K r w0 Nin (fun k => D k ∨ k = n)) Q := by
  have hx := hi.ev x
  have hy := hi.ev y
  have ha' : c.args = #[x, y] := by rw [← Array.toList_inj]; exact ha
  have ht' : c.argTypes = #[t, tx] := by rw [← Array.toList_inj]; exact hts
  unfold appendA at h
  split at h
  · rename_i et e hel
    obtain ⟨hu, hty, i, hinf, hsz, hs0, hb0, hbt, z, hz1, hz2⟩ := elemTy_sound hel
    split at h
    · rename_i xs live hhead
      obtain ⟨cons, inner, hc1, hc2, hown, hob, hr, hE⟩ := headOf_sound hhead hi hx
      -- what both ways share
      have go : ∀ (ys : List e.den) (news : List Value), Src Γ.P i.size tx (a.eval y) ys.length news w → repsOf (rep w (vw w0 Nin s m w).N e) ys news → (xs.length + ys.length) * bytesT Γ.P et ≤ roomOk →
          K (St.put { s with live := addBit live (8 * n) } o.dst (.own (8 * n) et e (xs ++ ys))) = some r → o.wp Γ.P a w (Post K r w0 Nin (fun k => D k ∨ k = n)) Q := by
        intro ys news hsrc hry hroom hK
        rw [hbt] at hroom
        have hown' : w.ownsRow w0.heap.size et i.size (a.eval x) xs.length inner := by rw [hsz]; exact hown
        obtain ⟨v', w', hrun, h1, h2, h3, h4⟩ := append_owned (P := Γ.P) w0.heap.size t tx o.type et i z hu hinf hz1 hz2 hs0 hb0 (a.eval x) xs.length inner hown' (a.eval y) ys.length news hsrc hroom hi.below.size
        rw [hob] at h2 h3 h4
        obtain ⟨m', hI, hV⟩ := own_fin (n := n) (id := 8 * n) (live' := addBit live (8 * n)) (xs := xs ++ ys) (inner := inner ++ news) hi hn (by omega) cons (fun t => by rw [bit_add, hc2 t, Bool.or_comm]) hc1
          (by rw [List.length_append, ← hsz]; exact h1) h2 h3
          (fun τ k hτ hG o ho => h4 k (by rw [hτ]; exact hG) o (by
            have := hE τ hτ
            have hl := hown'.1
            omega))
          (fun τ hτ => by rw [hE τ hτ, List.length_append]; omega) (repsOf_append hr hry)
        refine wp_value (v := v') (w' := w') ?_ ⟨_, m', hK, hI.put o.dst hV⟩
        simp only [execOp, hop, resolve, hc, ha', ht', List.map_toArray, List.map_cons, List.map_nil, Sem.run_bind, Sem.run_pure, Result.andThen_ok, invoke, builtin, hrun]
      split at h
      · rename_i hstr
        split at h
        · rename_i b _ hb _
          split at h
          · rename_i hroom
            rw [hb] at hy
            have hy' := V_str hy
            have h1 : i.size = 1 := hsz
            have hl : (bytesOf b).length = b.size := by unfold bytesOf; rw [List.length_map, Array.length_toList]; rfl
            refine go (bytesOf b) (byteCells b) ?_ (reps_of_bytes (q := vw w0 Nin s m w) b) (by rw [hl]; exact hroom) h
            rw [hy', h1, hl]
            exact Src.ofString w hstr b
          · cases h
        · cases h
      · rename_i et' hsl
        split at h
        · rename_i ys hys
          split at h
          · rename_i hroom
            obtain ⟨A, cp, inn, he, hlc, hrr, hcc⟩ := asSl_sound hys hy
            refine go ys inn ?_ hrr hroom h
            rw [he]
            have hlen := reps_len ys inn hrr
            rcases hcc with hcc | ⟨ad, hA, _, hcell⟩
            · subst hcc
              have h0 : ys.length = 0 := by
                rcases Nat.eq_zero_or_pos ys.length with h0 | h0
                · exact h0
                · have := Nat.mul_pos h0 (show 0 < e.sz by rw [← hsz]; exact hs0)
                  simp only [List.length_nil] at hlen
                  omega
              rw [h0]
              cases A with
              | none => exact Src.ofNil w hsl cp
              | some ad => exact Src.ofSlice w hsl ad 0 cp [] (by simp) (by simp) (fun u hu => by cases hu)
            · subst hA
              exact Src.ofSlice w hsl ad ys.length cp inn (by rw [hlen, hsz]) hcell (reps_one ys inn hrr)
          · cases h
        · cases h
      · cases h
    · cases h
  · cases h
end
end Go.Eng
/- ENGINE, part H: struct and slice literals, make, boxes, stores. -/
namespace Go.Eng
open Go Go.RowKit
section
variable {q : Vw}
theorem cellTy_sound {t : Ty} {c : AV} {y : t.den} {v : Value} (h : cellTy t c = some y) (hv : V1 q c v) : rep q.w q.N t y [v] := by
  cases c with
  | v t' x =>
    simp only [cellTy, Ty.cast] at h
    split at h
    · rename_i hs
      have he : t' = t := Ty.same_eq hs
      subst he
      simp only [Option.some.injEq] at h
      have : x = y := h
      subst this
      exact hv
    · cases h
  | nilS =>
    cases t <;> simp only [cellTy, Option.some.injEq, reduceCtorEq] at h
    subst h
    have hv' : v = .slice none 0 0 := hv
    subst hv'
    exact ⟨none, 0, [], rfl, Nat.le_refl _, rfl, .inl rfl⟩
  | _ => simp [cellTy] at h
theorem ofCells_sound : ∀ (t : Ty) (cs : List AV) (y : t.den) (rest : List AV) (vs : List Value), ofCells t cs = some (y, rest) → all2 (V1 q) cs vs →
    ∃ v1 v2, vs = v1 ++ v2 ∧ rep q.w q.N t y v1 ∧ all2 (V1 q) rest v2 := by
  have one : ∀ (t : Ty) (cs : List AV) (y : t.den) (rest : List AV) (vs : List Value), (∀ c cs', cs = c :: cs' → (cellTy t c).map (·, cs') = some (y, rest)) → cs ≠ [] → all2 (V1 q) cs vs →
      ∃ v1 v2, vs = v1 ++ v2 ∧ rep q.w q.N t y v1 ∧ all2 (V1 q) rest v2 := by
    intro t cs y rest vs h hne h2
    cases cs with
    | nil => exact (hne rfl).elim
    | cons c cs' =>
      cases vs with
      | nil => exact h2.elim
      | cons v vs =>
        have h' := h c cs' rfl
        cases hc : cellTy t c with
        | none => rw [hc] at h'; cases h'
        | some z =>
          rw [hc] at h'
          simp only [Option.map_some, Option.some.injEq, Prod.mk.injEq] at h'
          obtain ⟨rfl, rfl⟩ := h'
          exact ⟨[v], vs, rfl, cellTy_sound hc h2.1, h2.2⟩
  intro t
  induction t with
  | unit =>
    intro cs y rest vs h h2
    simp only [ofCells, Option.some.injEq, Prod.mk.injEq] at h
    obtain ⟨_, rfl⟩ := h
    exact ⟨[], vs, rfl, rfl, h2⟩
  | pair a b iha ihb =>
    intro cs y rest vs h h2
    simp only [ofCells] at h
    split at h
    · rename_i x cs' h1
      split at h
      · rename_i z cs'' h3
        simp only [Option.some.injEq, Prod.mk.injEq] at h
        obtain ⟨rfl, rfl⟩ := h
        obtain ⟨v1, v2, rfl, hr1, h4⟩ := iha _ _ _ _ h1 h2
        obtain ⟨v3, v4, rfl, hr2, h5⟩ := ihb _ _ _ _ h3 h4
        exact ⟨v1 ++ v3, v4, by rw [List.append_assoc], ⟨v1, v3, rfl, hr1, hr2⟩, h5⟩
      · cases h
    · cases h
  | _ =>
    intro cs y rest vs h h2
    refine one _ cs y rest vs (fun c cs' he => ?_) (fun he => ?_) h2
    · subst he; exact h
    · subst he; simp [ofCells] at h
theorem okCell_V {x : AV} {v : Value} (hk : okCell x = true) (hv : V q x v) : V1 q x v ∧ v.oneCell' = true := by
  cases x with
  | v t y => exact ⟨hv, rep_one _ _ _ hv v List.mem_cons_self⟩
  | al e xs => obtain ⟨A, c, inner, he, _⟩ := hv; exact ⟨⟨A, c, inner, he, ‹_›⟩, by rw [he]; rfl⟩
  | own τ T e xs => obtain ⟨h0, ⟨A, c, inner, he, h1⟩, h2⟩ := hv; exact ⟨⟨h0, ⟨A, c, inner, he, h1⟩, h2⟩, by rw [he]; rfl⟩
  | nilS => have hv' : v = .slice none 0 0 := hv; exact ⟨hv, by rw [hv']; rfl⟩
  | ptr b off => have hv' : v = .pointer _ := hv.1; exact ⟨hv, by rw [hv']; rfl⟩
  | raw u =>
    have hv' : v = u := hv
    refine ⟨hv, ?_⟩
    rw [hv']
    cases u <;> first | rfl | (simp [okCell] at hk)
  | _ => simp [okCell] at hk
theorem cells_V {x : AV} {cs : List AV} {v : Value} (h : x.cells = some cs) (hk : cs.all okCell = true) (hv : V q x v) :
    ∃ vs : List Value, v.cells = vs.toArray ∧ all2 (V1 q) cs vs ∧ ∀ u ∈ vs, u.oneCell' = true := by
  have one : ∀ y : AV, okCell y = true → V q y v → ∃ vs : List Value, v.cells = vs.toArray ∧ all2 (V1 q) [y] vs ∧ ∀ u ∈ vs, u.oneCell' = true := by
    intro y hy hvy
    obtain ⟨h1, h2⟩ := okCell_V hy hvy
    refine ⟨[v], ?_, ⟨h1, trivial⟩, fun u hu => by rw [List.mem_singleton.1 hu]; exact h2⟩
    cases v <;> first | rfl | (simp [Value.oneCell'] at h2)
  cases x with
  | agg l =>
    simp only [AV.cells, Option.some.injEq] at h
    subst h
    obtain ⟨vs, he, h1, h2⟩ := (show ∃ vs, _ ∧ _ ∧ _ from hv)
    exact ⟨vs, by rw [he]; rfl, h1, h2⟩
  | tup _ => simp [AV.cells] at h
  | bad => simp [AV.cells] at h
  | _ =>
    simp only [AV.cells, Option.some.injEq] at h
    subst h
    simp only [List.all_cons, List.all_nil, Bool.and_true] at hk
    exact one _ hk hv
theorem sizedCells_V {P : Program} {t : TypeId} {x : AV} {cs : List AV} {v : Value} (h : sizedCells P t x = some cs) (hv : V q x v) :
    cs.length = szOf P t ∧ ∃ vs : List Value, v.cells = vs.toArray ∧ all2 (V1 q) cs vs ∧ ∀ u ∈ vs, u.oneCell' = true := by
  unfold sizedCells at h
  split at h
  · rename_i cs' hc
    split at h
    · rename_i hb
      simp only [Option.some.injEq] at h
      subst h
      rw [Bool.and_eq_true] at hb
      exact ⟨Nat.eq_of_beq_eq_true hb.1, cells_V hc hb.2 hv⟩
    · cases h
  · cases h
theorem asTy_V {t : Ty} {x : AV} {y : t.den} {v : Value} (h : x.asTy t = some y) (hv : V q x v) : rep q.w q.N t y v.cells.toList := by
  unfold AV.asTy at h
  split at h
  · rename_i cs hc
    split at h
    · rename_i hk
      obtain ⟨vs, he, h2, _⟩ := cells_V hc hk hv
      split at h
      · rename_i z hof
        simp only [Option.some.injEq] at h
        subst h
        obtain ⟨v1, v2, h3, hr, h4⟩ := ofCells_sound (q := q) t cs z [] vs hof h2
        cases v2 with
        | nil => rw [he]; simpa [h3] using hr
        | cons _ _ => exact h4.elim
      · cases h
    · cases h
  · cases h
/-! ### filling -/
theorem set_last {α : Type} (l : List α) (x v : α) (n : Nat) (h : l.length = n) : (l ++ [x]).set n v = l ++ [v] := by
  subst h; simp
theorem foldl_set : ∀ (vs : List Value) (k off : Nat) (cs : Array Value), off + k + vs.length ≤ cs.size →
    ((vs.zipIdx k).foldl (fun cs (x : Value × Nat) => cs.setIfInBounds (off + x.2) x.1) cs).toList = cs.toList.take (off + k) ++ vs ++ cs.toList.drop (off + k + vs.length)
  | [], k, off, cs, _ => by simp
  | v :: vs, k, off, cs, h => by
    rw [List.zipIdx_cons, List.foldl_cons, foldl_set vs (k + 1) off _ (by simp only [Array.size_setIfInBounds, List.length_cons] at h ⊢; omega)]
    have hlt : off + k < cs.toList.length := by simp only [List.length_cons, Array.length_toList] at h ⊢; omega
    simp only [Array.toList_setIfInBounds, List.length_cons]
    rw [show off + (k + 1) = (off + k) + 1 by omega, List.take_set, List.take_succ_eq_append_getElem hlt, set_last _ _ _ _ (by rw [List.length_take]; omega), List.drop_set_of_lt (by omega), List.append_assoc, List.append_assoc, List.singleton_append, List.append_assoc]
    rw [show off + k + 1 + vs.length = off + k + (vs.length + 1) by omega]
    rfl
theorem setCells_all2 {α β : Type} {r : α → β → Prop} {cs : List α} {vs : List β} (h : all2 r cs vs) {new : List α} {nvs : List β} (hn : all2 r new nvs) (off : Nat) :
    all2 r (cs.take off ++ new ++ cs.drop (off + new.length)) (vs.take off ++ nvs ++ vs.drop (off + nvs.length)) := by
  rw [all2_len hn]
  exact all2_append (all2_append (all2_take _ h) hn) (all2_drop _ h)
theorem fill_step {place : Nat → Option (Nat × Nat)} {i off size : Nat} {v : Value} {vs : List Value} {cells : Array Value} {rest : List (Nat × Value)} (hp : place i = some (off, size)) (hv : v.cells = vs.toArray) (hs : vs.length = size) (hle : off + vs.length ≤ cells.size) :
    Instr.fill place cells ((i, v) :: rest) = Instr.fill place (cells.toList.take off ++ vs ++ cells.toList.drop (off + vs.length)).toArray rest := by
  have e : v.cells.zipIdx.foldl (fun cs (x : Value × Nat) => cs.setIfInBounds (off + x.2) x.1) cells = (cells.toList.take off ++ vs ++ cells.toList.drop (off + vs.length)).toArray := by
    rw [← Array.toList_inj, ← Array.foldl_toList, Array.toList_zipIdx, hv]
    have := foldl_set vs 0 off cells (by omega)
    simpa using this
  simp only [Instr.fill, hp]
  rw [if_neg (by rw [hv]; simp; omega)]
  exact congrArg (fun c => Instr.fill place c rest) e
end
end Go.Eng
/- ENGINE, part I: struct and slice literals, make, boxes, stores: the operations. -/
namespace Go.Eng
open Go Go.RowKit
section
variable {R : Type} {Γ : Ctx} {P : Program} {w0 : World} {Nin : Env} {D : Nat → Prop} {s : St} {m : Mp} {a : Act} {w : World} {o : Oper} {K : St → Option R} {r : R} {Q : Exit → Act → World → Prop}
/-! ### struct literals -/
theorem fillA_sound {q : Vw} {t : TypeId} {places : Nat → Option (Nat × Nat)} (hpl : ∀ i off ft, fieldOf P t i = some (off, ft) → places i = some (off, szOf P ft)) :
    ∀ (parts : List (Nat × AV)) (vparts : List (Nat × Value)) (cs cs' : List AV) (cells : Array Value), fillA P t cs parts = some cs' → all2 (fun (x : Nat × AV) (y : Nat × Value) => x.1 = y.1 ∧ V q x.2 y.2) parts vparts →
      all2 (V1 q) cs cells.toList → (∀ u ∈ cells.toList, u.oneCell' = true) → ∃ cells', Instr.fill places cells vparts = some cells' ∧ all2 (V1 q) cs' cells'.toList ∧ ∀ u ∈ cells'.toList, u.oneCell' = true
  | [], [], cs, cs', cells, h, _, h2, h1 => by
    simp only [fillA, Option.some.injEq] at h
    subst h
    exact ⟨cells, rfl, h2, h1⟩
  | (i, x) :: parts, (j, v) :: vparts, cs, cs', cells, h, hp, h2, h1 => by
    obtain ⟨⟨he, hv⟩, hp'⟩ := hp
    have he' : i = j := he
    subst he'
    simp only [fillA] at h
    split at h
    · rename_i off ft hf
      split at h
      · rename_i new hn
        split at h
        · rename_i hb
          have hle := Nat.le_of_ble_eq_true hb
          obtain ⟨hlen, vs, hvc, h3, h4⟩ := sizedCells_V hn hv
          have hl := all2_len h3
          have hl2 : cs.length = cells.size := by rw [all2_len h2, Array.length_toList]
          rw [fill_step (hpl i off ft hf) hvc (by omega) (by omega)]
          refine fillA_sound hpl parts vparts _ cs' _ h hp' (setCells_all2 h2 h3 off) (fun u hu => ?_)
          rcases List.mem_append.1 (show u ∈ cells.toList.take off ++ vs ++ cells.toList.drop (off + vs.length) from hu) with hu | hu
          · rcases List.mem_append.1 hu with hu | hu
            · exact h1 u (List.mem_of_mem_take hu)
            · exact h4 u hu
          · exact h1 u (List.mem_of_mem_drop hu)
        · cases h
      · cases h
    · cases h
  | [], _ :: _, _, _, _, _, hp, _, _ => hp.elim
  | _ :: _, [], _, _, _, _, hp, _, _ => hp.elim
theorem parts_V (hi : Inv w0 Nin D s m a w) : ∀ (l : List (Nat × Operand)), all2 (fun (x : Nat × AV) (y : Nat × Value) => x.1 = y.1 ∧ V (vw w0 Nin s m w) x.2 y.2) (l.map fun (i, x) => (i, s.ev x)) (l.map fun (i, x) => (i, a.eval x))
  | [] => trivial
  | (_, x) :: l => ⟨⟨rfl, hi.ev x⟩, parts_V hi l⟩
theorem places_ok {t : TypeId} {fields : Array Field} {places : List (Nat × Nat)} (hu : P.underlying t = some (.struct fields)) (hp : fields.toList.mapM (fun f => (P.info? f.type).map fun i => (f.offset, i.size)) = some places) :
    ∀ i off ft, fieldOf P t i = some (off, ft) → places.toArray[i]? = some (off, szOf P ft) := by
  have key : ∀ (fs : List Field) (places : List (Nat × Nat)), fs.mapM (fun f => (P.info? f.type).map fun i => (f.offset, i.size)) = some places → ∀ (i : Nat) (f : Field), fs[i]? = some f → places[i]? = some (f.offset, szOf P f.type) := by
    intro fs
    induction fs with
    | nil => intro places _ i f hf; simp at hf
    | cons g fs ih =>
      intro places h i f hf
      simp only [List.mapM_cons, Option.bind_eq_bind, Option.pure_def] at h
      cases hg : P.info? g.type with
      | none => simp [hg] at h
      | some inf =>
        cases hr : fs.mapM (fun f => (P.info? f.type).map fun i => (f.offset, i.size)) with
        | none => simp [hg, hr] at h
        | some rest =>
          simp [hg, hr] at h
          subst h
          cases i with
          | zero =>
            simp only [List.getElem?_cons_zero, Option.some.injEq] at hf ⊢
            subst hf
            simp [szOf, hg]
          | succ i =>
            rw [List.getElem?_cons_succ] at hf ⊢
            exact ih rest hr i f hf
  intro i off ft h
  unfold fieldOf at h
  rw [hu] at h
  cases hf : fields[i]? with
  | none => simp only [hf] at h; cases h
  | some f =>
    simp only [hf] at h
    split at h
    · simp only [Option.some.injEq, Prod.mk.injEq] at h
      obtain ⟨rfl, rfl⟩ := h
      simpa using key _ places hp i f (by simpa using hf)
    · cases h
theorem snd_build {t : TypeId} {parts : Array (Nat × Operand)} (hop : o.op = .build t parts)
    (h : (match P.underlying t, (P.info? t).bind (·.zero) with
    | some (.struct _), some (.agg z) => match (ofConst (.agg z)) with
      | .agg cs => match fillB P t cs (parts.toList.map fun (i, x) => (i, s.ev x)) with
        | some cs' => K (s.put o.dst (.agg cs'))
        | none => none
      | _ => none
    | _, _ => none) = some r) (hi : Inv w0 Nin D s m a w) : o.wp P a w (Post K r w0 Nin D) Q := by
  split at h
  · rename_i fields z hu hz
    split at h
    · rename_i cs hcs
      split at h
      · rename_i cs' hf
        unfold fillB at hf
        split at hf <;> first | (cases hf; done) | skip
        rename_i hpo
        have hpl : (fields.toList.mapM (fun f => (P.info? f.type).map fun i => (f.offset, i.size))).isSome = true := by
          unfold placesOk at hpo
          rw [hu] at hpo
          exact hpo
        obtain ⟨places, hp⟩ := Option.isSome_iff_exists.1 hpl
        have hzV := V_ofConst (vw w0 Nin s m w) (.agg z)
        rw [hcs] at hzV
        obtain ⟨vs, he, h2, h1⟩ := (show ∃ vs, _ ∧ _ ∧ _ from hzV)
        have he' : z = vs.toArray := by injection he
        subst he'
        obtain ⟨cells', h3, h4, h5⟩ := fillA_sound (q := vw w0 Nin s m w) (places := (places.toArray[·]?)) (places_ok hu hp) _ (parts.toList.map fun (i, x) => (i, a.eval x)) cs cs' vs.toArray hf (parts_V hi _) (by simpa using h2) (by simpa using h1)
        cases hinf : P.info? t with
        | none => rw [hinf] at hz; cases hz
        | some inf =>
          rw [hinf] at hz
          have hz' : inf.zero = some (.agg vs.toArray) := hz
          refine quiet_fin (x := .agg cs') (v := .agg cells') ?_ ⟨cells'.toList, rfl, h4, h5⟩ h hi
          simp only [execOp, hop]
          refine run_v (run_build w t _ cells' ?_)
          unfold Program.built
          rw [hinf, hu]
          simp only [hz', hp]
          simpa [Value.cells] using h3
      · cases h
    · cases h
  · cases h
/-! ### slice literals -/
theorem fill_rows {q : Vw} {e : Ty} (hpos : 0 < e.sz) : ∀ (parts : List (Nat × AV)) (vparts : List (Nat × Value)) (k : Nat) (xs : List e.den) (done : List Value) (rest : List Value), partsA e k parts = some xs →
    all2 (fun (x : Nat × AV) (y : Nat × Value) => x.1 = y.1 ∧ V q x.2 y.2) parts vparts → done.length = k * e.sz → rest.length = parts.length * e.sz →
    ∃ inner, Instr.fill (fun i => some (i * e.sz, e.sz)) (done ++ rest).toArray vparts = some (done ++ inner).toArray ∧ repsOf (rep q.w q.N e) xs inner
  | [], [], k, xs, done, rest, h, _, _, hr => by
    simp only [partsA, Option.some.injEq] at h
    subst h
    have : rest = [] := List.eq_nil_of_length_eq_zero (by simpa using hr)
    subst this
    exact ⟨[], rfl, rfl⟩
  | (i, x) :: parts, (j, v) :: vparts, k, xs, done, rest, h, hp, hd, hr => by
    obtain ⟨⟨he, hv⟩, hp'⟩ := hp
    have he' : i = j := he
    subst he'
    simp only [partsA] at h
    split at h
    · rename_i hik
      have hik' := Nat.eq_of_beq_eq_true hik
      subst hik'
      split at h
      · rename_i y ys hy hys
        simp only [Option.some.injEq] at h
        subst h
        have hrep := asTy_V hy hv
        have hlen := rep_len _ _ _ hrep
        rw [List.length_cons, Nat.succ_mul] at hr
        have hle : (done ++ rest).toArray.size = i * e.sz + (parts.length * e.sz + e.sz) := by simp [hd, hr]
        rw [fill_step (vs := v.cells.toList) rfl (by simp) hlen (by rw [hle, hlen]; omega)]
        have e1 : (done ++ rest).toArray.toList.take (i * e.sz) = done := by
          show (done ++ rest).take (i * e.sz) = done
          rw [← hd]; exact List.take_left
        have e2 : (done ++ rest).toArray.toList.drop (i * e.sz + v.cells.toList.length) = rest.drop e.sz := by
          show (done ++ rest).drop _ = _
          rw [List.drop_append, hd, hlen, show i * e.sz + e.sz - i * e.sz = e.sz by omega, List.drop_of_length_le (l := done) (by omega), List.nil_append]
        rw [e1, e2]
        obtain ⟨inner, h3, h4⟩ := fill_rows hpos parts vparts (i + 1) ys (done ++ v.cells.toList) (rest.drop e.sz) hys hp' (by rw [List.length_append, hd, hlen, Nat.succ_mul]) (by rw [List.length_drop]; omega)
        exact ⟨v.cells.toList ++ inner, by rw [h3, List.append_assoc], v.cells.toList, inner, rfl, hrep, h4⟩
      · cases h
    · cases h
  | [], _ :: _, _, _, _, _, _, hp, _, _ => hp.elim
  | _ :: _, [], _, _, _, _, _, hp, _, _ => hp.elim
theorem partsA_len {e : Ty} : ∀ (parts : List (Nat × AV)) (k : Nat) (xs : List e.den), partsA e k parts = some xs → xs.length = parts.length
  | [], k, xs, h => by simp only [partsA, Option.some.injEq] at h; subst h; rfl
  | (i, x) :: parts, k, xs, h => by
    simp only [partsA] at h
    split at h
    · split at h
      · rename_i y ys _ hys
        simp only [Option.some.injEq] at h
        subst h
        rw [List.length_cons, List.length_cons, partsA_len parts _ ys hys]
      · cases h
    · cases h
/-! ### blocks turn, what is read of them stands -/
section
variable {w w' : World} (hc : ∀ b o u, w.cell? ⟨b, o, none⟩ = some u → w'.cell? ⟨b, o, none⟩ = some u)
include hc
theorem cellsAt_turn {Q : Nat → Nat → Prop} {A : Option Addr} {inner : List Value} (h : CellsAt w Q A inner) : CellsAt w' Q A inner := by
  rcases h with h | ⟨ad, hA, hq, hcell⟩
  · exact .inl h
  · refine .inr ⟨ad, hA, hq, fun j u hj => ?_⟩
    have h0 := hcell j u hj
    have hk := addr_key h0
    rw [hk] at h0 ⊢
    exact hc _ _ _ h0
theorem rep_turn {N : Nat → Prop} : ∀ (t : Ty) (x : t.den) (cs : List Value), rep w N t x cs → rep w' N t x cs := by
  intro t
  induction t with
  | int k => exact fun _ _ h => h
  | bool => exact fun _ _ h => h
  | str => exact fun _ _ h => h
  | flt k => exact fun _ _ h => h
  | unit => exact fun _ _ h => h
  | pair a b iha ihb => exact fun x cs ⟨c0, c1, e, h0, h1⟩ => ⟨c0, c1, e, iha _ _ h0, ihb _ _ h1⟩
  | sl e ih =>
    rintro xs cs ⟨A, c, inner, rfl, hl, hr, hcell⟩
    exact ⟨A, c, inner, rfl, hl, repsOf_imp ih xs inner hr, cellsAt_turn hc hcell⟩
theorem V_turn {q : Vw} (hq : q.w = w) (hk : ∀ τ k, q.live τ → q.G τ = some k → w'.heap[k]? = w.heap[k]?) {x : AV} {v : Value} (h : V q x v) : V { q with w := w' } x v := by
  subst hq
  have sl : ∀ {e : Ty} {xs : List e.den} {val : Value}, q.Sl e xs val → Vw.Sl { q with w := w' } e xs val := by
    rintro e xs val ⟨A, c, inner, rfl, hl, hr, hcell⟩
    exact ⟨A, c, inner, rfl, hl, repsOf_imp (rep_turn hc e) xs inner hr, cellsAt_turn hc hcell⟩
  have own : ∀ {τ T} {e : Ty} {xs : List e.den} {val : Value}, q.live τ → q.Own τ T e xs val → Vw.Own { q with w := w' } τ T e xs val := by
    rintro τ T e xs val hl ⟨inner, ho, hb, hr, hE⟩
    exact ⟨inner, own_at ho (fun k hk' => hk τ k hl (hb ▸ hk')), hb, repsOf_imp (rep_turn hc e) xs inner hr, hE⟩
  have v0 : ∀ {x : AV} {val : Value}, V0 q x val → V0 { q with w := w' } x val := by
    intro x val hv
    cases x <;> simp only [V0] at hv ⊢ <;> first | exact hv.elim | exact rep_turn hc _ _ _ hv
  have ro : ∀ {cs : List AV} {val : Value}, q.Ro cs val → Vw.Ro { q with w := w' } cs val := by
    rintro cs val ⟨ad, h0, h1, h2⟩
    refine ⟨ad, h0, h1, fun j x hj => ?_⟩
    obtain ⟨u, hu, hx⟩ := h2 j x hj
    refine ⟨u, ?_, v0 hx⟩
    have hk := addr_key hu
    rw [hk] at hu ⊢
    exact hc _ _ _ hu
  have vp : ∀ (x : AV) (val : Value), Vp q x val → Vp { q with w := w' } x val := by
    intro x val hv
    cases x <;> first | exact hv | exact hv.elim
  have v1 : ∀ {x : AV} {val : Value}, V1 q x val → V1 { q with w := w' } x val := by
    intro x val hv
    cases x with
    | v t x => exact rep_turn hc _ _ _ hv
    | al e xs => exact sl hv
    | own τ T e xs => exact ⟨hv.1, sl hv.2.1, fun hl => own hl (hv.2.2 hl)⟩
    | el τ T e xs i =>
      refine ⟨hv.1, ro hv.2.1, fun hl => ?_⟩
      obtain ⟨hi, g, s, hg, hval, ho⟩ := hv.2.2 hl
      exact ⟨hi, g, s, hg, hval, own hl ho⟩
    | ro cs => exact ro hv
    | fn f caps =>
      obtain ⟨vs, h0, h1⟩ := hv
      exact ⟨vs, h0, all2_imp vp _ _ h1⟩
    | _ => first | exact hv | exact hv.elim
  have v2 : ∀ {x : AV} {val : Value}, V2 q x val → V2 { q with w := w' } x val := by
    intro x val hv
    cases x with
    | agg cs =>
      obtain ⟨vs, h0, h1, h2⟩ := hv
      exact ⟨vs, h0, all2_imp (fun _ _ => v1) _ _ h1, h2⟩
    | _ => simp only [V2] at hv ⊢; exact v1 hv
  cases x with
  | tup xs =>
    obtain ⟨vs, h0, h1⟩ := h
    exact ⟨vs, h0, all2_imp (fun _ _ => v2) _ _ h1⟩
  | _ => simp only [V] at h ⊢; exact v2 h
end
theorem Inv.turn {w0 w w' : World} {Nin : Env} {D : Nat → Prop} {s : St} {m : Mp} {a : Act} (h : Inv w0 Nin D s m a w) (hc : ∀ b o u, w.cell? ⟨b, o, none⟩ = some u → w'.cell? ⟨b, o, none⟩ = some u)
    (hk : ∀ τ k, hasBit s.live τ = true → m.G τ = some k → w'.heap[k]? = w.heap[k]?) (hB : ∀ (b : Nat) (T : TypeId) (cs : List AV), s.bx[b]? = some (some (T, cs)) → w'.heap[m.B b]? = w.heap[m.B b]?)
    (hF : ∀ p ∈ Nin.fr, w'.heap[p.1]? = w.heap[p.1]?) (hs : w'.heap.size = w.heap.size) (hb : Below w0.heap.size w0 w') : Inv w0 Nin D s m a w' ∧ ∀ {x : AV} {v : Value}, V (vw w0 Nin s m w) x v → V (vw w0 Nin s m w') x v := by
  have hq : ({ vw w0 Nin s m w with w := w' } : Vw) = vw w0 Nin s m w' := by
    unfold vw
    rw [hs]
  have hV : ∀ {x : AV} {v : Value}, V (vw w0 Nin s m w) x v → V (vw w0 Nin s m w') x v := fun hv => hq ▸ V_turn hc (q := vw w0 Nin s m w) rfl hk hv
  refine ⟨⟨hb, h.defers, h.tlen, fun i x v h1 h2 => hV (h.tmps i x v h1 h2), fun τ k h1 h2 => by rw [hs]; exact h.toks τ k h1 h2, h.inj, fun b T cs hbx => ?_, h.binj, h.sep, h.uD, h.bD, h.liveU, all2_imp (fun _ _ => hV) _ _ h.ghost, fun p hp => ⟨⟨by rw [hs]; exact (h.frz p hp).1.1, (h.frz p hp).1.2⟩, (hF p hp).trans (h.frz p hp).2⟩, h.ok⟩, hV⟩
  obtain ⟨c1, vs, c2, c3, c4⟩ := h.boxes b T cs hbx
  refine ⟨c1, vs, (hB b T cs hbx).trans c2, ?_, c4⟩
  have hv : V (vw w0 Nin s m w) (.agg cs) (.agg vs.toArray) := ⟨vs, rfl, c3, c4⟩
  obtain ⟨us, e, k1, _⟩ := (show ∃ vs', _ ∧ _ ∧ _ from hV hv)
  have : us = vs := by
    have := Value.agg.inj e
    exact (List.toArray_inj this).symm
  rw [← this]
  exact k1
/-- A slice of the frame's own is given up: it may be read. -/
theorem frz_step (h : Inv w0 Nin D s m a w) {id : Nat} (hl : hasBit s.live id = true) : Inv w0 Nin D { s with live := delBit s.live id } m a w ∧ (vw w0 Nin s m w).To (vw w0 Nin { s with live := delBit s.live id } m w) ∧
    ∀ T e xs val, V (vw w0 Nin s m w) (.own id T e xs) val → V (vw w0 Nin { s with live := delBit s.live id } m w) (.v (.sl e) xs) val := by
  have bits : ∀ τ, hasBit (delBit s.live id) τ = true → hasBit s.live τ = true ∧ id ≠ τ := fun τ hτ => by
    rw [bit_del hl, Bool.and_eq_true] at hτ
    exact ⟨hτ.1, by simpa using hτ.2⟩
  have hN : ∀ b, (vw w0 Nin s m w).N b → (vw w0 Nin { s with live := delBit s.live id } m w).N b := fun b hb => ⟨hb.1, hb.2.1, fun τ hτ => hb.2.2.1 τ (bits τ hτ).1, hb.2.2.2⟩
  have hG : ∀ b, m.G id = some b → (vw w0 Nin { s with live := delBit s.live id } m w).N b := fun b hb => by
    have ht := h.toks id b hl hb
    exact ⟨ht.2, fun hlt => absurd hlt (by omega), fun τ hτ hg => (bits τ hτ).2 (h.inj id τ b hl (bits τ hτ).1 hb hg), fun i T cs hbx => h.sep id b i T cs hl hb hbx⟩
  have hto : (vw w0 Nin s m w).To (vw w0 Nin { s with live := delBit s.live id } m w) := by
    refine ⟨rfl, fun b hb => ⟨hN b hb, rfl⟩, fun b hi hb => ⟨?_, fun _ _ => rfl⟩, fun τ hu => ⟨hu, fun hτ => ⟨(bits τ hτ).1, rfl, rfl, fun _ _ => rfl⟩⟩, fun b hb => ⟨hb, rfl⟩⟩
    rcases hb with hb | ⟨τ, h1, h2, h3⟩
    · exact .inl (hN b hb)
    · by_cases hτ : id = τ
      · subst hτ; exact .inl (hG b h2)
      · refine .inr ⟨τ, ?_, h2, h3⟩
        show hasBit (delBit s.live id) τ = true
        have h1' : hasBit s.live τ = true := h1
        rw [bit_del hl, h1']
        simpa using hτ
  refine ⟨h.next rfl hto h.below (fun τ k hτ hk => h.toks τ k (bits τ hτ).1 hk) (fun τ τ' k h1 h2 h3 h4 => h.inj τ τ' k (bits τ h1).1 (bits τ' h2).1 h3 h4)
    (fun b T cs hb => by
      obtain ⟨c1, vs, c2, c3, c4⟩ := h.boxes b T cs hb
      exact ⟨c1, vs, c2, all2_imp (fun _ _ => hto.v1) _ _ c3, c4⟩) h.binj (fun τ k b T cs hτ hk hb => h.sep τ k b T cs (bits τ hτ).1 hk hb) h.uD h.bD (fun τ hτ => h.liveU τ (bits τ hτ).1), hto, ?_⟩
  intro T e xs val hv
  obtain ⟨hU, ⟨A, c, inner, rfl, hle, hr, hc⟩, hO⟩ := (show _ ∧ _ ∧ _ from hv)
  obtain ⟨_, _, hob, _, _⟩ := hO hl
  refine ⟨A, c, inner, rfl, hle, repsOf_imp (rep_step hto.N e) xs inner hr, ?_⟩
  rcases hc with hc | ⟨ad, rfl, hq, hcell⟩
  · exact .inl hc
  · exact .inr ⟨ad, rfl, hG _ hob.symm, hcell⟩
theorem frzL_sound : ∀ (l : List (Nat × Operand)) (lv : Nat), Inv w0 Nin D { s with live := lv } m a w →
    Inv w0 Nin D { s with live := (frzL lv (l.map fun (i, x) => (i, s.ev x))).2 } m a w ∧ (vw w0 Nin { s with live := lv } m w).To (vw w0 Nin { s with live := (frzL lv (l.map fun (i, x) => (i, s.ev x))).2 } m w) ∧
    all2 (fun (x : Nat × AV) (y : Nat × Value) => x.1 = y.1 ∧ V (vw w0 Nin { s with live := (frzL lv (l.map fun (i, x) => (i, s.ev x))).2 } m w) x.2 y.2) (frzL lv (l.map fun (i, x) => (i, s.ev x))).1 (l.map fun (i, x) => (i, a.eval x))
  | [], lv, h => ⟨h, ⟨rfl, fun b hb => ⟨hb, rfl⟩, fun b hi hb => ⟨hb, fun _ _ => rfl⟩, fun τ hu => ⟨hu, fun hl => ⟨hl, rfl, rfl, fun _ _ => rfl⟩⟩, fun b hb => ⟨hb, rfl⟩⟩, trivial⟩
  | (i, x) :: l, lv, h => by
    have hx := h.ev x
    have hev : St.ev { s with live := lv } x = s.ev x := by cases x <;> rfl
    rw [hev] at hx
    have go : ∀ lv' (y : AV), Inv w0 Nin D { s with live := lv' } m a w → (vw w0 Nin { s with live := lv } m w).To (vw w0 Nin { s with live := lv' } m w) → V (vw w0 Nin { s with live := lv' } m w) y (a.eval x) →
        frzL lv ((i, s.ev x) :: l.map fun (i, x) => (i, s.ev x)) = ((i, y) :: (frzL lv' (l.map fun (i, x) => (i, s.ev x))).1, (frzL lv' (l.map fun (i, x) => (i, s.ev x))).2) →
        Inv w0 Nin D { s with live := (frzL lv ((i, s.ev x) :: l.map fun (i, x) => (i, s.ev x))).2 } m a w ∧ (vw w0 Nin { s with live := lv } m w).To (vw w0 Nin { s with live := (frzL lv ((i, s.ev x) :: l.map fun (i, x) => (i, s.ev x))).2 } m w) ∧
        all2 (fun (p : Nat × AV) (q : Nat × Value) => p.1 = q.1 ∧ V (vw w0 Nin { s with live := (frzL lv ((i, s.ev x) :: l.map fun (i, x) => (i, s.ev x))).2 } m w) p.2 q.2) (frzL lv ((i, s.ev x) :: l.map fun (i, x) => (i, s.ev x))).1 ((i, a.eval x) :: l.map fun (i, x) => (i, a.eval x)) := by
      intro lv' y h1 h2 h3 h4
      rw [h4]
      obtain ⟨k1, k2, k3⟩ := frzL_sound l lv' h1
      refine ⟨k1, ⟨rfl, fun b hb => ⟨(k2.N b (h2.N b hb).1).1, rfl⟩, fun b hi hb => ⟨(k2.R b hi (h2.R b hi hb).1).1, fun _ _ => rfl⟩, fun τ hu => ⟨hu, fun hl => ⟨((h2.L τ hu).2 ((k2.L τ hu).2 hl).1).1, rfl, rfl, fun _ _ => rfl⟩⟩, fun b hb => ⟨hb, rfl⟩⟩, ⟨rfl, k2.v h3⟩, k3⟩
    have self : (vw w0 Nin { s with live := lv } m w).To (vw w0 Nin { s with live := lv } m w) := ⟨rfl, fun b hb => ⟨hb, rfl⟩, fun b hi hb => ⟨hb, fun _ _ => rfl⟩, fun τ hu => ⟨hu, fun hl => ⟨hl, rfl, rfl, fun _ _ => rfl⟩⟩, fun b hb => ⟨hb, rfl⟩⟩
    cases hxx : s.ev x with
    | own id T e xs =>
      rw [hxx] at hx
      by_cases hl : hasBit lv id = true
      · obtain ⟨j1, j2, j3⟩ := frz_step (s := { s with live := lv }) h hl
        have := go (delBit lv id) (.v (.sl e) xs) j1 j2 (j3 T e xs _ hx) (by rw [hxx]; simp only [frzL, if_pos hl])
        rw [hxx] at this
        simpa only [List.map_cons, hxx] using this
      · have := go lv .bad h self trivial (by rw [hxx]; simp only [frzL, if_neg hl])
        rw [hxx] at this
        simpa only [List.map_cons, hxx] using this
    | _ =>
      have := go lv (s.ev x) h self (by rw [hxx] at hx ⊢; exact hx) (by rw [hxx]; simp only [frzL])
      rw [hxx] at this
      simpa only [List.map_cons, hxx] using this
theorem frzP_sound (e : Ty) (hi : Inv w0 Nin D s m a w) (l : List (Nat × Operand)) :
    Inv w0 Nin D { s with live := (frzP e s.live (l.map fun (i, x) => (i, s.ev x))).2 } m a w ∧
    all2 (fun (x : Nat × AV) (y : Nat × Value) => x.1 = y.1 ∧ V (vw w0 Nin { s with live := (frzP e s.live (l.map fun (i, x) => (i, s.ev x))).2 } m w) x.2 y.2) (frzP e s.live (l.map fun (i, x) => (i, s.ev x))).1 (l.map fun (i, x) => (i, a.eval x)) := by
  unfold frzP
  split
  · obtain ⟨h1, _, h3⟩ := frzL_sound (s := s) l s.live hi
    exact ⟨h1, h3⟩
  · exact ⟨hi, parts_V hi l⟩
theorem frzL_len : ∀ (l : List (Nat × AV)) (lv : Nat), (frzL lv l).1.length = l.length
  | [], _ => rfl
  | (i, x) :: l, lv => by
    cases x with
    | own id T e xs =>
      simp only [frzL]
      split
      · simp only [List.length_cons]; rw [frzL_len l]
      · simp only [List.length_cons]; rw [frzL_len l]
    | _ => simp only [frzL, List.length_cons]; rw [frzL_len l]
theorem frzP_len (e : Ty) (lv : Nat) (l : List (Nat × AV)) : (frzP e lv l).1.length = l.length := by
  unfold frzP
  split
  · exact frzL_len l lv
  · rfl
theorem snd_buildSlice {n : Nat} (hn : ¬ D n) {t : TypeId} {len : Nat} {parts : Array (Nat × Operand)} (hop : o.op = .buildSlice t len parts)
    (h : (match elemTy Γ t with
    | some (et, e) => match partsA e 0 (frzP e s.live (parts.toList.map fun (i, x) => (i, s.ev x))).1 with
      | some xs => if Nat.beq parts.size len && Nat.ble (len * e.sz) 1000 && Nat.ble len 1000 then K (St.put { s with live := addBit (frzP e s.live (parts.toList.map fun (i, x) => (i, s.ev x))).2 (8 * n) } o.dst (.own (8 * n) et e xs)) else none
      | none => none
    | none => none) = some r) (hi : Inv w0 Nin D s m a w) : o.wp Γ.P a w (Post K r w0 Nin (fun k => D k ∨ k = n)) Q := by
  split at h
  · rename_i et e hel
    obtain ⟨hu, hty, i, hinf, hsz, hs0, hb0, hbt, z, hz1, hz2⟩ := elemTy_sound hel
    obtain ⟨hi', hpv⟩ := frzP_sound e hi parts.toList
    split at h
    · rename_i xs hxs
      split at h
      · rename_i hb
        rw [Bool.and_eq_true, Bool.and_eq_true] at hb
        have hlen : parts.size = len := Nat.eq_of_beq_eq_true hb.1.1
        have hlim : len * e.sz ≤ 1000 := Nat.le_of_ble_eq_true hb.1.2
        have hlim2 : len ≤ 1000 := Nat.le_of_ble_eq_true hb.2
        have hxl : xs.length = len := by rw [partsA_len _ _ _ hxs, frzP_len, List.length_map, Array.length_toList, hlen]
        obtain ⟨inner, h3, h4⟩ := fill_rows (q := vw w0 Nin { s with live := (frzP e s.live (parts.toList.map fun (i, x) => (i, s.ev x))).2 } m w) (by omega) (frzP e s.live (parts.toList.map fun (i, x) => (i, s.ev x))).1 (parts.toList.map fun (i, x) => (i, a.eval x)) 0 xs [] (madeCells (if len * e.sz = 0 then #[] else z.cells) (len * e.sz)).toList hxs hpv (by simp) (by
          rw [Array.length_toList, size_madeCells, frzP_len, List.length_map, Array.length_toList, hlen])
        have hil := reps_len xs inner h4
        have hg := World.grownBy_alloc w (.cells inner.toArray et) (Option.bind (none : Option Nat) m.G)
        have hown := World.ownsRow_lit (e := et) (size := e.sz) (base := w0.heap.size) w inner.toArray len hi.below.size (by simp only [maxLen]; omega) (by simp [hil, hxl])
        obtain ⟨m', hI, hV⟩ := own_fin (s := { s with live := (frzP e s.live (parts.toList.map fun (i, x) => (i, s.ev x))).2 }) (n := n) (id := 8 * n) (live' := addBit (frzP e s.live (parts.toList.map fun (i, x) => (i, s.ev x))).2 (8 * n)) (xs := xs) (inner := inner) (et := et) (v' := .slice (some ⟨w.heap.size, 0, none⟩) len len) (w' := w.alloc (.cells inner.toArray et)) hi' hn (by omega) none
          (fun t => by rw [bit_add]; simp [Bool.or_comm]) (fun τ hτ => by cases hτ) (by rw [hxl]; exact hown) hg (.inr ⟨_, rfl, Nat.le_refl _⟩) (fun τ k hτ => by cases hτ) (fun τ hτ => by cases hτ) h4
        refine wp_value (v := .slice (some ⟨w.heap.size, 0, none⟩) len len) ?_ ⟨_, m', h, hI.put o.dst hV⟩
        simp only [execOp, hop]
        refine run_v ?_
        have h3' : Instr.fill (fun i => some (i * e.sz, e.sz)) (madeCells (if len * e.sz = 0 then #[] else z.cells) (len * e.sz)) (parts.toList.map fun (i, x) => (i, a.eval x)) = some inner.toArray := by simpa using h3
        have hnot : ¬ (len * e.sz > 2 ^ 24) := by omega
        unfold madeCells at h3'
        simp only [Instr.buildSlice, Sem.run_bind, run_underlying hu, Result.andThen_ok, sizeOf, typeInfo]
        by_cases h0 : len * e.sz = 0
        · simp only [h0, if_true, Array.range_zero', Array.map_empty] at h3'
          simp [hinf, hsz, hnot, h0, h3', newRow, Array.range_zero']
        · simp only [if_neg h0] at h3'
          simp [hinf, hsz, hnot, h0, zeroValue, typeInfo, hz1, h3', newRow]
      · cases h
    · cases h
  · cases h
/-- Bytes converted to themselves. -/
theorem snd_convS {Γ : Ctx} {src dst : TypeId} {x : Operand} (hop : o.op = .convert src dst x) (hss : sameSl Γ.P src dst = true) (h : convS Γ.P dst (s.ev x) s o.dst K = some r) (hi : Inv w0 Nin D s m a w) : o.wp Γ.P a w (Post K r w0 Nin D) Q := by
  have hsd : src = dst := by
    unfold sameSl at hss
    rw [Bool.and_eq_true] at hss
    exact Nat.eq_of_beq_eq_true hss.1
  subst hsd
  unfold convS at h
  split at h
  · rename_i id T xs hx0
    split at h
    · rename_i et h1
      split at h
      · rename_i h2
        split at h
        · rename_i hcond
          rw [Bool.and_eq_true] at hcond
          have hl := hcond.1
          have hpos : 0 < List.length (xs : List Int) := Nat.le_of_ble_eq_true hcond.2
          have hx := hi.ev x
          rw [hx0] at hx
          obtain ⟨hI, hto, hV⟩ := frz_step hi hl
          have hv := hV T (.int .u8) xs _ hx
          obtain ⟨_, _, hO⟩ := (show _ ∧ _ ∧ _ from hx)
          obtain ⟨inner, ho, hob, _, _⟩ := hO hl
          obtain ⟨g, cap, cur, he, hbg, hg, _⟩ : ∃ g cap cur, a.eval x = .slice (some ⟨g, 0, none⟩) xs.length cap ∧ w0.heap.size ≤ g ∧ w.heap[g]? = some (.cells cur T (0, 0)) ∧ True := by
            rcases ho.2 with ⟨_, h0⟩ | ⟨g, cap, cur, e1, e2, e3, _⟩
            · omega
            · exact ⟨g, cap, cur, e1, e2, e3, trivial⟩
          rw [he] at hob hv
          have hG : m.G id = some g := hob.symm
          have hglt : g < w.heap.size := (Array.getElem?_eq_some_iff.1 hg).1
          obtain ⟨w', hw'⟩ : ∃ w', w.freeze ⟨g, cur.size, none⟩ 1 = w' := ⟨_, rfl⟩
          have hheap : ∀ k, k ≠ g → w'.heap[k]? = w.heap[k]? := fun k hk => by
            rw [← hw']
            unfold World.freeze
            rw [if_neg (by decide)]
            show (w.heap.modify g _)[k]? = _
            rw [Array.getElem?_modify, if_neg (fun e => hk e.symm)]
          have hhg : w'.heap[g]? = some (.cells cur T (cur.size, cur.size + 1)) := by
            rw [← hw']
            unfold World.freeze
            rw [if_neg (by decide)]
            show (w.heap.modify g _)[g]? = _
            rw [Array.getElem?_modify, if_pos rfl, hg]
            rfl
          have hsz : w'.heap.size = w.heap.size := by
            rw [← hw']
            unfold World.freeze
            rw [if_neg (by decide)]
            exact Array.size_modify
          have hcell : ∀ b o u, w.cell? ⟨b, o, none⟩ = some u → w'.cell? ⟨b, o, none⟩ = some u := fun b o u hu => by
            by_cases hb : b = g
            · subst hb
              simp only [World.cell?, hg] at hu
              simp only [World.cell?, hhg]
              exact hu
            · rw [cell_of_heap (hheap b hb)]
              exact hu
          have bits : ∀ τ, hasBit (delBit s.live id) τ = true → hasBit s.live τ = true ∧ id ≠ τ := fun τ hτ => by
            rw [bit_del hl, Bool.and_eq_true] at hτ
            exact ⟨hτ.1, by simpa using hτ.2⟩
          have hbelow : Below w0.heap.size w0 w' := by
            refine hi.below.trans ⟨?_, ?_, ?_, by rw [hsz]; exact Nat.le_refl _, fun k hk => hheap k (by omega)⟩ <;> (rw [← hw']; unfold World.freeze; rw [if_neg (by decide)])
          obtain ⟨hI2, hV2⟩ := hI.turn hcell (fun τ k hτ hk => hheap k (fun e => (bits τ hτ).2 (hi.inj id τ g hl (bits τ hτ).1 hG (e ▸ hk)))) (fun b T' cs hb => hheap _ (hi.sep id g b T' cs hl hG hb)) (fun p hp => hheap _ (fun e => (hi.frz p hp).1.2.2.1 id hl (e ▸ hG))) hsz hbelow
          refine wp_value (v := a.eval x) (w' := w') ?_ ⟨_, m, h, hI2.put o.dst (by rw [he]; exact hV2 hv)⟩
          simp only [execOp, hop]
          refine run_v ?_
          rw [he]
          have hshape : w.shape? g = some (T, cur.size) := by unfold World.shape?; rw [hg]
          simp [convert, run_underlying h1, run_underlying h2, markStringish, hshape, hw']
        · cases h
      · cases h
    · cases h
  · cases h
/-- A text's bytes: a row that may be read. -/
theorem snd_strBytes {Γ : Ctx} {src dst : TypeId} {x : Operand} (hop : o.op = .convert src dst x) {b : ByteArray} {et : TypeId} (h1 : s.ev x = .v .str b) (h2 : Γ.P.underlying src = some .string) (h3 : Γ.P.underlying dst = some (.slice et))
    (h : (match Γ.P.underlying et with | some (.int .u8) => K (s.put o.dst (.v (.sl (.int .u8)) (bytesL b))) | _ => none) = some r) (hi : Inv w0 Nin D s m a w) : o.wp Γ.P a w (Post K r w0 Nin D) Q := by
  split at h
  · rename_i h4
    have hx := hi.ev x
    rw [h1] at hx
    have ex := V_str hx
    have hrun := run_bytes_of_string w src dst et b h2 h3 h4
    generalize hc : grownCap w b.size 0 et = cap at hrun
    have hcap : b.size ≤ cap := hc ▸ grownCap_ge w b.size 0 et
    have hrow : (bytesRow b cap).toList = (bytesL b).map (Value.int .u8) ++ List.replicate (cap - b.size) (.int .u8 0) := by
      unfold bytesRow bytesL
      simp [Function.comp_def]
    have hlen : (bytesL b).length = b.size := by unfold bytesL; simp
    obtain ⟨C, hC⟩ : ∃ C, bytesRow b cap = C := ⟨_, rfl⟩
    rw [hC] at hrun hrow
    obtain ⟨w', hw'⟩ : ∃ w', w.drew.alloc (.cells C et (C.size, C.size + 1)) = w' := ⟨_, rfl⟩
    rw [hw'] at hrun
    have hg : w.grownBy w' ((none : Option Nat).bind m.G) := by
      rw [← hw']
      have h0 := World.grownBy_alloc w (.cells C et (C.size, C.size + 1)) none
      exact ⟨h0.os, h0.tape, h0.output, h0.size, h0.block⟩
    have hnew : w'.heap[w.heap.size]? = some (.cells C et (C.size, C.size + 1)) := by
      rw [← hw']
      show (w.heap.push _)[w.heap.size]? = _
      simp
    have hsz : w'.heap.size = w.heap.size + 1 := by
      rw [← hw']
      show (w.heap.push _).size = _
      simp
    obtain ⟨hto, hI⟩ := grow_step (s' := s) (m' := m) (w' := w') (D' := D) hi rfl rfl rfl none (fun τ hτ => by cases hτ) hg (hi.below.grown hg (by have := hi.below.size; omega) (fun k hk => by cases hk)) (fun τ h => h) (fun τ _ => ⟨rfl, rfl⟩)
      (fun τ _ hl => ⟨hl, by simp⟩) (fun τ hl _ => hl) (fun τ k hu hl => absurd (hi.liveU τ hl) hu) (fun τ τ' k hu _ hl => absurd (hi.liveU τ hl) hu) (fun τ k hτ => by cases hτ) hi.uD (fun n h => h) hi.liveU
    refine wp_value (v := .slice (some ⟨w.heap.size, 0, none⟩) b.size cap) ?_ ⟨_, m, h, hI.put o.dst ?_⟩
    · simp only [execOp, hop]
      refine run_v ?_
      rw [ex]
      exact hrun
    · refine ⟨some ⟨w.heap.size, 0, none⟩, cap, (bytesL b).map (Value.int .u8), by rw [hlen], by rw [hlen]; exact hcap, ?_, .inr ⟨_, rfl, ?_, fun j u hj => ?_⟩⟩
      · generalize bytesL b = l
        induction l with
        | nil => rfl
        | cons c l ih => exact ⟨[.int .u8 c], l.map (Value.int .u8), rfl, rfl, ih⟩
      · refine ⟨show w.heap.size < w'.heap.size by omega, fun hlt => absurd (show w.heap.size < w0.heap.size from hlt) (by have := hi.below.size; omega), fun τ hτ hk => ?_, fun i T cs hb he => ?_⟩
        · have : w.heap.size < w.heap.size := (hi.toks τ _ hτ hk).2
          omega
        · obtain ⟨_, vs, hh, _⟩ := hi.boxes i T cs hb
          have := (Array.getElem?_eq_some_iff.1 hh).1
          have he' : m.B i = w.heap.size := he
          omega
      · have hj' : C[j]? = some u := by
          rw [← Array.getElem?_toList, hrow, List.getElem?_append_left (List.getElem?_eq_some_iff.1 hj).1]
          exact hj
        have : (⟨w.heap.size, 0, none⟩ : Addr).add j = ⟨w.heap.size, j, none⟩ := by unfold Addr.add; split <;> simp_all
        show w'.cell? _ = _
        rw [this]
        simp [World.cell?, hnew, hj']
  · cases h
end
end Go.Eng
/- ENGINE, part J: make, boxes, stores. -/
namespace Go.Eng
open Go Go.RowKit
theorem made_succ (z : Array Value) (k : Nat) (hk : z.size = k) (n : Nat) : (madeCells z ((n + 1) * k)).toList = z.toList ++ (madeCells z (n * k)).toList := by
  unfold madeCells
  simp only [Array.toList_map, Array.toList_range]
  rw [Nat.succ_mul, Nat.add_comm, List.range_add, List.map_append]
  congr 1
  · apply List.ext_getElem
    · simp [hk]
    · intro i h1 h2
      have hi : i < k := by simpa using h1
      simp only [List.getElem_map, List.getElem_range, hk, Nat.mod_eq_of_lt hi]
      rw [getElem!_pos z i (by omega)]
      simp
  · rw [List.map_map]
    apply List.map_congr_left
    intro i _
    simp only [Function.comp, hk, Nat.add_mod_left]
section
variable {R : Type} {Γ : Ctx} {P : Program} {w0 : World} {Nin : Env} {D : Nat → Prop} {s : St} {m : Mp} {a : Act} {w : World} {o : Oper} {K : St → Option R} {r : R} {Q : Exit → Act → World → Prop}
theorem reps_made {q : Vw} {e : Ty} {x : e.den} {z : Array Value} (hr : rep q.w q.N e x z.toList) : ∀ n : Nat, repsOf (rep q.w q.N e) (List.replicate n x) (madeCells z (n * e.sz)).toList := by
  have hk : z.size = e.sz := by rw [← rep_len _ _ _ hr, Array.length_toList]
  intro n
  induction n with
  | zero => show _ = _; rw [Nat.zero_mul]; simp [madeCells]
  | succ n ih => exact ⟨z.toList, _, made_succ z e.sz hk n, hr, ih⟩
theorem snd_makeSlice {n : Nat} (hn : ¬ D n) {t : TypeId} {l c : Operand} (hop : o.op = .makeSlice t l c)
    (h : (match elemTy Γ t, s.ev l, s.ev c with
    | some (et, e), .v (.int .i64) a, .v (.int .i64) b => match (Γ.P.info? et).bind (·.zero) with
      | some z => match (ofConst z).asTy e with
        | some x => if (0 : Int) ≤ a ∧ (a : Int) = b ∧ (b : Int) * (bytesT Γ.P et : Int) ≤ (roomOk : Int) then
            K (St.put { s with live := addBit s.live (8 * n) } o.dst (.own (8 * n) et e (List.replicate (Int.toNat a) x))) else none
        | none => none
      | none => none
    | _, _, _ => none) = some r) (hi : Inv w0 Nin D s m a w) : o.wp Γ.P a w (Post K r w0 Nin (fun k => D k ∨ k = n)) Q := by
  have hl := hi.ev l
  have hc := hi.ev c
  split at h
  · rename_i et e x y hel h1 h2
    rw [h1] at hl
    rw [h2] at hc
    have hl' := V_int hl
    have hc' := V_int hc
    obtain ⟨hu, hty, i, hinf, hsz, hs0, hb0, hbt, _⟩ := elemTy_sound hel
    split at h
    · rename_i z hz
      split at h
      · rename_i zx hzx
        split at h
        · rename_i hcond
          obtain ⟨c1, c2, c3⟩ := hcond
          have hz' : i.zero = some z := by rw [hinf] at hz; exact hz
          have hrep := asTy_V (q := vw w0 Nin s m w) hzx (V_ofConst _ z)
          have hn0 : ((Int.toNat x : Nat) : Int) = x := Int.toNat_of_nonneg c1
          rw [hbt, ← c2, ← hn0] at c3
          have hroom : i.bytes * Int.toNat x ≤ 140737488355328 := by
            have : ((Int.toNat x * i.bytes : Nat) : Int) ≤ ((140737488355328 : Nat) : Int) := by rw [Int.natCast_mul]; exact c3
            rw [Nat.mul_comm]
            omega
          have hx : Int.toNat x ≤ 140737488355328 := Nat.le_trans (Nat.le_mul_of_pos_left _ hb0) hroom
          obtain ⟨w', hrun, hown, hg⟩ := run_make_full (P := Γ.P) w w0.heap.size t et i z e.sz hu hinf hz' hsz .i64 .i64 (Int.toNat x) (by omega) (by simp only [maxLen]; omega) hi.below.size
          obtain ⟨m', hI, hV⟩ := own_fin (n := n) (id := 8 * n) (live' := addBit s.live (8 * n)) (xs := List.replicate (Int.toNat x) zx) (inner := (madeCells z.cells (Int.toNat x * e.sz)).toList) hi hn (by omega) none
            (fun t => by rw [bit_add]; simp [Bool.or_comm]) (fun τ hτ => by cases hτ) (by rw [List.length_replicate]; exact hown) hg (.inr ⟨_, rfl, Nat.le_refl _⟩) (fun τ k hτ => by cases hτ) (fun τ hτ => by cases hτ) (reps_made (q := vw w0 Nin s m w) hrep _)
          refine wp_value (w' := w') ?_ ⟨_, m', h, hI.put o.dst hV⟩
          simp only [execOp, hop]
          refine run_v ?_
          rw [hl', hc', ← c2, ← hn0]
          exact hrun
        · cases h
      · cases h
    · cases h
  · cases h
/-! ### boxes -/
theorem box_step (h : Inv w0 Nin D s m a w) {n : Nat} (hn : ¬ D n) (hlt : n < s.bx.length) {T : TypeId} {cs : List AV} {vs : List Value} (h2 : all2 (V1 (vw w0 Nin s m w)) cs vs) (h1 : ∀ u ∈ vs, u.oneCell' = true) :
    ∃ m', Inv w0 Nin (fun k => D k ∨ k = n) { s with bx := s.bx.set n (some (T, cs)) } m' a (w.alloc (.cells vs.toArray T)) ∧
      V (vw w0 Nin { s with bx := s.bx.set n (some (T, cs)) } m' (w.alloc (.cells vs.toArray T))) (.ptr n 0) (.pointer (some ⟨w.heap.size, 0, none⟩)) := by
  have hget : ∀ (b : Nat) (x : TypeId × List AV), (s.bx.set n (some (T, cs)))[b]? = some (some x) → (b = n ∧ x = (T, cs)) ∨ (b ≠ n ∧ s.bx[b]? = some (some x)) := by
    intro b x hb
    by_cases he : n = b
    · subst he
      rw [List.getElem?_set_self hlt] at hb
      simp only [Option.some.injEq] at hb
      exact .inl ⟨rfl, hb.symm⟩
    · rw [List.getElem?_set_ne he] at hb
      exact .inr ⟨fun h => he h.symm, hb⟩
  have hsz : w0.heap.size ≤ w.heap.size := h.below.size
  have hold : ∀ k, k < w.heap.size → (w.alloc (.cells vs.toArray T)).heap[k]? = w.heap[k]? := fun k hk => Below.heap_alloc w _ k hk
  have hbo : ∀ (b : Nat) (T : TypeId) (cs : List AV), s.bx[b]? = some (some (T, cs)) → b ≠ n ∧ m.B b < w.heap.size := by
    intro b T cs hb
    obtain ⟨_, vs, hh, _⟩ := h.boxes b T cs hb
    exact ⟨fun he => hn (he ▸ h.bD b T cs hb), (Array.getElem?_eq_some_iff.1 hh).1⟩
  refine ⟨{ m with B := fun i => if i = n then w.heap.size else m.B i }, ?_⟩
  have hto : (vw w0 Nin s m w).To (vw w0 Nin { s with bx := s.bx.set n (some (T, cs)) } { m with B := fun i => if i = n then w.heap.size else m.B i } (w.alloc (.cells vs.toArray T))) := by
    have hN : ∀ b, (vw w0 Nin s m w).N b → (vw w0 Nin { s with bx := s.bx.set n (some (T, cs)) } { m with B := fun i => if i = n then w.heap.size else m.B i } (w.alloc (.cells vs.toArray T))).N b ∧ (w.alloc (.cells vs.toArray T)).heap[b]? = w.heap[b]? := by
      rintro b ⟨c1, c2, c3, c4⟩
      refine ⟨⟨by show b < (w.alloc (.cells vs.toArray T)).heap.size; rw [World.size_alloc]; omega, c2, c3, fun i T' cs' hb => ?_⟩, hold b c1⟩
      rcases hget i _ hb with ⟨rfl, _⟩ | ⟨hne, hb'⟩
      · show (if i = i then w.heap.size else m.B i) ≠ b
        rw [if_pos rfl]; exact fun he => by subst he; exact Nat.lt_irrefl _ c1
      · show (if i = n then w.heap.size else m.B i) ≠ b
        rw [if_neg hne]; exact c4 i T' cs' hb'
    refine ⟨rfl, hN, ?_, ?_, ?_⟩
    · rintro b hi' (hb | ⟨τ, hl, hG, hE⟩)
      · exact ⟨.inl (hN b hb).1, fun o _ => cell_of_heap (hN b hb).2⟩
      · exact ⟨.inr ⟨τ, hl, hG, hE⟩, fun o _ => cell_of_heap (hold b (h.toks τ b hl hG).2)⟩
    · exact fun τ hu => ⟨hu, fun hl => ⟨hl, rfl, rfl, fun k hk => hold k (h.toks τ k hl hk).2⟩⟩
    · rintro b ⟨T', cs', hb⟩
      obtain ⟨hne, _⟩ := hbo b T' cs' hb
      refine ⟨⟨T', cs', ?_⟩, if_neg hne⟩
      show (s.bx.set n (some (T, cs)))[b]? = _
      rw [List.getElem?_set_ne (fun he => hne he.symm)]
      exact hb
  refine ⟨h.next (s' := { s with bx := s.bx.set n (some (T, cs)) }) (m' := { m with B := fun i => if i = n then w.heap.size else m.B i }) rfl hto (h.below.alloc hsz _) ?_ h.inj ?_ ?_ ?_ (fun τ hu => .inl (h.uD τ hu)) ?_ h.liveU, ?_⟩
  · intro τ k hl hG
    have := h.toks τ k hl hG
    exact ⟨this.1, by rw [World.size_alloc]; omega⟩
  · intro b T' cs' hb
    rcases hget b _ hb with ⟨rfl, he⟩ | ⟨hne, hb'⟩
    · simp only [Prod.mk.injEq] at he
      obtain ⟨rfl, rfl⟩ := he
      refine ⟨by show _ ≤ (if b = b then w.heap.size else m.B b); rw [if_pos rfl]; exact hsz, vs, ?_, all2_imp (fun _ _ => hto.v1) _ _ h2, h1⟩
      show (w.alloc _).heap[if b = b then w.heap.size else m.B b]? = _
      rw [if_pos rfl]
      exact heap_alloc_new w _
    · obtain ⟨c1, us, c2, c3, c4⟩ := h.boxes b T' cs' hb'
      refine ⟨by show _ ≤ (if b = n then w.heap.size else m.B b); rw [if_neg hne]; exact c1, us, ?_, all2_imp (fun _ _ => hto.v1) _ _ c3, c4⟩
      show (w.alloc _).heap[if b = n then w.heap.size else m.B b]? = _
      rw [if_neg hne, hold _ (hbo b T' cs' hb').2]
      exact c2
  · intro b T1 cs1 b' T2 cs2 hb hb' he
    have he' : (if b = n then w.heap.size else m.B b) = (if b' = n then w.heap.size else m.B b') := he
    rcases hget b _ hb with ⟨rfl, _⟩ | ⟨hne, hb1⟩
    · rcases hget b' _ hb' with ⟨rfl, _⟩ | ⟨hne', hb2⟩
      · rfl
      · rw [if_pos rfl, if_neg hne'] at he'
        have := (hbo b' T2 cs2 hb2).2; omega
    · rcases hget b' _ hb' with ⟨rfl, _⟩ | ⟨hne', hb2⟩
      · rw [if_pos rfl, if_neg hne] at he'
        have := (hbo b T1 cs1 hb1).2; omega
      · rw [if_neg hne, if_neg hne'] at he'
        exact h.binj b T1 cs1 b' T2 cs2 hb1 hb2 he'
  · intro τ k b T' cs' hl hG hb
    show (if b = n then w.heap.size else m.B b) ≠ k
    rcases hget b _ hb with ⟨rfl, _⟩ | ⟨hne, hb'⟩
    · rw [if_pos rfl]
      have := (h.toks τ k hl hG).2; omega
    · rw [if_neg hne]; exact h.sep τ k b T' cs' hl hG hb'
  · intro b T' cs' hb
    rcases hget b _ hb with ⟨rfl, _⟩ | ⟨_, hb'⟩
    · exact .inr rfl
    · exact .inl (h.bD b T' cs' hb')
  · refine ⟨?_, T, cs, ?_⟩
    · show _ = Value.pointer (some ⟨if n = n then w.heap.size else m.B n, 0, none⟩)
      rw [if_pos rfl]
    · show (s.bx.set n (some (T, cs)))[n]? = _
      rw [List.getElem?_set_self hlt]
theorem snd_box {n : Nat} (hn : ¬ D n) {T : TypeId} {x : Operand} (hop : o.op = .box T x) (h : (match sizedCells P T (s.ev x) with
    | some cs => if Nat.blt n s.bx.length then K (St.put { s with bx := s.bx.set n (some (T, cs)) } o.dst (.ptr n 0)) else none
    | none => none) = some r) (hi : Inv w0 Nin D s m a w) : o.wp P a w (Post K r w0 Nin (fun k => D k ∨ k = n)) Q := by
  split at h
  · rename_i cs hcs
    split at h
    · rename_i hb
      obtain ⟨_, vs, hv, h2, h1⟩ := sizedCells_V hcs (hi.ev x)
      obtain ⟨m', hI, hV⟩ := box_step (n := n) hi hn (Nat.le_of_ble_eq_true hb) (T := T) h2 h1
      refine wp_value ?_ ⟨_, m', h, hI.put o.dst hV⟩
      simp only [execOp, hop]
      refine run_v ?_
      simp [Instr.box, newVar, newRow, newObj, Sem.run, hv]
    · cases h
  · cases h
theorem noneAt_lt {bx : List (Option (TypeId × List AV))} {n : Nat} (h : noneAt bx n = true) : n < bx.length := by
  unfold noneAt at h
  cases hb : bx[n]? with
  | none => rw [hb] at h; cases h
  | some _ => exact (List.getElem?_eq_some_iff.1 hb).1
theorem snd_alloc {n : Nat} (hn : ¬ D n) {T : TypeId} (hop : o.op = .alloc T) (h : (match (P.info? T).bind (·.zero) with
    | some z => match sizedCells P T (ofConst z) with
      | some cs => if noneAt s.bx n then K (St.put { s with bx := s.bx.set n (some (T, cs)) } o.dst (.ptr n 0)) else none
      | none => none
    | none => none) = some r) (hi : Inv w0 Nin D s m a w) : o.wp P a w (Post K r w0 Nin (fun k => D k ∨ k = n)) Q := by
  split at h
  · rename_i z hz
    split at h
    · rename_i cs hcs
      split at h
      · rename_i hb
        obtain ⟨_, vs, hv, h2, h1⟩ := sizedCells_V hcs (V_ofConst (vw w0 Nin s m w) z)
        obtain ⟨m', hI, hV⟩ := box_step (n := n) hi hn (noneAt_lt hb) (T := T) h2 h1
        refine wp_value ?_ ⟨_, m', h, hI.put o.dst hV⟩
        simp only [execOp, hop]
        refine run_v ?_
        cases hinf : P.info? T with
        | none => rw [hinf] at hz; cases hz
        | some inf =>
          rw [hinf] at hz
          have hz' : inf.zero = some z := hz
          simp [Instr.alloc, zeroValue, typeInfo, hinf, hz', newVar, newRow, newObj, Sem.run, hv]
      · cases h
    · cases h
  · cases h
theorem all2_map {α β γ : Type} {r : α → β → Prop} {r' : γ → β → Prop} {f : α → γ} (h : ∀ x y, r x y → r' (f x) y) : ∀ (xs : List α) (ys : List β), all2 r xs ys → all2 r' (xs.map f) ys
  | [], [], _ => trivial
  | _ :: xs, _ :: ys, ⟨h0, h1⟩ => ⟨h _ _ h0, all2_map h xs ys h1⟩
theorem V2_of_V1' {q : Vw} {x : AV} {v : Value} (h : V1 q x v) : V2 q x v := by
  cases x with
  | agg _ => exact h.elim
  | _ => exact h
theorem V_of_V1' {q : Vw} {x : AV} {v : Value} (h : V1 q x v) : V q x v := by
  cases x with
  | agg _ => exact h.elim
  | tup _ => exact h.elim
  | _ => exact h
theorem repsOf_set {α : Type} {r : α → List Value → Prop} {n : Nat} (h : ∀ x cs, r x cs → cs.length = n) : ∀ (xs : List α) (cs : List Value) (i : Nat) (y : α) (c : List Value), repsOf r xs cs → i < xs.length → r y c →
    repsOf r (xs.set i y) (cs.take (i * n) ++ c ++ cs.drop (i * n + n))
  | [], _, i, _, _, _, hi, _ => absurd hi (Nat.not_lt_zero _)
  | x :: xs, _, 0, y, c, ⟨c0, c1, e, h0, h1⟩, _, hy => by
    have hl := h _ _ h0
    refine ⟨c, c1, ?_, hy, h1⟩
    rw [Nat.zero_mul, List.take_zero, List.nil_append, Nat.zero_add, e, List.drop_append, hl, Nat.sub_self, List.drop_zero, List.drop_of_length_le (by omega), List.nil_append]
  | x :: xs, _, i + 1, y, c, ⟨c0, c1, e, h0, h1⟩, hi, hy => by
    have hl := h _ _ h0
    have ih := repsOf_set h xs c1 i y c h1 (by simpa using hi) hy
    refine ⟨c0, _, ?_, h0, ih⟩
    rw [e, Nat.succ_mul, List.take_append, List.drop_append, hl, show i * n + n - n = i * n by omega, show i * n + n + n - n = i * n + n by omega, List.take_of_length_le (l := c0) (by omega), List.drop_of_length_le (l := c0) (by omega)]
    simp
theorem wr_take {cur nvs : List Value} {off k n : Nat} (hk : nvs.length = k) (h1 : off + k ≤ n) (h2 : n ≤ cur.length) :
    (cur.take off ++ nvs ++ cur.drop (off + k)).take n = (cur.take n).take off ++ nvs ++ (cur.take n).drop (off + k) := by
  have e1 : (cur.take off ++ nvs).length = off + k := by rw [List.length_append, List.length_take, hk]; omega
  rw [List.take_append, e1, List.take_of_length_le (by omega), List.take_take, Nat.min_eq_left (by omega), List.drop_take]
/-- A write to an element of a slice of the frame's own. -/
theorem wr_step (hi : Inv w0 Nin D s m a w) {id i : Nat} {e : Ty} {T : TypeId} {xs : List e.den} {v : Value} {y : e.den} {nvs : List Value} (hel : V (vw w0 Nin s m w) (.el id T e xs i) v) (hl : hasBit s.live id = true)
    (hry : rep w (vw w0 Nin s m w).N e y nvs) (hpos0 : 0 < nvs.length) : ∃ g cur T', v = .pointer (some ⟨g, i * e.sz, none⟩) ∧ w.heap[g]? = some (.cells cur T' (0, 0)) ∧ i * e.sz + nvs.length ≤ cur.size ∧
      Inv w0 Nin D (wrSt s id i e y) m a (w.setRow g (cur.toList.take (i * e.sz) ++ nvs ++ cur.toList.drop (i * e.sz + nvs.length)).toArray) := by
  obtain ⟨hU, _, hlv⟩ := (show _ ∧ _ ∧ _ from hel)
  obtain ⟨hlt, g, sl, hG, hv, inner, hown, hb, hr, hE⟩ := hlv hl
  have hown0 := hown
  rcases hown.2 with ⟨rfl, hn⟩ | ⟨g', cap, cur, rfl, hbg, hg, hnc, hcm, hcs, htake⟩
  · exact absurd hlt (by rw [hn]; exact Nat.not_lt_zero _)
  have hG' : m.G id = some g := hG
  have hgg : g' = g := by
    have hb' : Value.ownBlock (.slice (some ⟨g', 0, none⟩) (List.length xs) cap) = m.G id := hb
    rw [hG'] at hb'
    simpa [Value.ownBlock] using hb'
  subst hgg
  replace hg : w.heap[g']? = some (.cells cur T (0, 0)) := hg
  have hnl : nvs.length = e.sz := rep_len _ _ _ hry
  have hpos : 0 < e.sz := hnl ▸ hpos0
  have hge : (i + 1) * e.sz ≤ xs.length * e.sz := Nat.mul_le_mul_right _ hlt
  have hce : xs.length * e.sz ≤ cap * e.sz := Nat.mul_le_mul_right _ hnc
  have hfit : i * e.sz + nvs.length ≤ cur.size := by rw [hnl, hcs]; rw [Nat.succ_mul] at hge; omega
  refine ⟨g', cur, T, hv, hg, hfit, ?_⟩
  generalize hw' : w.setRow g' (cur.toList.take (i * e.sz) ++ nvs ++ cur.toList.drop (i * e.sz + nvs.length)).toArray = w'
  have hnew : w'.heap[g']? = some (.cells (cur.toList.take (i * e.sz) ++ nvs ++ cur.toList.drop (i * e.sz + nvs.length)).toArray T (0, 0)) := by rw [← hw']; exact setRow_heap w _ _ _ _ _ hg
  have hother : ∀ k, k ≠ g' → w'.heap[k]? = w.heap[k]? := fun k hk => by rw [← hw']; exact setRow_other w _ k _ hk
  have hsame : w'.os = w.os ∧ w'.tape = w.tape ∧ w'.output = w.output ∧ w'.heap.size = w.heap.size := by rw [← hw']; exact ⟨rfl, rfl, rfl, by simp [World.setRow]⟩
  have hbx : ∀ (b : Nat) (T : TypeId) (cs' : List AV), (wrSt s id i e y).bx[b]? = some (some (T, cs')) → ∃ cs, s.bx[b]? = some (some (T, cs)) ∧ cs' = cs.map (wrCell s.live id i e y) := by
    intro b T cs' h
    have h' : (s.bx.map (Option.map fun p => (p.1, p.2.map (wrCell s.live id i e y))))[b]? = some (some (T, cs')) := h
    rw [List.getElem?_map] at h'
    cases hs : s.bx[b]? with
    | none => rw [hs] at h'; cases h'
    | some p =>
      rw [hs] at h'
      cases p with
      | none => cases h'
      | some p =>
        simp only [Option.map_some, Option.some.injEq, Prod.mk.injEq] at h'
        obtain ⟨rfl, rfl⟩ := h'
        exact ⟨p.2, rfl, rfl⟩
  have hbx' : ∀ (b : Nat) (T : TypeId) (cs : List AV), s.bx[b]? = some (some (T, cs)) → (wrSt s id i e y).bx[b]? = some (some (T, cs.map (wrCell s.live id i e y))) := by
    intro b T cs h
    show (s.bx.map (Option.map fun p => (p.1, p.2.map (wrCell s.live id i e y))))[b]? = _
    rw [List.getElem?_map, h]; rfl
  have hN : ∀ b, (vw w0 Nin s m w).N b → (vw w0 Nin (wrSt s id i e y) m w').N b ∧ w'.heap[b]? = w.heap[b]? := by
    rintro b ⟨c1, c2, c3, c4⟩
    refine ⟨⟨by show b < w'.heap.size; rw [hsame.2.2.2]; exact c1, c2, c3, fun k T1 cs1 hz => ?_⟩, hother b (fun he => c3 id hl (he ▸ hG'))⟩
    obtain ⟨cs0, h0, _⟩ := hbx k T1 cs1 hz
    exact c4 k T1 cs0 h0
  have own_id : ∀ (T2 : TypeId) (ys : List e.den) (val : Value), (vw w0 Nin s m w).Own id T2 e ys val → (vw w0 Nin (wrSt s id i e y) m w').Own id T2 e (ys.set i y) val ∧ i < ys.length := by
    rintro T2 ys val ⟨inner2, hown2, hb2, hr2, hE2⟩
    have hlen : ys.length * e.sz = xs.length * e.sz := by
      have h1 := reps_len ys inner2 hr2
      have h2 := reps_len xs inner hr
      have h3 : inner2.length = inner.length := hE2.symm.trans hE
      omega
    rcases hown2.2 with ⟨rfl, hn⟩ | ⟨g2, cap2, cur2, rfl, hbg2, hg2, hnc2, hcm2, hcs2, htake2⟩
    · have hb2' : none = m.G id := hb2
      rw [hG'] at hb2'; cases hb2'
    have hg2g : g2 = g' := by
      have hb2' : Value.ownBlock (.slice (some ⟨g2, 0, none⟩) (List.length ys) cap2) = m.G id := hb2
      rw [hG'] at hb2'
      simpa [Value.ownBlock] using hb2'
    subst hg2g
    have hg2' : w.heap[g2]? = some (.cells cur2 T2 (0, 0)) := hg2
    rw [hg] at hg2'
    simp only [Option.some.injEq, Obj.cells.injEq] at hg2'
    obtain ⟨rfl, rfl, _⟩ := hg2'
    have hly : ys.length = xs.length := Nat.eq_of_mul_eq_mul_right hpos hlen
    have hiy : i < ys.length := by rw [hly]; exact hlt
    have hle : i * e.sz + e.sz ≤ ys.length * e.sz := by rw [← Nat.succ_mul]; exact Nat.mul_le_mul_right _ hiy
    have hnc2' : ys.length * e.sz ≤ cap2 * e.sz := Nat.mul_le_mul_right _ hnc2
    have hset := repsOf_set (rep_len e) ys inner2 i y nvs hr2 hiy hry
    have htk : (cur.toList.take (i * e.sz) ++ nvs ++ cur.toList.drop (i * e.sz + nvs.length)).take (ys.length * e.sz) = inner2.take (i * e.sz) ++ nvs ++ inner2.drop (i * e.sz + e.sz) := by
      have hcs2' : cur.toList.length = cap2 * e.sz := by rw [Array.length_toList]; exact hcs2
      rw [hnl, wr_take hnl hle (by rw [hcs2']; exact hnc2'), htake2]
    refine ⟨⟨inner2.take (i * e.sz) ++ nvs ++ inner2.drop (i * e.sz + e.sz), ⟨?_, .inr ⟨g2, cap2, _, by rw [List.length_set], hbg2, hnew, by rw [List.length_set]; exact hnc2, hcm2, ?_, ?_⟩⟩, hb2, repsOf_imp (rep_step hN e) _ _ hset, ?_⟩, hiy⟩
    · rw [← htk, List.length_take, List.length_set]
      simp only [List.length_append, List.length_take, List.length_drop, Array.length_toList, hnl, hcs2]
      omega
    · simp only [List.size_toArray, List.length_append, List.length_take, List.length_drop, Array.length_toList, hnl, hcs2]
      omega
    · rw [List.length_set]; simpa using htk
    · show m.E id = _
      rw [show m.E id = inner2.length from hE2, List.length_append, List.length_append, List.length_take, List.length_drop, hnl, hown2.1]
      omega
  have own_ne : ∀ (j : Nat) (T2 : TypeId) (e2 : Ty) (ys : List e2.den) (val : Value), j ≠ id → hasBit s.live j = true → (vw w0 Nin s m w).Own j T2 e2 ys val → (vw w0 Nin (wrSt s id i e y) m w').Own j T2 e2 ys val := by
    rintro j T2 e2 ys val hne hlj ⟨inner2, hown2, hb2, hr2, hE2⟩
    refine ⟨inner2, own_at hown2 (fun k hk => hother k (fun he => hne ?_)), hb2, repsOf_imp (rep_step hN e2) _ _ hr2, hE2⟩
    have hGj : m.G j = some g' := by rw [← he]; exact hb2.symm.trans hk
    exact hi.inj j id g' hlj hl hGj hG'
  have cast_id : ∀ {e2 : Ty} {y2 : e2.den}, (Ty.cast (a := e) (b := e2) y : Option e2.den) = some y2 → ∃ h : e = e2, h ▸ y = y2 := by
    intro e2 y2 hc
    unfold Ty.cast at hc
    split at hc
    · rename_i hs
      have he := Ty.same_eq hs
      subst he
      simp only [Option.some.injEq] at hc
      exact ⟨rfl, hc⟩
    · cases hc
  have hv1 : ∀ (x : AV) (u : Value), V1 (vw w0 Nin s m w) x u → V1 (vw w0 Nin (wrSt s id i e y) m w') (wrCell s.live id i e y x) u := by
    intro x u hx
    cases x with
    | v t z => exact rep_step hN t z [u] hx
    | nilS => exact hx
    | raw v => exact hx
    | fn f caps =>
      obtain ⟨vs, h0, h1⟩ := hx
      refine ⟨vs, h0, all2_imp (fun c z hz => ?_) _ _ h1⟩
      cases c with
      | ptr b off =>
        obtain ⟨h2, T1, cs1, h3⟩ := hz
        exact ⟨h2, T1, _, hbx' b T1 cs1 h3⟩
      | raw v => exact hz
      | bad => trivial
      | _ => exact hz.elim
    | ptr b off =>
      obtain ⟨h2, T1, cs1, h3⟩ := hx
      exact ⟨h2, T1, _, hbx' b T1 cs1 h3⟩
    | own j T2 e2 ys =>
      obtain ⟨h0, h1, h2⟩ := hx
      simp only [wrCell]
      split
      · rename_i hj
        have hj' : j = id := Nat.eq_of_beq_eq_true hj
        subst hj'
        cases hc : (Ty.cast (a := e) (b := e2) y : Option e2.den) with
        | none => trivial
        | some y2 =>
          obtain ⟨he, hy2⟩ := cast_id hc
          subst he hy2
          have hO := (own_id T2 ys u (h2 hl)).1
          exact ⟨h0, own_sl hO hl, fun _ => hO⟩
      · rename_i hj
        split
        · rename_i hlj
          have hO := own_ne j T2 e2 ys u (fun he => hj (by rw [he]; exact Nat.beq_refl _)) hlj (h2 hlj)
          exact ⟨h0, own_sl hO hlj, fun _ => hO⟩
        · trivial
    | el j T2 e2 ys k =>
      obtain ⟨h0, h1, h2⟩ := hx
      simp only [wrCell]
      split
      · rename_i hj
        have hj' : j = id := Nat.eq_of_beq_eq_true hj
        subst hj'
        cases hc : (Ty.cast (a := e) (b := e2) y : Option e2.den) with
        | none => trivial
        | some y2 =>
          obtain ⟨he, hy2⟩ := cast_id hc
          subst he hy2
          obtain ⟨hk, g2, sl2, hg2, hu2, hO2⟩ := h2 hl
          have hO := (own_id T2 ys sl2 hO2).1
          refine ⟨h0, ?_, fun _ => ⟨by rw [List.length_set]; exact hk, g2, sl2, hg2, hu2, hO⟩⟩
          rw [hu2]
          exact ro_of_own hO hl hg2 (by rw [List.length_set]; exact hk)
      · rename_i hj
        split
        · rename_i hlj
          obtain ⟨hk, g2, sl2, hg2, hu2, hO2⟩ := h2 hlj
          have hO := own_ne j T2 e2 ys sl2 (fun he => hj (by rw [he]; exact Nat.beq_refl _)) hlj hO2
          refine ⟨h0, ?_, fun _ => ⟨hk, g2, sl2, hg2, hu2, hO⟩⟩
          rw [hu2]
          exact ro_of_own hO hlj hg2 hk
        · trivial
    | _ => trivial
  have hvv : ∀ (x : AV) (u : Value), V2 (vw w0 Nin s m w) x u → V2 (vw w0 Nin (wrSt s id i e y) m w') (wrV2 s.live id i e y x) u := by
    intro x u hx
    cases x with
    | agg cs =>
      obtain ⟨vs, h0, h1, h2⟩ := (show ∃ vs, _ ∧ _ ∧ _ from hx)
      exact ⟨vs, h0, all2_map hv1 _ _ h1, h2⟩
    | tup vs => trivial
    | al e2 ys => trivial
    | ro cs => trivial
    | bad => trivial
    | v t z => exact V2_of_V1' (hv1 (.v t z) u hx)
    | nilS => exact hx
    | raw v => exact hx
    | fn f caps => exact V2_of_V1' (hv1 (.fn f caps) u hx)
    | ptr b off => exact V2_of_V1' (hv1 (.ptr b off) u hx)
    | own j T2 e2 ys => exact V2_of_V1' (hv1 (.own j T2 e2 ys) u hx)
    | el j T2 e2 ys k => exact V2_of_V1' (hv1 (.el j T2 e2 ys k) u hx)
  have hv2 : ∀ (x : AV) (u : Value), V (vw w0 Nin s m w) x u → V (vw w0 Nin (wrSt s id i e y) m w') (wrAV s.live id i e y x) u := by
    intro x u hx
    cases x with
    | agg cs => exact hvv (.agg cs) u hx
    | tup vs =>
      obtain ⟨us, h0, h1⟩ := (show ∃ us, _ ∧ _ from hx)
      exact ⟨us, h0, all2_map hvv _ _ h1⟩
    | al e2 ys => trivial
    | ro cs => trivial
    | bad => trivial
    | v t z => exact V_of_V1' (hv1 (.v t z) u hx)
    | nilS => exact hx
    | raw v => exact hx
    | fn f caps => exact V_of_V1' (hv1 (.fn f caps) u hx)
    | ptr b off => exact V_of_V1' (hv1 (.ptr b off) u hx)
    | own j T2 e2 ys => exact V_of_V1' (hv1 (.own j T2 e2 ys) u hx)
    | el j T2 e2 ys k => exact V_of_V1' (hv1 (.el j T2 e2 ys k) u hx)
  have hbase := (hi.toks id g' hl hG').1
  refine ⟨hi.below.trans ⟨hsame.1, hsame.2.1, hsame.2.2.1, by rw [hsame.2.2.2]; exact Nat.le_refl _, fun k hk => hother k (by omega)⟩, hi.defers, ?_, ?_, ?_, hi.inj, ?_, ?_, ?_, hi.uD, ?_, hi.liveU, all2_map hv2 _ _ hi.ghost, ?_, hi.ok⟩
  rotate_right
  · intro p hp
    obtain ⟨hp1, hp2⟩ := hi.frz p hp
    have hpg : p.1 ≠ g' := fun e => hp1.2.2.1 id hl (by rw [e]; exact hG')
    refine ⟨⟨by rw [hsame.2.2.2]; exact hp1.1, hp1.2.1, hp1.2.2.1, fun i T1 cs1 hz => ?_⟩, (hother p.1 hpg).trans hp2⟩
    obtain ⟨cs0, h0, _⟩ := hbx i T1 cs1 hz
    exact hp1.2.2.2 i T1 cs0 h0
  · show a.tmps.size = (s.t.map _).length
    rw [List.length_map]; exact hi.tlen
  · intro k x u hx hu
    have hx' : (s.t.map (wrAV s.live id i e y))[k]? = some x := hx
    rw [List.getElem?_map] at hx'
    cases hk : s.t[k]? with
    | none => rw [hk] at hx'; cases hx'
    | some z =>
      rw [hk] at hx'
      simp only [Option.map_some, Option.some.injEq] at hx'
      subst hx'
      exact hv2 z u (hi.tmps k z u hk hu)
  · intro τ k h1 h2
    rw [hsame.2.2.2]; exact hi.toks τ k h1 h2
  · intro b T1 cs1 hz
    obtain ⟨cs0, h0, rfl⟩ := hbx b T1 cs1 hz
    obtain ⟨c1, us, c2, c3, c4⟩ := hi.boxes b T1 cs0 h0
    exact ⟨c1, us, (hother _ (hi.sep id g' b T1 cs0 hl hG' h0)).trans c2, all2_map hv1 _ _ c3, c4⟩
  · intro b T1 cs1 b' T2 cs2 hz hz' he
    obtain ⟨_, h0, _⟩ := hbx b T1 cs1 hz
    obtain ⟨_, h0', _⟩ := hbx b' T2 cs2 hz'
    exact hi.binj b T1 _ b' T2 _ h0 h0' he
  · intro τ k b T1 cs1 h1 h2 hz
    obtain ⟨_, h0, _⟩ := hbx b T1 cs1 hz
    exact hi.sep τ k b T1 _ h1 h2 h0
  · intro b T1 cs1 hz
    obtain ⟨_, h0, _⟩ := hbx b T1 cs1 hz
    exact hi.bD b T1 _ h0
theorem snd_store {T : TypeId} {x y : Operand} (hop : o.op = .store T x y) (h : (match s.ev x, sizedCells P T (s.ev y) with
    | .ptr b off, some new => match s.bx[b]? with
      | some (some (T', cs)) => if Nat.ble (off + new.length) cs.length && Nat.blt 0 (szOf P T) then K (St.put { s with bx := s.bx.set b (some (T', setCells cs new off)) } o.dst (.raw undef)) else none
      | _ => none
    | .el id _ e _ i, some _ => match (s.ev y).asTy e with
      | some z => if hasBit s.live id && Nat.blt 0 (szOf P T) then K ((wrSt s id i e z).put o.dst (.raw undef)) else none
      | none => none
    | _, _ => none) = some r) (hi : Inv w0 Nin D s m a w) : o.wp P a w (Post K r w0 Nin D) Q := by
  have hx := hi.ev x
  split at h
  · rename_i b off new hb hnew
    rw [hb] at hx
    obtain ⟨hlen, nvs, hnv, hn2, hn1⟩ := sizedCells_V hnew (hi.ev y)
    split at h
    · rename_i T' cs hbx
      split at h
      · rename_i hle
        rw [Bool.and_eq_true] at hle
        have hle' := Nat.le_of_ble_eq_true hle.1
        have hsz0 := hle.2
        obtain ⟨hb0, vs, hh, h2, h1⟩ := hi.boxes b T' cs hbx
        have hx' : a.eval x = .pointer (some ⟨m.B b, off, none⟩) := hx.1
        have hll := all2_len h2
        have hnl := all2_len hn2
        have hst := run_storeCells_at P (m.B b) off T' nvs 0 vs.toArray w hh (by simp; omega) hn1
        simp only [Nat.add_zero] at hst
        have hblt : b < s.bx.length := (List.getElem?_eq_some_iff.1 hbx).1
        have hget : ∀ (i : Nat) (z : TypeId × List AV), (s.bx.set b (some (T', setCells cs new off)))[i]? = some (some z) → (i = b ∧ z = (T', setCells cs new off)) ∨ (i ≠ b ∧ s.bx[i]? = some (some z)) := by
          intro i z hz
          by_cases he : b = i
          · subst he
            rw [List.getElem?_set_self hblt] at hz
            simp only [Option.some.injEq] at hz
            exact .inl ⟨rfl, hz.symm⟩
          · rw [List.getElem?_set_ne he] at hz
            exact .inr ⟨fun h => he h.symm, hz⟩
        have hgetB : ∀ (i : Nat) (z : TypeId × List AV), (s.bx.set b (some (T', setCells cs new off)))[i]? = some (some z) → ∃ z', s.bx[i]? = some (some z') := by
          intro i z hz
          rcases hget i z hz with ⟨rfl, _⟩ | ⟨_, hz'⟩
          · exact ⟨_, hbx⟩
          · exact ⟨_, hz'⟩
        generalize hw' : w.setRow (m.B b) (vs.toArray.toList.take off ++ nvs ++ vs.toArray.toList.drop (off + nvs.length)).toArray = w' at hst
        have hnew : w'.heap[m.B b]? = some (.cells (vs.take off ++ nvs ++ vs.drop (off + nvs.length)).toArray T' (0, 0)) := by rw [← hw']; exact setRow_heap w _ _ _ _ _ hh
        have hother : ∀ k, k ≠ m.B b → w'.heap[k]? = w.heap[k]? := fun k hk => by rw [← hw']; exact setRow_other w _ k _ hk
        have hsame : w'.os = w.os ∧ w'.tape = w.tape ∧ w'.output = w.output ∧ w'.heap.size = w.heap.size := by rw [← hw']; exact ⟨rfl, rfl, rfl, by simp [World.setRow]⟩
        have hto : (vw w0 Nin s m w).To (vw w0 Nin { s with bx := s.bx.set b (some (T', setCells cs new off)) } m w') := by
          have hN : ∀ k, (vw w0 Nin s m w).N k → (vw w0 Nin { s with bx := s.bx.set b (some (T', setCells cs new off)) } m w').N k ∧ w'.heap[k]? = w.heap[k]? := by
            rintro k ⟨c1, c2, c3, c4⟩
            refine ⟨⟨by show k < w'.heap.size; rw [hsame.2.2.2]; exact c1, c2, c3, fun i T1 cs1 hz => ?_⟩, hother k (fun he => c4 b T' cs hbx he.symm)⟩
            obtain ⟨⟨T2, cs2⟩, hz'⟩ := hgetB i _ hz
            exact c4 i T2 cs2 hz'
          refine ⟨rfl, hN, ?_, ?_, ?_⟩
          · rintro k hi' (hk | ⟨τ, hl, hG, hE⟩)
            · exact ⟨.inl (hN k hk).1, fun o _ => cell_of_heap (hN k hk).2⟩
            · exact ⟨.inr ⟨τ, hl, hG, hE⟩, fun o _ => cell_of_heap (hother k (fun he => hi.sep τ k b T' cs hl hG hbx he.symm))⟩
          · exact fun τ hu => ⟨hu, fun hl => ⟨hl, rfl, rfl, fun k hk => hother k (fun he => hi.sep τ k b T' cs hl hk hbx he.symm)⟩⟩
          · rintro i ⟨T1, cs1, hz⟩
            refine ⟨?_, rfl⟩
            by_cases he : b = i
            · subst he
              exact ⟨T', setCells cs new off, by show (s.bx.set b _)[b]? = _; rw [List.getElem?_set_self hblt]⟩
            · exact ⟨T1, cs1, by show (s.bx.set b _)[i]? = _; rw [List.getElem?_set_ne he]; exact hz⟩
        have hI : Inv w0 Nin D { s with bx := s.bx.set b (some (T', setCells cs new off)) } m a w' := by
          refine hi.next (s' := { s with bx := s.bx.set b (some (T', setCells cs new off)) }) (m' := m) rfl hto ?_ ?_ hi.inj ?_ ?_ ?_ hi.uD ?_ hi.liveU
          · exact hi.below.trans ⟨hsame.1, hsame.2.1, hsame.2.2.1, by rw [hsame.2.2.2]; exact Nat.le_refl _, fun k hk => hother k (by omega)⟩
          · intro τ k hl hG
            rw [hsame.2.2.2]; exact hi.toks τ k hl hG
          · intro i T1 cs1 hz
            rcases hget i _ hz with ⟨rfl, he⟩ | ⟨hne, hz'⟩
            · simp only [Prod.mk.injEq] at he
              obtain ⟨rfl, rfl⟩ := he
              refine ⟨hb0, _, hnew, all2_imp (fun _ _ => hto.v1) _ _ (setCells_all2 h2 hn2 off), fun u hu => ?_⟩
              rcases List.mem_append.1 hu with hu | hu
              · rcases List.mem_append.1 hu with hu | hu
                · exact h1 u (List.mem_of_mem_take hu)
                · exact hn1 u hu
              · exact h1 u (List.mem_of_mem_drop hu)
            · obtain ⟨c1, us, c2, c3, c4⟩ := hi.boxes i T1 cs1 hz'
              exact ⟨c1, us, (hother _ (fun he => hne (hi.binj i T1 cs1 b T' cs hz' hbx he))).trans c2, all2_imp (fun _ _ => hto.v1) _ _ c3, c4⟩
          · intro i T1 cs1 j T2 cs2 hz hz' he
            obtain ⟨⟨T3, cs3⟩, h3⟩ := hgetB i _ hz
            obtain ⟨⟨T4, cs4⟩, h4⟩ := hgetB j _ hz'
            exact hi.binj i T3 cs3 j T4 cs4 h3 h4 he
          · intro τ k i T1 cs1 hl hG hz
            obtain ⟨⟨T3, cs3⟩, h3⟩ := hgetB i _ hz
            exact hi.sep τ k i T3 cs3 hl hG h3
          · intro i T1 cs1 hz
            obtain ⟨⟨T3, cs3⟩, h3⟩ := hgetB i _ hz
            exact hi.bD i T3 cs3 h3
        refine wp_skip' (w' := w') ?_ ⟨_, m, h, hI.put o.dst (x := .raw undef) rfl⟩
        simp only [execOp, hop]
        rw [Sem.run_bind]
        have hsv : (Instr.storeAt T (a.eval x) (a.eval y)).run P w = .ok () w' := by
          have hz : (a.eval y).cells.size = szOf P T := by rw [hnv]; simp; omega
          simp only [Instr.storeAt, hx', Instr.sureAddr, Sem.run_bind, Sem.run_pure, Result.andThen_ok, storeVar, run_sizeOf hsz0]
          rw [if_neg (by rw [hz]; exact fun h => h rfl), hnv]
          exact hst
        rw [hsv]
        rfl
      · cases h
    · cases h
  · rename_i id T' e xs i new hb hnew
    rw [hb] at hx
    split at h
    · rename_i z hz
      split at h
      · rename_i hc
        rw [Bool.and_eq_true] at hc
        obtain ⟨hlen, nvs, hnv, hn2, hn1⟩ := sizedCells_V hnew (hi.ev y)
        have hry := asTy_V (q := vw w0 Nin s m w) hz (hi.ev y)
        have hnv' : (a.eval y).cells.toList = nvs := by rw [hnv]
        rw [hnv'] at hry
        have hnl := all2_len hn2
        have hsz0 : 0 < szOf P T := Nat.le_of_ble_eq_true hc.2
        obtain ⟨g, cur, T1, hv, hg, hfit, hI⟩ := wr_step hi hx hc.1 hry (by omega)
        refine wp_skip' ?_ ⟨_, m, h, hI.put o.dst (x := .raw undef) rfl⟩
        simp only [execOp, hop]
        rw [Sem.run_bind]
        have hst := run_storeCells_at P g (i * e.sz) T1 nvs 0 cur w hg (by simpa using hfit) hn1
        simp only [Nat.add_zero] at hst
        have hsv : (Instr.storeAt T (a.eval x) (a.eval y)).run P w = .ok () (w.setRow g (cur.toList.take (i * e.sz) ++ nvs ++ cur.toList.drop (i * e.sz + nvs.length)).toArray) := by
          have hzs : (a.eval y).cells.size = szOf P T := by rw [hnv]; simp; omega
          simp only [Instr.storeAt, hv, Instr.sureAddr, Sem.run_bind, Sem.run_pure, Result.andThen_ok, storeVar, run_sizeOf hc.2]
          rw [if_neg (by rw [hzs]; exact fun h => h rfl), hnv]
          exact hst
        rw [hsv]
        rfl
      · cases h
    · cases h
  · cases h
theorem snd_makeFunc {fn : Fn} {first caps : Array Operand} (hop : o.op = .makeFunc fn first caps) (h : (match (generalizing := false) fn, first.toList with
    | .func f, [] => if (caps.toList.map s.ev).all isCap then K (s.put o.dst (.fn f (caps.toList.map s.ev))) else none
    | _, _ => none) = some r) (hi : Inv w0 Nin D s m a w) : o.wp P a w (Post K r w0 Nin D) Q := by
  cases fn <;> first | (cases h; done) | skip
  · rename_i f
    cases hf : first.toList with
    | cons _ _ => rw [hf] at h; cases h
    | nil =>
    rw [hf] at h
    simp only at h
    split at h
    · rename_i hall
      have hf' : first = #[] := by rw [← Array.toList_inj]; exact hf
      have key : ∀ l : List Operand, (l.map s.ev).all isCap = true → all2 (Vp (vw w0 Nin s m w)) (l.map s.ev) (l.map a.eval) := by
        intro l
        induction l with
        | nil => exact fun _ => trivial
        | cons x l ih =>
          intro hl
          simp only [List.map_cons, List.all_cons, Bool.and_eq_true] at hl
          refine ⟨?_, ih hl.2⟩
          have hx := hi.ev x
          have h1 := hl.1
          revert hx h1
          generalize s.ev x = X
          intro hx h1
          cases X <;> first | exact hx | (cases h1; done)
      refine quiet_fin (x := .fn f (caps.toList.map s.ev)) (v := .func (.func f) #[] (caps.toList.map a.eval).toArray) ?_ ⟨_, rfl, key caps.toList hall⟩ h hi
      simp only [execOp, hop, hf']
      refine run_v ?_
      simp only [Instr.makeFunc, Sem.run_pure, List.map_toArray, List.map_nil]
      congr 2
      rw [← Array.toList_inj]
      simp
    · cases h
end
end Go.Eng
/- ENGINE, part K: what a call answers (contracts), and the call. -/
namespace Go.Eng
open Go Go.RowKit
/-- What is handed to a call, seen by itself: blocks that N names may be read. -/
def argVw (w : World) (N : Nat → Prop) : Vw where
  w := w
  base := w.heap.size
  N b := b < w.heap.size ∧ N b
  live _ := False
  G _ := none
  E _ := 0
  U _ := False
  isBox _ := False
  B _ := 0
/-- A struct's value is its cells; another one is one cell. -/
def shut : Ty → List Value → Value → Prop
  | .pair _ _, vs, v => v = .agg vs.toArray
  | .unit, vs, v => v = .agg vs.toArray
  | _, vs, v => vs = [v]
def Res1 (w' : World) (base : Nat) (N' : Nat → Prop) : (o : Option TypeId) → (t : Ty) → t.den → Value → Prop
  | some T, .sl e, xs, v => ∃ inner, w'.ownsRow base T e.sz v (List.length xs) inner ∧ repsOf (rep w' N' e) xs inner
  | _, t, x, v => ∃ vs, shut t vs v ∧ rep w' N' t x vs
def ResL (w' : World) (base : Nat) (N' : Nat → Prop) : (l : List (Option TypeId × Ty)) → denL l → List Value → Prop
  | [], _, vs => vs = []
  | (o, t) :: l, x, v :: vs => Res1 w' base N' o t x.1 v ∧ ResL w' base N' l x.2 vs
  | _ :: _, _, [] => False
def own1 : Option TypeId × Ty → Value → List Nat
  | (some _, .sl _), v => v.ownBlock.toList
  | _, _ => []
def owned : List (Option TypeId × Ty) → List Value → List Nat
  | p :: l, v :: vs => own1 p v ++ owned l vs
  | _, _ => []
def ResV (w w' : World) (N : Nat → Prop) : (sh : Sh) → sh.den → Value → Prop
  | .one o t, x, v => ResL w' w.heap.size (fun b => b < w'.heap.size ∧ (b < w.heap.size → N b) ∧ b ∉ owned [(o, t)] [v]) [(o, t)] (x, ()) [v] ∧ (owned [(o, t)] [v]).Nodup
  | .tup l, x, v => ∃ vs : List Value, v = .tuple vs.toArray ∧ ResL w' w.heap.size (fun b => b < w'.heap.size ∧ (b < w.heap.size → N b) ∧ b ∉ owned l vs) l x vs ∧ (owned l vs).Nodup
/-- Of what was there ahead of the call nothing is in a new struct's slices. -/
def resN (sh : Sh) (N : Nat → Prop) : Nat → Prop := if sh.frs = true then fun _ => False else N
def Contract (P : Program) (sh : Sh) (f : FuncId) (args : List AV) (r : sh.den) : Prop :=
  ∀ (w : World) (N : Nat → Prop) (vargs : List Value), okW w → all2 (V (argVw w N)) args vargs →
    Calls P f vargs.toArray w fun e w' => ∃ v, e = .returned v ∧ Below w.heap.size w w' ∧ ResV w w' (resN sh N) sh r v
/-- What a call that is reckoned inside does to the caller's frame. -/
def InOk (Γ : Ctx) (f : FuncId) (args : List AV) (s : St) (x : AV) (s' : St) : Prop :=
  ∀ (w0 : World) (Nin : Env) (m : Mp) (a : Act) (w : World), Inv w0 Nin (fun k => k < s.bx.length) s m a w → ∀ vargs : List Value, all2 (V (vw w0 Nin s m w)) args vargs →
    Calls Γ.P f vargs.toArray w fun e w' => ∃ v, e = .returned v ∧ ∃ m', Inv w0 Nin (fun k => k < s'.bx.length) s' m' a w' ∧ V (vw w0 Nin s' m' w') x v
/-- What a call of a function without a body is: done in place, the world stands. -/
def ExtOk (P : Program) (sh : Sh) (f : FuncId) (args : List AV) (r : sh.den) : Prop :=
  ∀ (w : World) (N : Nat → Prop) (vargs : List Value), okW w → all2 (V (argVw w N)) args vargs →
    ∃ v, (callFunc f vargs.toArray).run P w = .ok (.value v) w ∧ ResV w w (resN sh N) sh r v
def CallOk (P : Program) (sh : Sh) (f : FuncId) (args : List AV) (r : sh.den) : Prop :=
  ((∃ fn, P.funcs[f]? = some fn ∧ (fn.name == "runtime.NumGoroutine") = false ∧ fn.body.isSome = true) ∧ Contract P sh f args r) ∨
    ((∃ fn, P.funcs[f]? = some fn ∧ fn.body.isNone = true) ∧ ExtOk P sh f args r)
structure CallsOk (Γ : Ctx) : Prop where
  nat : ∀ (R : Type) (f : FuncId) (args : List AV) (s : St) (K : AV → St → Option R), Γ.inl R f args s K = (Γ.inl (AV × St) f args s fun v s' => some (v, s')).bind fun p => K p.1 p.2
  inl : ∀ (f : FuncId) (args : List AV) (s : St) (x : AV) (s' : St), Γ.inl (AV × St) f args s (fun v s' => some (v, s')) = some (x, s') → (∃ fn, Γ.P.funcs[f]? = some fn ∧ (fn.name == "runtime.NumGoroutine") = false ∧ fn.body.isSome = true) ∧ InOk Γ f args s x s'
  ok : ∀ f args r, Γ.call f args = some r → CallOk Γ.P (Γ.sh f) f args r
theorem rep_noSl {w w' : World} {N N' : Nat → Prop} : ∀ (t : Ty), t.noSl = true → ∀ (x : t.den) (cs : List Value), rep w N t x cs → rep w' N' t x cs := by
  intro t
  induction t with
  | pair a b iha ihb =>
    intro h x cs
    simp only [Ty.noSl, Bool.and_eq_true] at h
    rintro ⟨c0, c1, e, h0, h1⟩
    exact ⟨c0, c1, e, iha h.1 _ _ h0, ihb h.2 _ _ h1⟩
  | sl e _ => intro h; cases h
  | _ => exact fun _ _ _ h => h
section
variable {q : Vw}
theorem sl_wide (hR : ∀ b hi, q.Rd b hi → b < q.w.heap.size) (hN : ∀ b, q.N b → b < q.w.heap.size) {e : Ty} {xs : List e.den} {v : Value} (h : q.Sl e xs v) : rep q.w (argVw q.w (fun _ => True)).N (.sl e) xs [v] := by
  obtain ⟨A, c, inner, rfl, hl, hr, hc⟩ := h
  refine ⟨A, c, inner, rfl, hl, repsOf_imp (rep_step (fun b hb => ⟨⟨hN b hb, trivial⟩, rfl⟩) e) _ _ hr, ?_⟩
  exact hc.imp (fun b hi hb => ⟨⟨hR b hi hb, trivial⟩, fun _ _ => rfl⟩)
theorem byCell_wide (hR : ∀ b hi, q.Rd b hi → b < q.w.heap.size) (hN : ∀ b, q.N b → b < q.w.heap.size) {x y : AV} {v : Value} (h : byCell x = some y) (hv : V1 q x v) : V1 (argVw q.w (fun _ => True)) y v := by
  cases x <;> simp only [byCell, Option.some.injEq, reduceCtorEq] at h <;> subst h
  · exact rep_step (fun b hb => ⟨⟨hN b hb, trivial⟩, rfl⟩) _ _ _ hv
  · exact sl_wide hR hN hv
  · exact sl_wide hR hN hv.2.1
  · exact hv
theorem byCells_wide (hR : ∀ b hi, q.Rd b hi → b < q.w.heap.size) (hN : ∀ b, q.N b → b < q.w.heap.size) : ∀ {xs ys : List AV} {vs : List Value}, byCells xs = some ys → all2 (V1 q) xs vs → all2 (V1 (argVw q.w (fun _ => True))) ys vs
  | [], ys, [], h, _ => by simp only [byCells, Option.some.injEq] at h; subst h; trivial
  | x :: xs, ys, v :: vs, h, h2 => by
    simp only [byCells] at h
    split at h
    · rename_i y ys' h3 h4
      simp only [Option.some.injEq] at h
      subst h
      exact ⟨byCell_wide hR hN h3 h2.1, byCells_wide hR hN h4 h2.2⟩
    · cases h
  | [], _, _ :: _, _, h2 => h2.elim
  | _ :: _, _, [], _, h2 => h2.elim
theorem byCells_get : ∀ {xs ys : List AV} {j : Nat} {y : AV}, byCells xs = some ys → ys[j]? = some y → ∃ x, xs[j]? = some x ∧ byCell x = some y
  | [], ys, j, y, h, hy => by simp only [byCells, Option.some.injEq] at h; subst h; simp at hy
  | x :: xs, ys, j, y, h, hy => by
    simp only [byCells] at h
    split at h
    · rename_i z zs h3 h4
      simp only [Option.some.injEq] at h
      subst h
      cases j with
      | zero => simp only [List.getElem?_cons_zero, Option.some.injEq] at hy ⊢; subst hy; exact ⟨x, rfl, h3⟩
      | succ j => rw [List.getElem?_cons_succ] at hy ⊢; exact byCells_get h4 hy
    · cases h
theorem byCells_len : ∀ {xs ys : List AV}, byCells xs = some ys → ys.length = xs.length
  | [], ys, h => by simp only [byCells, Option.some.injEq] at h; subst h; rfl
  | x :: xs, ys, h => by
    simp only [byCells] at h
    split at h
    · rename_i z zs _ h4
      simp only [Option.some.injEq] at h
      subst h
      rw [List.length_cons, List.length_cons, byCells_len h4]
    · cases h
theorem V_of_V1 {q' : Vw} {x : AV} {v : Value} (h : V1 q' x v) : V q' x v := by
  cases x with
  | agg _ => exact h.elim
  | tup _ => exact h.elim
  | _ => exact h
theorem nilCells_V {q : Vw} : ∀ (ts : List Ty) (cs : List AV) (vs : List Value), all2 (V1 q) cs vs → all2 (V1 q) (nilCells ts cs) vs
  | [], cs, vs, h => h
  | _ :: _, [], vs, h => h
  | _ :: _, _ :: _, [], h => h.elim
  | t :: ts, c :: cs, v :: vs, ⟨h0, h1⟩ => by
    refine ⟨?_, nilCells_V ts cs vs h1⟩
    split
    · have hv' : v = .slice none 0 0 := h0
      subst hv'
      exact ⟨none, 0, [], rfl, Nat.le_refl _, rfl, .inl rfl⟩
    · exact h0
theorem nilCells_calm : ∀ (ts : List Ty) (cs : List AV), cs.all calmCell = true → (nilCells ts cs).all calmCell = true
  | [], cs, h => h
  | _ :: _, [], h => h
  | t :: ts, c :: cs, h => by
    simp only [List.all_cons, Bool.and_eq_true] at h
    show List.all (_ :: nilCells ts cs) calmCell = true
    simp only [List.all_cons, Bool.and_eq_true]
    refine ⟨?_, nilCells_calm ts cs h.2⟩
    split
    · rfl
    · exact h.1
theorem byVal_wide (hR : ∀ b hi, q.Rd b hi → b < q.w.heap.size) (hN : ∀ b, q.N b → b < q.w.heap.size) {ty : Option Ty} {x y : AV} {v : Value} (h : byVal ty x = some y) (hv : V q x v) : V (argVw q.w (fun _ => True)) y v := by
  cases x with
  | nilS =>
    simp only [byVal] at h
    split at h
    · simp only [Option.some.injEq] at h
      subst h
      have hv' : v = .slice none 0 0 := hv
      subst hv'
      exact ⟨none, 0, [], rfl, Nat.le_refl _, rfl, .inl rfl⟩
    · simp only [Option.some.injEq] at h
      subst h
      exact hv
  | agg cs =>
    simp only [byVal] at h
    cases hb : byCells (nilCells ((ty.map cellTys).getD []) cs) with
    | none => rw [hb] at h; cases h
    | some ys =>
      rw [hb] at h
      simp only [Option.map_some, Option.some.injEq] at h
      subst h
      obtain ⟨vs, he, h2, h1⟩ := (show ∃ vs, _ ∧ _ ∧ _ from hv)
      exact ⟨vs, he, byCells_wide hR hN hb (nilCells_V _ _ _ h2), h1⟩
  | ro cs =>
    simp only [byVal] at h
    cases hb : byCells cs with
    | none => rw [hb] at h; cases h
    | some ys =>
      rw [hb] at h
      simp only [Option.map_some, Option.some.injEq] at h
      subst h
      obtain ⟨ad, he, h1, h2⟩ := (show ∃ ad, _ ∧ _ ∧ _ from hv)
      refine ⟨ad, he, ?_, fun j y hj => ?_⟩
      · rcases h1 with h1 | h1
        · subst h1; simp only [byCells, Option.some.injEq] at hb; exact .inl hb.symm
        · exact .inr (.inl ⟨hR _ _ h1, trivial⟩)
      · obtain ⟨x, hx, hxy⟩ := byCells_get hb hj
        obtain ⟨u, hu, hv0⟩ := h2 j x hx
        refine ⟨u, hu, ?_⟩
        cases x <;> first | exact hv0.elim | skip
        simp only [byCell, Option.some.injEq] at hxy
        subst hxy
        exact rep_step (fun b hb => ⟨⟨hN b hb, trivial⟩, rfl⟩) _ _ _ hv0
  | v t x => exact V_of_V1 (byCell_wide (x := .v t x) hR hN h hv)
  | al e xs => exact V_of_V1 (byCell_wide (x := .al e xs) hR hN h hv)
  | own τ T e xs => exact V_of_V1 (byCell_wide (x := .own τ T e xs) hR hN h hv)
  | raw u => exact V_of_V1 (byCell_wide (x := .raw u) hR hN h hv)
  | _ => simp [byVal, byCell] at h
theorem byCell_calm {x y : AV} {v : Value} (hc : calmCell x = true) (hN : ∀ b, q.N b → b < q.w.heap.size) (h : byCell x = some y) (hv : V1 q x v) : V1 (argVw q.w q.N) y v := by
  cases x <;> simp only [byCell, Option.some.injEq, reduceCtorEq] at h <;> subst h
  · exact rep_step (fun b hb => ⟨⟨hN b hb, hb⟩, rfl⟩) _ _ _ hv
  · cases hc
  · cases hc
  · exact hv
theorem byCells_calm (hN : ∀ b, q.N b → b < q.w.heap.size) : ∀ {xs ys : List AV} {vs : List Value}, xs.all calmCell = true → byCells xs = some ys → all2 (V1 q) xs vs → all2 (V1 (argVw q.w q.N)) ys vs
  | [], ys, [], _, h, _ => by simp only [byCells, Option.some.injEq] at h; subst h; trivial
  | x :: xs, ys, v :: vs, hc, h, h2 => by
    simp only [List.all_cons, Bool.and_eq_true] at hc
    simp only [byCells] at h
    split at h
    · rename_i y ys' h3 h4
      simp only [Option.some.injEq] at h
      subst h
      exact ⟨byCell_calm hc.1 hN h3 h2.1, byCells_calm hN hc.2 h4 h2.2⟩
    · cases h
  | [], _, _ :: _, _, _, h2 => h2.elim
  | _ :: _, _, [], _, _, h2 => h2.elim
theorem byVal_calm (hN : ∀ b, q.N b → b < q.w.heap.size) {ty : Option Ty} {x y : AV} {v : Value} (hc : calm x = true) (h : byVal ty x = some y) (hv : V q x v) : V (argVw q.w q.N) y v := by
  cases x with
  | nilS =>
    simp only [byVal] at h
    split at h
    · simp only [Option.some.injEq] at h
      subst h
      have hv' : v = .slice none 0 0 := hv
      subst hv'
      exact ⟨none, 0, [], rfl, Nat.le_refl _, rfl, .inl rfl⟩
    · simp only [Option.some.injEq] at h
      subst h
      exact hv
  | agg cs =>
    simp only [byVal] at h
    cases hb : byCells (nilCells ((ty.map cellTys).getD []) cs) with
    | none => rw [hb] at h; cases h
    | some ys =>
      rw [hb] at h
      simp only [Option.map_some, Option.some.injEq] at h
      subst h
      obtain ⟨vs, he, h2, h1⟩ := (show ∃ vs, _ ∧ _ ∧ _ from hv)
      exact ⟨vs, he, byCells_calm hN (nilCells_calm _ _ hc) hb (nilCells_V _ _ _ h2), h1⟩
  | v t x => exact V_of_V1 (byCell_calm (x := .v t x) rfl hN h hv)
  | raw u => exact V_of_V1 (byCell_calm (x := .raw u) rfl hN h hv)
  | _ => first | (cases hc; done) | (simp [byVal, byCell] at h)
end
section
variable {w0 : World} {Nin : Env} {D : Nat → Prop} {s : St} {m : Mp} {a : Act} {w : World}
theorem Inv.rdLt (h : Inv w0 Nin D s m a w) : ∀ b hi, (vw w0 Nin s m w).Rd b hi → b < w.heap.size := by
  rintro b hi (hb | ⟨τ, hl, hG, _⟩)
  · exact hb.1
  · exact (h.toks τ b hl hG).2
theorem byVals_V (h : Inv w0 Nin D s m a w) {typ : TypeId → Option Ty} {fresh : Bool} : ∀ (l : List Operand) (ts : List TypeId) (ys : List AV), byVals typ (l.map s.ev) ts = some ys → (fresh || (l.map s.ev).all calm) = true →
    all2 (V (argVw w (if fresh = true then fun _ => True else (vw w0 Nin s m w).N))) ys (l.map a.eval)
  | [], ts, ys, hy, _ => by simp only [List.map_nil, byVals, Option.some.injEq] at hy; subst hy; trivial
  | x :: l, ts, ys, hy, hc => by
    simp only [List.map_cons, byVals] at hy
    split at hy
    · rename_i y ys' h1 h2
      simp only [Option.some.injEq] at hy
      subst hy
      cases fresh with
      | true => exact ⟨byVal_wide (q := vw w0 Nin s m w) h.rdLt (fun b hb => hb.1) h1 (h.ev x), byVals_V h l _ ys' h2 rfl⟩
      | false =>
        simp only [Bool.false_or, List.map_cons, List.all_cons, Bool.and_eq_true] at hc
        exact ⟨byVal_calm (q := vw w0 Nin s m w) (fun b hb => hb.1) hc.1 h1 (h.ev x), byVals_V h l _ ys' h2 (by simpa using hc.2)⟩
    · cases hy
end
end Go.Eng
