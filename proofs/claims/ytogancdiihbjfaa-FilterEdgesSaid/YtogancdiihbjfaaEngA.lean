/- ENGINE, part A: values of the abstract machine (typed lists in place of memory), its operations and its control, as plain functions. -/
import Derived.Test.YtogancdiihbjfaaProg
import Derived.Calls
import Derived.Laws.Sem
import Derived.Orders
import Derived.ScopeJumps
namespace Go.Eng
open Go
noncomputable section
/-- The types of what is handled by value. -/
inductive Ty where
  | int (k : IntKind)
  | bool
  | str
  | flt (k : FloatKind)
  | unit
  | pair (a b : Ty)
  | sl (e : Ty)
namespace Ty
@[reducible] def den : Ty → Type
  | .int _ => Int
  | .bool => Bool
  | .str => ByteArray
  | .flt _ => Nat
  | .unit => Unit
  | .pair a b => a.den × b.den
  | .sl e => List e.den
def sz : Ty → Nat
  | .unit => 0
  | .pair a b => a.sz + b.sz
  | _ => 1
def dflt : (t : Ty) → t.den
  | .int _ => (0 : Int)
  | .bool => false
  | .str => ByteArray.empty
  | .flt _ => (0 : Nat)
  | .unit => ()
  | .pair a b => (a.dflt, b.dflt)
  | .sl _ => []
def kindNo : IntKind → Nat
  | .i8 => 0 | .i16 => 1 | .i32 => 2 | .i64 => 3 | .u8 => 4 | .u16 => 5 | .u32 => 6 | .u64 => 7
def fkNo : FloatKind → Nat
  | .f32 => 0 | .f64 => 1
def same : Ty → Ty → Bool
  | .int j, .int k => kindNo j == kindNo k
  | .bool, .bool => true
  | .str, .str => true
  | .flt j, .flt k => fkNo j == fkNo k
  | .unit, .unit => true
  | .pair a b, .pair c d => a.same c && b.same d
  | .sl a, .sl b => a.same b
  | _, _ => false
theorem kindNo_inj {j k : IntKind} (h : (kindNo j == kindNo k) = true) : j = k := by
  cases j <;> cases k <;> first | rfl | (exact absurd h (by decide))
theorem fkNo_inj {j k : FloatKind} (h : (fkNo j == fkNo k) = true) : j = k := by
  cases j <;> cases k <;> first | rfl | (exact absurd h (by decide))
theorem same_eq : ∀ {a b : Ty}, a.same b = true → a = b := by
  intro a
  induction a with
  | int j => intro b h; cases b <;> simp only [same, Bool.false_eq_true] at h; rw [kindNo_inj h]
  | bool => intro b h; cases b <;> simp only [same, Bool.false_eq_true] at h; rfl
  | str => intro b h; cases b <;> simp only [same, Bool.false_eq_true] at h; rfl
  | flt j => intro b h; cases b <;> simp only [same, Bool.false_eq_true] at h; rw [fkNo_inj h]
  | unit => intro b h; cases b <;> simp only [same, Bool.false_eq_true] at h; rfl
  | pair a c iha ihc =>
    intro b h
    cases b <;> simp only [same, Bool.false_eq_true, Bool.and_eq_true] at h
    rw [iha h.1, ihc h.2]
  | sl a iha => intro b h; cases b <;> simp only [same, Bool.false_eq_true] at h; rw [iha h]
/-- What is of type a, taken for what is of type b, where they are one. -/
def cast {a b : Ty} (x : a.den) : Option b.den := if h : a.same b = true then some (same_eq h ▸ x) else none
end Ty

inductive AV where
  | v (t : Ty) (x : t.den)
  | al (e : Ty) (xs : List e.den)
  | own (id : Nat) (T : TypeId) (e : Ty) (xs : List e.den)
  | el (id : Nat) (T : TypeId) (e : Ty) (xs : List e.den) (i : Nat)
  | nilS
  | agg (cs : List AV)
  | tup (vs : List AV)
  | ptr (id : Nat) (off : Nat)
  | ro (cs : List AV)
  | fn (f : FuncId) (caps : List AV)
  | raw (v : Value)
  | bad
namespace AV
def isV : AV → Bool
  | .v _ _ => true
  | _ => false
end AV
/-- The cells of a typed value. -/
def cellsT : (t : Ty) → t.den → List AV
  | .int k, x => [.v (.int k) x]
  | .bool, x => [.v .bool x]
  | .str, x => [.v .str x]
  | .flt k, x => [.v (.flt k) x]
  | .unit, _ => []
  | .pair a b, x => cellsT a x.1 ++ cellsT b x.2
  | .sl e, x => [.v (.sl e) x]
/-- One cell as a typed value. -/
def cellTy (t : Ty) : AV → Option t.den
  | .v _ x => Ty.cast x
  | .nilS => match t with
    | .sl _ => some []
    | _ => none
  | _ => none
/-- Cells as a typed value, and those that are left. -/
def ofCells : (t : Ty) → List AV → Option (t.den × List AV)
  | .unit, cs => some ((), cs)
  | .pair a b, cs => match ofCells a cs with
    | some (x, cs') => match ofCells b cs' with
      | some (y, cs'') => some ((x, y), cs'')
      | none => none
    | none => none
  | .int k, c :: cs => (cellTy (.int k) c).map (·, cs)
  | .bool, c :: cs => (cellTy .bool c).map (·, cs)
  | .str, c :: cs => (cellTy .str c).map (·, cs)
  | .flt k, c :: cs => (cellTy (.flt k) c).map (·, cs)
  | .sl e, c :: cs => (cellTy (.sl e) c).map (·, cs)
  | _, [] => none
/-- A value's cells. -/
def AV.cells : AV → Option (List AV)
  | .agg cs => some cs
  | .tup _ => none
  | .bad => none
  | x => some [x]
def okCell : AV → Bool
  | .agg _ => false
  | .tup _ => false
  | .bad => false
  | .ro _ => false
  | .el _ _ _ _ _ => false
  | .fn _ _ => false
  | .v t _ => Nat.beq t.sz 1
  | .raw (.agg _) => false
  | .raw (.tuple _) => false
  | _ => true
def AV.asTy (t : Ty) (x : AV) : Option t.den := match x.cells with
  | some cs => if cs.all okCell then (match ofCells t cs with
    | some (y, []) => some y
    | _ => none) else none
  | none => none
/-- A slice's elements, whosoever it is. -/
def AV.asSl (e : Ty) : AV → Option (List e.den)
  | .v (.sl e') xs => (Ty.cast (a := .sl e') (b := .sl e) xs : Option (List e.den))
  | .al e' xs => (Ty.cast (a := .sl e') (b := .sl e) xs : Option (List e.den))
  | .own _ _ e' xs => (Ty.cast (a := .sl e') (b := .sl e) xs : Option (List e.den))
  | .nilS => some []
  | _ => none
def ofConst : Value → AV
  | .int k n => .v (.int k) n
  | .bool b => .v .bool b
  | .string s => .v .str s
  | .float k b => .v (.flt k) b
  | .slice none 0 0 => .nilS
  | .agg cs => if cs.toList.all (·.oneCell') then .agg (cs.toList.map fun
    | .int k n => .v (.int k) n
    | .bool b => .v .bool b
    | .string s => .v .str s
    | .float k b => .v (.flt k) b
    | .slice none 0 0 => .nilS
    | v => .raw v) else .raw (.agg cs)
  | v => .raw v
def cellV : AV → Option Value
  | .v (.int k) n => some (.int k n)
  | .v .bool b => some (.bool b)
  | .v .str s => some (.string s)
  | .v (.flt k) b => some (.float k b)
  | .raw v => some v
  | _ => none
def cellsV : List AV → Option (List Value)
  | [] => some []
  | c :: cs => match cellV c, cellsV cs with
    | some v, some vs => some (v :: vs)
    | _, _ => none
/-- The very value, where it hangs on no memory. -/
def AV.toV : AV → Option Value
  | .agg cs => (cellsV cs).map fun vs => .agg vs.toArray
  | x => cellV x

structure St where
  t : List AV
  bx : List (Option (TypeId × List AV))
  live : Nat
  g : List AV
def St.put (s : St) (d : Option Tmp) (x : AV) : St := match d with
  | some d => { s with t := s.t.set d x }
  | none => s
def St.ev (s : St) : Operand → AV
  | .tmp t => s.t.getD t .bad
  | .const v => ofConst v
  | .func f => .fn f []
  | .global _ => .bad
def hasBit (m i : Nat) : Bool := m.testBit i
def addBit (m i : Nat) : Nat := m ||| 2 ^ i
def delBit (m i : Nat) : Nat := m ^^^ 2 ^ i

/-- What a call answers: slices of its own or to read, structs, numbers; one, or several side by side. -/
inductive Sh where
  | one (own : Option TypeId) (t : Ty)
  | tup (l : List (Option TypeId × Ty))
@[reducible] def denL : List (Option TypeId × Ty) → Type
  | [] => Unit
  | (_, t) :: r => t.den × denL r
@[reducible] def Sh.den : Sh → Type
  | .one _ t => t.den
  | .tup l => denL l
/-- Of a type of its own: a slice that is owned; a struct by its cells. -/
def mk1 (id : Nat) : (own : Option TypeId) → (t : Ty) → t.den → AV
  | some T, .sl e, x => .own id T e x
  | _, .pair a b, x => .agg (cellsT (.pair a b) x)
  | _, .unit, _ => .agg []
  | _, t, x => .v t x
def mkL (id : Nat) : (l : List (Option TypeId × Ty)) → denL l → List AV
  | [], _ => []
  | (o, t) :: r, x => mk1 id o t x.1 :: mkL (id + 1) r x.2
def mkAV (id : Nat) : (s : Sh) → s.den → AV
  | .one o t, x => mk1 id o t x
  | .tup l, x => .tup (mkL id l x)
def Ty.isSl : Ty → Bool
  | .sl _ => true
  | _ => false
def bitsL (id : Nat) (m : Nat) : List (Option TypeId × Ty) → Nat
  | [] => m
  | (o, t) :: r => bitsL (id + 1) (if o.isSome && t.isSl then addBit m id else m) r
def Sh.bits (id m : Nat) : Sh → Nat
  | .one o t => if o.isSome && t.isSl then addBit m id else m
  | .tup l => bitsL id m l
/-- Is a slice to read in it (not one of its own)? -/
def Ty.noSl : Ty → Bool
  | .sl _ => false
  | .pair a b => a.noSl && b.noSl
  | _ => true
def fresh1 : Option TypeId × Ty → Bool
  | (some _, .sl e) => e.noSl
  | (_, t) => t.noSl
def Sh.fresh : Sh → Bool
  | .one o t => fresh1 (o, t)
  | .tup l => l.all fresh1
def Sh.noOwn : Sh → Bool
  | .one o t => !(o.isSome && t.isSl)
  | .tup l => l.all fun p => !(p.1.isSome && p.2.isSl)
def Sh.small : Sh → Bool
  | .one _ _ => true
  | .tup l => Nat.ble l.length 8
def Ty.isAgg : Ty → Bool
  | .pair _ _ => true
  | .unit => true
  | _ => false
def AV.isAgg : AV → Bool
  | .agg _ => true
  | _ => false
/-- What a body leaves, as the shape asks. -/
def to1 (live : Nat) : (o : Option TypeId) → (t : Ty) → AV → Option t.den
  | some T, .sl _, .own id T' e xs => if hasBit live id && Nat.beq T T' then Ty.cast (a := .sl e) xs else none
  | some _, .sl _, .nilS => some []
  | some _, .sl _, _ => none
  | _, t, x => if t.isAgg == x.isAgg then x.asTy t else none
def idOf : AV → Option Nat
  | .own id _ _ _ => some id
  | _ => none
def toL (live : Nat) : (l : List (Option TypeId × Ty)) → List AV → Option (denL l)
  | [], [] => some ()
  | (o, t) :: r, x :: xs => match to1 live o t x with
    | some y => match toL (match idOf x with | some id => if hasBit live id then delBit live id else live | none => live) r xs with
      | some ys => some (y, ys)
      | none => none
    | none => none
  | _, _ => none
def toSh (live : Nat) : (s : Sh) → List AV → Option s.den
  | .one o t, [x] => to1 live o t x
  | .tup l, xs => if Nat.beq l.length 1 then none else toL live l xs
  | _, _ => none

structure Ctx where
  P : Program
  typ : TypeId → Option Ty
  sh : FuncId → Sh
  call : (f : FuncId) → List AV → Option (sh f).den
  isIn : FuncId → Bool
  inl : (R : Type) → FuncId → List AV → St → (AV → St → Option R) → Option R

inductive AEx where
  | normal
  | exit (id : Nat)
  | ret

section
variable {R : Type} (Γ : Ctx)
def szOf (P : Program) (t : TypeId) : Nat := ((P.info? t).map (·.size)).getD 0
def isAggT (P : Program) (t : TypeId) : Bool := match P.underlying t with
  | some (.struct _) => true
  | _ => false
/-- Is it a type whose values this machine knows? (Neither struct nor array: one cell.) -/
def isOneT (P : Program) (t : TypeId) : Bool := match P.underlying t with
  | some (.struct _) => false
  | some (.array _ _) => false
  | some _ => true
  | none => false
/-- Some cells as a value of a type. -/
def partA (P : Program) (t : TypeId) (cs : List AV) (off : Nat) : Option AV :=
  if isAggT P t then (if Nat.ble (off + szOf P t) cs.length && Nat.blt 0 (szOf P t) then some (.agg ((cs.drop off).take (szOf P t))) else none)
  else (if isOneT P t && Nat.beq (szOf P t) 1 then cs[off]? else none)
def elemOk (P : Program) (t : TypeId) (ty : Ty) : Bool :=
  match P.info? t with
  | some i => Nat.beq i.size ty.sz && Nat.blt 0 i.size && Nat.blt 0 i.bytes && (match i.zero with | some z => Nat.beq z.cells.size i.size | none => false)
  | none => false
def fieldOf (P : Program) (t : TypeId) (f : Nat) : Option (Nat × TypeId) := match P.underlying t with
  | some (.struct fs) => match fs[f]? with
    | some f => if Nat.blt 0 (szOf P f.type) then some (f.offset, f.type) else none
    | none => none
  | _ => none
/-- What is handed to a call. -/
def byCell : AV → Option AV
  | .v t x => some (.v t x)
  | .al e xs => some (.v (.sl e) xs)
  | .own _ _ e xs => some (.v (.sl e) xs)
  | .raw v => some (.raw v)
  | _ => none
def byCells : List AV → Option (List AV)
  | [] => some []
  | c :: cs => match byCell c, byCells cs with
    | some x, some xs => some (x :: xs)
    | _, _ => none
def byVal (ty : Option Ty) : AV → Option AV
  | .nilS => match ty with
    | some (.sl e) => some (.v (.sl e) [])
    | _ => none
  | .agg cs => (byCells cs).map .agg
  | .ro cs => (byCells cs).map .ro
  | x => byCell x
def byVals (typ : TypeId → Option Ty) : List AV → List TypeId → Option (List AV)
  | [], _ => some []
  | x :: xs, ts => match byVal ((ts.head?).bind typ) x, byVals typ xs ts.tail with
    | some y, some ys => some (y :: ys)
    | _, _ => none
def calmCell : AV → Bool
  | .v _ _ => true
  | .nilS => true
  | .raw _ => true
  | _ => false
/-- Is nothing in it of the frame's own memory? -/
def calm : AV → Bool
  | .agg cs => cs.all calmCell
  | x => calmCell x
def byteAt (s : ByteArray) (i : Int) : Int := if h : i.toNat < s.size then ((s[i.toNat]'h).toNat : Int) else 0
def strOf (xs : List Int) : ByteArray := ⟨(xs.map fun n => UInt8.ofNat n.toNat).toArray⟩
def bytesOf (s : ByteArray) : List Int := s.data.toList.map fun b => (b.toNat : Int)
def evS (P : Program) {α : Type} : Sem α → Option α
  | .pure a => some a
  | .program k => evS P (k P)
  | _ => none
def ofV1 : Value → Option AV
  | .int k n => some (.v (.int k) n)
  | .bool b => some (.v .bool b)
  | .string s => some (.v .str s)
  | .float k b => some (.v (.flt k) b)
  | _ => none
def fin1 (s : St) (d : Option Tmp) (r : Option Value) (K : St → Option R) : Option R := match r with
  | some v => match ofV1 v with
    | some x => K (s.put d x)
    | none => none
  | none => none
def minI (a b : Int) : Int := if b < a then b else a
def maxI (a b : Int) : Int := if b > a then b else a
/-- The smaller, the greater of two floating numbers, neither of which is no number. -/
def minF (k : FloatKind) (x y : Nat) : Nat := if k.format.order x y = some .lt then x else if k.format.order x y = some .gt then y else if (k.decode x).neg then x else y
def maxF (k : FloatKind) (x y : Nat) : Nat := if k.format.order x y = some .gt then x else if k.format.order x y = some .lt then y else if (k.decode x).neg then y else x
def fm2 (mx : Bool) (j : FloatKind) (a b : Nat) : Option Nat := if (j.format.order a b).isSome then some (bif mx then maxF j a b else minF j a b) else none
/-- The smaller, the greater of two whole numbers. -/
def mmV (mx : Bool) : AV → AV → Option AV
  | .v (.int j) a, .v (.int k) b => if Ty.kindNo j == Ty.kindNo k then some (.v (.int j) (bif mx then maxI a b else minI a b)) else none
  | _, _ => none
def mmA (mx : Bool) (x y : AV) (s : St) (d : Option Tmp) (K : St → Option R) : Option R :=
  match x with
  | .v (.flt j) a => match y with
    | .v (.flt k) b => if Ty.fkNo j == Ty.fkNo k then (fm2 mx j a b).bind fun c => K (s.put d (.v (.flt j) c)) else none
    | _ => none
  | x => match mmV mx x y with
    | some z => K (s.put d z)
    | none => none
/-- '==' of cells by their types. -/
def eqCell : Ty → AV → AV → Option Bool
  | .int _, .v (.int j) a, .v (.int k) b => if Ty.kindNo j == Ty.kindNo k then some ((a : Int) == (b : Int)) else none
  | .bool, .v .bool a, .v .bool b => some ((a : Bool) == (b : Bool))
  | .str, .v .str a, .v .str b => some (ByteArray.toList a == ByteArray.toList b)
  | _, _, _ => none
def eqCells : List Ty → List AV → List AV → Option Bool
  | [], [], [] => some true
  | [k], [x], [y] => eqCell k x y
  | k :: ks, x :: xs, y :: ys => match eqCell k x y, eqCells ks xs ys with
    | some a, some b => some (a && b)
    | _, _ => none
  | _, _, _ => none
/-- Does '==' of this type ask just its cells, each once, in order (fuel)? Their types. -/
def plainEq (P : Program) : Nat → TypeId → Option (List Ty)
  | 0, _ => none
  | n + 1, t => match P.underlying t with
    | some (.int k) => some [.int k]
    | some .bool => some [.bool]
    | some .string => some [.str]
    | some (.struct fs) => if P.stoodInHeld t then none else
        fs.toList.foldl (fun a f => match a, plainEq P n f.type with
          | some l, some m => if Nat.beq f.offset l.length && f.name != "_" && Nat.beq (szOf P f.type) m.length && Nat.blt 0 m.length then some (l ++ m) else none
          | _, _ => none) (some [])
    | _ => none
def scalarV : Value → Bool
  | .int _ _ => true
  | .bool _ => true
  | .string _ => true
  | .float _ _ => true
  | _ => false
def plainBin : BinOp → Bool
  | .quo => false | .rem => false | .shl => false | .shr => false
  | _ => true
def binPlain (P : Program) (op : BinOp) (t : TypeId) (x y : AV) (s : St) (d : Option Tmp) (K : St → Option R) : Option R :=
  match cellV x, cellV y with
  | some a, some b => if scalarV a && scalarV b then fin1 s d (evS P (binOp op t a b)) K else none
  | _, _ => none
def aggEq (P : Program) (neg : Bool) (t : TypeId) (xs ys : List AV) (s : St) (d : Option Tmp) (K : St → Option R) : Option R :=
  match plainEq P 8 t with
  | some ks => match eqCells ks xs ys with
    | some b => if isAggT P t && !P.eqGuardType P.depth t then K (s.put d (.v .bool (bif neg then !b else b))) else none
    | none => none
  | none => none
def binA (P : Program) (op : BinOp) (t : TypeId) (x y : AV) (s : St) (d : Option Tmp) (K : St → Option R) : Option R :=
  match op, x, y with
  | .add, .v (.flt k) a, .v (.flt j) b => if Ty.fkNo k == Ty.fkNo j then (k.format.add a b).bind fun r => K (s.put d (.v (.flt k) r)) else none
  | .sub, .v (.flt k) a, .v (.flt j) b => if Ty.fkNo k == Ty.fkNo j then (k.format.sub a b).bind fun r => K (s.put d (.v (.flt k) r)) else none
  | .mul, .v (.flt k) a, .v (.flt j) b => if Ty.fkNo k == Ty.fkNo j then (k.format.mul a b).bind fun r => K (s.put d (.v (.flt k) r)) else none
  | .quo, .v (.flt k) a, .v (.flt j) b => if Ty.fkNo k == Ty.fkNo j then (k.format.div a b).bind fun r => K (s.put d (.v (.flt k) r)) else none
  | .quo, .v (.int k) a, .v (.int j) b => if Ty.kindNo k == Ty.kindNo j then (if (b : Int) = 0 then none else K (s.put d (.v (.int k) (k.wrap (Int.tdiv a b))))) else none
  | .rem, .v (.int k) a, .v (.int j) b => if Ty.kindNo k == Ty.kindNo j then (if (b : Int) = 0 then none else K (s.put d (.v (.int k) (Int.tmod a b)))) else none
  | .shl, .v (.int k) a, .v (.int _) b => if (b : Int) < 0 then none else K (s.put d (.v (.int k) (k.wrap (a * 2 ^ (min (Int.toNat b) k.bits)))))
  | .shr, .v (.int k) a, .v (.int _) b => if (b : Int) < 0 then none else K (s.put d (.v (.int k) (Int.fdiv a (2 ^ (min (Int.toNat b) k.bits)))))
  | .add, .v .str a, .v .str b => if ((a.size + b.size : Nat) : Int) > IntKind.i64.max then none else K (s.put d (.v .str (a ++ b)))
  | .eql, .agg xs, .agg ys => aggEq P false t xs ys s d K
  | .neq, .agg xs, .agg ys => aggEq P true t xs ys s d K
  | .quo, _, _ => none
  | .rem, _, _ => none
  | .shl, _, _ => none
  | .shr, _, _ => none
  | op, x, y => binPlain P op t x y s d K
def isCap : AV → Bool
  | .ptr _ _ => true
  | .raw _ => true
  | _ => false
/-- A floating number as a whole one, where it fits. -/
def fToI (k : FloatKind) (b : Nat) (j : IntKind) : Option Int := match (k.decode b).toInt .zero with
  | some n => if j.min ≤ n ∧ n ≤ j.max then some n else none
  | none => none
def isNil : Option AV → Bool
  | some .nilS => true
  | _ => false
def optInt : Option AV → Option (Option Int)
  | none => some none
  | some (.v (.int _) n) => some (some n)
  | _ => none
def cutA (n : Nat) (lo hi : Option Int) (K : Nat → Nat → Option R) : Option R := match lo, hi with
  | none, none => K 0 n
  | some l, none => if 0 ≤ l ∧ l ≤ (n : Int) then K l.toNat n else none
  | none, some h => if 0 ≤ h ∧ h ≤ (n : Int) then K 0 h.toNat else none
  | some l, some h => if 0 ≤ l ∧ l ≤ h ∧ h ≤ (n : Int) then K l.toNat h.toNat else none
def sliceA (x : AV) (lo hi : Option Int) (s : St) (d : Option Tmp) (K : St → Option R) : Option R := match x with
  | .v .str b => cutA b.size lo hi fun l h => K (s.put d (.v .str (b.extract l h)))
  | .v (.sl e) xs => cutA (List.length xs) lo hi fun l h => K (s.put d (.v (.sl e) ((List.take h xs).drop l)))
  | .al e xs => cutA xs.length lo hi fun l h => K (s.put d (.al e ((xs.take h).drop l)))
  | .own _ _ e xs => cutA xs.length lo hi fun l h => K (s.put d (.al e ((xs.take h).drop l)))
  | _ => none
def slElems : AV → Option (Σ e : Ty, List e.den)
  | .v (.sl e) xs => some ⟨e, xs⟩
  | .al e xs => some ⟨e, xs⟩
  | .own _ _ e xs => some ⟨e, xs⟩
  | _ => none
/-- An element's place. -/
def atA (x : AV) (e : Ty) (xs : List e.den) (i : Nat) : AV := match x with
  | .own id T _ _ => .el id T e xs i
  | _ => .ro (cellsT e (xs.getD i e.dflt))
def indexA (P : Program) (t : TypeId) (x ix : AV) (s : St) (d : Option Tmp) (K : St → Option R) : Option R :=
  match P.underlying t, slElems x, ix with
  | some (.slice et), some ⟨e, xs⟩, .v (.int _) i =>
    if elemOk P et e then (if 0 ≤ (i : Int) ∧ i < (xs.length : Int) then K (s.put d (atA x e xs i.toNat)) else none) else none
  | _, _, _ => none
def setCells (cs new : List AV) (off : Nat) : List AV := cs.take off ++ new ++ cs.drop (off + new.length)
/-- What stands behind a write to an element of a slice of the frame's own. -/
def wrCell (live id i : Nat) (e : Ty) (y : e.den) : AV → AV
  | .own j T e' ys => if Nat.beq j id then (match (Ty.cast (a := e) (b := e') y : Option e'.den) with
      | some y' => .own j T e' (ys.set i y')
      | none => .bad) else (if hasBit live j then .own j T e' ys else .bad)
  | .el j T e' ys k => if Nat.beq j id then (match (Ty.cast (a := e) (b := e') y : Option e'.den) with
      | some y' => .el j T e' (ys.set i y') k
      | none => .bad) else (if hasBit live j then .el j T e' ys k else .bad)
  | .v t x => .v t x
  | .nilS => .nilS
  | .ptr b off => .ptr b off
  | .raw v => .raw v
  | .fn f caps => .fn f caps
  | _ => .bad
def wrAV (live id i : Nat) (e : Ty) (y : e.den) : AV → AV
  | .agg cs => .agg (cs.map (wrCell live id i e y))
  | x => wrCell live id i e y x
def wrSt (s : St) (id i : Nat) (e : Ty) (y : e.den) : St :=
  { t := s.t.map (wrAV s.live id i e y)
    bx := s.bx.map (Option.map fun p => (p.1, p.2.map (wrCell s.live id i e y)))
    live := s.live
    g := s.g.map (wrAV s.live id i e y) }
def sizedCells (P : Program) (t : TypeId) (x : AV) : Option (List AV) := match x.cells with
  | some cs => if Nat.beq cs.length (szOf P t) && cs.all okCell then some cs else none
  | none => none
def roomOk : Nat := 140737488355328
def bytesT (P : Program) (t : TypeId) : Nat := ((P.info? t).map (·.bytes)).getD 0
/-- The sorts of a slice's elements, by the slice's type. -/
def elemTy (Γ : Ctx) (t : TypeId) : Option (TypeId × Ty) := match Γ.P.underlying t with
  | some (.slice e) => match Γ.typ e with
    | some ty => if elemOk Γ.P e ty then some (e, ty) else none
    | none => none
  | _ => none
/-- What is appended to: elements, and the live slices without it. -/
def headOf (et : TypeId) (e : Ty) (live : Nat) : AV → Option (List e.den × Nat)
  | .own id T e' xs => if hasBit live id && Nat.beq T et then (Ty.cast (a := .sl e') (b := .sl e) xs : Option (List e.den)).map (·, delBit live id) else none
  | .nilS => some ([], live)
  | _ => none
def appendA (id : Nat) (t tx : TypeId) (x y : AV) (s : St) (d : Option Tmp) (K : St → Option R) : Option R :=
  match elemTy Γ t with
  | some (et, e) => match headOf et e s.live x with
    | some (xs, live) =>
      match Γ.P.underlying tx with
      | some .string => match y, e with
        | .v .str b, .int .u8 => if ((xs : List Int).length + b.size) * bytesT Γ.P et ≤ roomOk then K (St.put { s with live := addBit live id } d (.own id et (.int .u8) ((xs : List Int) ++ bytesOf b))) else none
        | _, _ => none
      | some (.slice _) => match y.asSl e with
        | some ys => if (xs.length + ys.length) * bytesT Γ.P et ≤ roomOk then K (St.put { s with live := addBit live id } d (.own id et e (xs ++ ys))) else none
        | none => none
      | _ => none
    | none => none
  | none => none
def partsA (e : Ty) : Nat → List (Nat × AV) → Option (List e.den)
  | _, [] => some []
  | n, (i, x) :: r => if Nat.beq i n then (match x.asTy e, partsA e (n + 1) r with
    | some y, some ys => some (y :: ys)
    | _, _ => none) else none
/-- A struct's cells, its parts laid in. -/
def fillA (P : Program) (t : TypeId) : List AV → List (Nat × AV) → Option (List AV)
  | cs, [] => some cs
  | cs, (i, x) :: r => match fieldOf P t i with
    | some (off, ft) => match sizedCells P ft x with
      | some new => if Nat.ble (off + new.length) cs.length then fillA P t (setCells cs new off) r else none
      | none => none
    | none => none
def placesOk (P : Program) (t : TypeId) : Bool := match P.underlying t with
  | some (.struct fields) => (fields.toList.mapM (fun f => (P.info? f.type).map fun i => (f.offset, i.size))).isSome
  | _ => false
def fillB (P : Program) (t : TypeId) (cs : List AV) (parts : List (Nat × AV)) : Option (List AV) := if placesOk P t then fillA P t cs parts else none
def lenA (x : AV) : Option Nat := match x with
  | .v .str b => some b.size
  | .v (.sl _) xs => some (List.length xs)
  | .al _ xs => some xs.length
  | .own _ _ _ xs => some xs.length
  | .nilS => some 0
  | _ => none
def callA (id : Nat) (f : FuncId) (args : List AV) (ts : List TypeId) (s : St) (d : Option Tmp) (K : St → Option R) : Option R :=
  match byVals Γ.typ args ts with
  | some vs => if ((Γ.sh f).fresh || args.all calm) && (Γ.sh f).small then
      (Γ.call f vs).bind fun r => K (St.put { s with live := (Γ.sh f).bits id s.live } d (mkAV id (Γ.sh f) r))
    else none
  | none => none
def aOp (n : Nat) (o : Oper) (s : St) (K : St → Option R) : Option R := match o.op with
  | .move x => K (s.put o.dst (s.ev x))
  | .assign x => K (s.put o.dst (s.ev x))
  | .pick c a b => match s.ev c with
    | .v .bool c => bif c then K (s.put o.dst (s.ev a)) else K (s.put o.dst (s.ev b))
    | _ => none
  | .box T x => match sizedCells Γ.P T (s.ev x) with
    | some cs => if Nat.blt n s.bx.length then K (St.put { s with bx := s.bx.set n (some (T, cs)) } o.dst (.ptr n 0)) else none
    | none => none
  | .alloc T => match (Γ.P.info? T).bind (·.zero) with
    | some z => match sizedCells Γ.P T (ofConst z) with
      | some cs => if Nat.blt n s.bx.length then K (St.put { s with bx := s.bx.set n (some (T, cs)) } o.dst (.ptr n 0)) else none
      | none => none
    | none => none
  | .load T a => match s.ev a with
    | .ptr b off => match s.bx[b]? with
      | some (some (_, cs)) => match partA Γ.P T cs off with
        | some x => K (s.put o.dst x)
        | none => none
      | _ => none
    | .ro cs => match partA Γ.P T cs 0 with
      | some x => K (s.put o.dst x)
      | none => none
    | .el _ _ e xs i => match partA Γ.P T (cellsT e (xs.getD i e.dflt)) 0 with
      | some x => K (s.put o.dst x)
      | none => none
    | _ => none
  | .store T a x => match s.ev a, sizedCells Γ.P T (s.ev x) with
    | .ptr b off, some new => match s.bx[b]? with
      | some (some (T', cs)) => if Nat.ble (off + new.length) cs.length && Nat.blt 0 (szOf Γ.P T) then K (St.put { s with bx := s.bx.set b (some (T', setCells cs new off)) } o.dst (.raw undef)) else none
      | _ => none
    | .el id _ e _ i, some _ => match (s.ev x).asTy e with
      | some y => if hasBit s.live id && Nat.blt 0 (szOf Γ.P T) then K ((wrSt s id i e y).put o.dst (.raw undef)) else none
      | none => none
    | _, _ => none
  | .nilCheck x => match s.ev x with
    | .ptr b off => K (s.put o.dst (.ptr b off))
    | .ro cs => K (s.put o.dst (.ro cs))
    | .el id T e xs i => K (s.put o.dst (.el id T e xs i))
    | _ => none
  | .fieldAddr S x f => match s.ev x, fieldOf Γ.P S f with
    | .ptr b off, some (k, _) => K (s.put o.dst (.ptr b (off + k)))
    | .ro cs, some (k, _) => K (s.put o.dst (.ro (cs.drop k)))
    | .el _ _ e xs i, some (k, _) => K (s.put o.dst (.ro ((cellsT e (xs.getD i e.dflt)).drop k)))
    | _, _ => none
  | .field S x f => match s.ev x, fieldOf Γ.P S f with
    | .agg cs, some (k, ft) => match partA Γ.P ft cs k with
      | some x => K (s.put o.dst x)
      | none => none
    | _, _ => none
  | .indexAddr t x ix => indexA Γ.P t (s.ev x) (s.ev ix) s o.dst K
  | .index t x ix => match Γ.P.underlying t, s.ev x, s.ev ix with
    | some .string, .v .str b, .v (.int _) i => if 0 ≤ (i : Int) ∧ i < (b.size : Int) then K (s.put o.dst (.v (.int .u8) (byteAt b i))) else none
    | _, _, _ => none
  | .slice t x lo hi mx => match mx, optInt (lo.map s.ev), optInt (hi.map s.ev), Γ.P.underlying t with
    | none, some l, some h, some .string => (match s.ev x with | .v .str b => sliceA (.v .str b) l h s o.dst K | _ => none)
    | none, some l, some h, some (.slice et) => (match slElems (s.ev x) with
      | some ⟨e, _⟩ => if elemOk Γ.P et e then sliceA (s.ev x) l h s o.dst K else none
      | none => if isNil (some (s.ev x)) && Nat.blt 0 (szOf Γ.P et) then cutA 0 l h (fun _ _ => K (s.put o.dst .nilS)) else none)
    | _, _, _, _ => none
  | .makeSlice t l c => match elemTy Γ t, s.ev l, s.ev c with
    | some (et, e), .v (.int .i64) a, .v (.int .i64) b => match (Γ.P.info? et).bind (·.zero) with
      | some z => match (ofConst z).asTy e with
        | some x => if (0 : Int) ≤ a ∧ (a : Int) = b ∧ (b : Int) * (bytesT Γ.P et : Int) ≤ (roomOk : Int) then
            K (St.put { s with live := addBit s.live (8 * n) } o.dst (.own (8 * n) et e (List.replicate (Int.toNat a) x))) else none
        | none => none
      | none => none
    | _, _, _ => none
  | .buildSlice t len parts => match elemTy Γ t with
    | some (et, e) => match partsA e 0 (parts.toList.map fun (i, x) => (i, s.ev x)) with
      | some xs => if Nat.beq parts.size len && Nat.ble (len * e.sz) 1000 && Nat.ble len 1000 then K (St.put { s with live := addBit s.live (8 * n) } o.dst (.own (8 * n) et e xs)) else none
      | none => none
    | none => none
  | .build t parts => match Γ.P.underlying t, (Γ.P.info? t).bind (·.zero) with
    | some (.struct _), some (.agg z) => match (ofConst (.agg z)) with
      | .agg cs => match fillB Γ.P t cs (parts.toList.map fun (i, x) => (i, s.ev x)) with
        | some cs' => K (s.put o.dst (.agg cs'))
        | none => none
      | _ => none
    | _, _ => none
  | .extract x i => match s.ev x with
    | .tup vs => match vs[i]? with
      | some y => K (s.put o.dst y)
      | none => none
    | _ => none
  | .binOp op t x y _ => binA Γ.P op t (s.ev x) (s.ev y) s o.dst K
  | .unOp op _ x => match cellV (s.ev x) with
    | some a => if scalarV a then fin1 s o.dst (evS Γ.P (Op.unary op a)) K else none
    | none => none
  | .makeFunc fn first caps => match fn, first.toList with
    | .func f, [] => if (caps.toList.map s.ev).all isCap then K (s.put o.dst (.fn f (caps.toList.map s.ev))) else none
    | _, _ => none
  | .convert src dst x => match s.ev x with
    | .v (.flt k) b => (match Γ.P.underlying dst with
      | some (.int j) => (match Γ.P.underlying src with
        | some (.float _) => (fToI k b j).bind fun n => K (s.put o.dst (.v (.int j) n))
        | _ => none)
      | _ => (if scalarV (.float k b) then fin1 s o.dst (evS Γ.P (convert src dst (.float k b))) K else none))
    | .v (.sl (.int .u8)) xs => (match Γ.P.underlying src, Γ.P.underlying dst with
      | some (.slice et), some .string => (match Γ.P.underlying et with | some (.int .u8) => K (s.put o.dst (.v .str (strOf xs))) | _ => none)
      | _, _ => none)
    | .al (.int .u8) xs => (match Γ.P.underlying src, Γ.P.underlying dst with
      | some (.slice et), some .string => (match Γ.P.underlying et with | some (.int .u8) => K (s.put o.dst (.v .str (strOf xs))) | _ => none)
      | _, _ => none)
    | .own _ _ (.int .u8) xs => (match Γ.P.underlying src, Γ.P.underlying dst with
      | some (.slice et), some .string => (match Γ.P.underlying et with | some (.int .u8) => K (s.put o.dst (.v .str (strOf xs))) | _ => none)
      | _, _ => none)
    | .nilS => (match Γ.P.underlying src, Γ.P.underlying dst with
      | some (.slice et), some .string => (match Γ.P.underlying et with | some (.int .u8) => K (s.put o.dst (.v .str ByteArray.empty)) | _ => none)
      | _, _ => none)
    | x => match cellV x with
      | some a => if scalarV a then fin1 s o.dst (evS Γ.P (convert src dst a)) K else none
      | none => none
  | .call c => match c.callee with
    | .value f => match s.ev f with
      | .fn f [] => callA Γ (8 * n) f ((c.args.toList).map s.ev) c.argTypes.toList s o.dst K
      | _ => none
    | .builtin .len => match c.args.toList, c.argTypes.toList with
      | [x], [t] => (match Γ.P.underlying t with
        | some .string => (match s.ev x with | .v .str b => K (s.put o.dst (.v (.int .i64) (b.size : Int))) | _ => none)
        | some (.slice _) => (match slElems (s.ev x), s.ev x with
          | some ⟨_, xs⟩, _ => K (s.put o.dst (.v (.int .i64) (xs.length : Int)))
          | none, .nilS => K (s.put o.dst (.v (.int .i64) (0 : Int)))
          | none, _ => none)
        | _ => none)
      | _, _ => none
    | .builtin .min => match c.args.toList with
      | [x, y] => mmA false (s.ev x) (s.ev y) s o.dst K
      | _ => none
    | .builtin .max => match c.args.toList with
      | [x, y] => mmA true (s.ev x) (s.ev y) s o.dst K
      | _ => none
    | .builtin .append => match c.args.toList, c.argTypes.toList with
      | [x, y], [t, tx] => appendA Γ (8 * n) t tx (s.ev x) (s.ev y) s o.dst K
      | _, _ => none
    | _ => none
  | _ => none
/-- One operation of a region, under its guard. -/
def aGuard (ops : Array Oper) (n : Nat) (o : Oper) (s : St) (K : St → Option R) : Option R := match o.guard with
  | none => aOp Γ n o s K
  | some (j, want) => match (ops[j]?).bind (·.dst) with
    | none => none
    | some g => match s.t.getD g .bad with
      | .v .bool b => bif b == want then aOp Γ n o (s.put (some g) (.v .bool want)) K else K ((s.put (some g) (.v .bool (!want))).put o.dst (.raw undef))
      | .raw (.tuple _) => K (s.put o.dst (.raw undef))
      | _ => none
/-! The state, laid out: (propositionally nothing; for the one who reckons, everything). -/
def fNat (n : Nat) (K : Nat → R) : R := Nat.rec (motive := fun _ => R) (K 0) (fun m _ => K (m + 1)) n
def fList {α : Type} (l : List α) : (List α → R) → R := List.rec (motive := fun _ => (List α → R) → R) (fun K => K []) (fun a _ ih K => ih fun l => K (a :: l)) l
def fSt (s : St) (K : St → R) : R := fList s.t fun t => fNat s.live fun live => K { t := t, bx := s.bx, live := live, g := s.g }
theorem fNat_eq (n : Nat) (K : Nat → R) : fNat n K = K n := by cases n <;> rfl
theorem fList_eq {α : Type} : ∀ (l : List α) (K : List α → R), fList l K = K l
  | [], _ => rfl
  | a :: l, K => by
    show fList l (fun l => K (a :: l)) = _
    rw [fList_eq l]
theorem fSt_eq (s : St) (K : St → R) : fSt s K = K s := by simp [fSt, fList_eq, fNat_eq]
/-- May it be a call that is reckoned inside the caller's frame? -/
def mayInl (o : Oper) : Bool := match o.op with
  | .call c => match c.callee with
    | .value (.func f) => Γ.isIn f
    | .value (.tmp _) => true
    | _ => false
  | _ => false
/-- Whom it calls, and with what kept. -/
def inlOf (s : St) (o : Oper) : Option (FuncId × List AV × Call) := match o.op with
  | .call c => match c.callee with
    | .value (.func f) => some (f, [], c)
    | .value (.tmp t) => match s.t.getD t .bad with
      | .fn f caps => some (f, caps, c)
      | _ => none
    | _ => none
  | _ => none
def goInl (o : Oper) (s : St) (K : St → Option R) : Option R := match inlOf s o with
  | some (f, caps, c) => Γ.inl R f (c.args.toList.map s.ev ++ caps) s fun v s' => K (s'.put o.dst v)
  | none => none
/-- Such a call, under its guard. -/
def aInl (ops : Array Oper) (o : Oper) (s : St) (K : St → Option R) : Option R := match o.guard with
  | none => goInl Γ o s K
  | some (j, want) => match (ops[j]?).bind (·.dst) with
    | none => none
    | some g => match s.t.getD g .bad with
      | .v .bool b => bif b == want then goInl Γ o (s.put (some g) (.v .bool want)) K
          else K ((s.put (some g) (.v .bool (!want))).put o.dst (.raw undef))
      | .raw (.tuple _) => K (s.put o.dst (.raw undef))
      | _ => none
/-- The operations one by one. Behind a call that is reckoned inside, the numbers begin anew. -/
def aOps (ops : Array Oper) : Nat → List Nat → St → (St → Option R) → Option R
  | _, [], s, K => K s
  | base, i :: r, s, K => match ops[i]? with
    | none => none
    | some o => match mayInl Γ o with
      | true => aInl Γ ops o s fun s' => fNat s'.bx.length fun base' => aOps ops base' r { s' with bx := s'.bx ++ List.replicate ops.size none } K
      | false => fNat (base + i) fun n => aGuard Γ ops n o s fun s' => fSt s' fun s' => aOps ops base r s' K
end

/-! ### control -/
def tmpsOf (l : List Operand) : List Nat := l.filterMap fun | .tmp t => some t | _ => none
/-- Reads (true) and writes of temporaries, in the text's order. -/
def evOps (ops : Array Oper) : List Oper → List (Bool × Nat)
  | [] => []
  | o :: r => (tmpsOf o.op.operands.toList).map (true, ·) ++ (match o.guard with | some (j, _) => (match (ops[j]?).bind (·.dst) with | some g => [(true, g)] | none => []) | none => [])
      ++ (match o.dst with | some d => [(false, d)] | none => []) ++ evOps ops r
def evCode : Code → List (Bool × Nat)
  | .seq a b => evCode a ++ evCode b
  | .cond c x y => (tmpsOf [c]).map (true, ·) ++ evCode x ++ evCode y
  | .block _ c => evCode c
  | .loop c => evCode c
  | .scope c => evCode c
  | .region _ ops _ => evOps ops ops.toList
  | _ => []
/-- Which temporaries are written ahead of every read. -/
def killMask : List (Bool × Nat) → Nat → Nat → Nat
  | [], _, k => k
  | (true, t) :: r, seen, k => if hasBit k t then killMask r seen k else killMask r (addBit seen t) k
  | (false, t) :: r, seen, k => if hasBit seen t then killMask r seen k else killMask r seen (addBit k t)
def killAt (m : Nat) : Nat → List AV → List AV
  | _, [] => []
  | i, x :: xs => (if hasBit m i then .bad else x) :: killAt m (i + 1) xs
def addId (l : List Nat) (i : Nat) : List Nat := if l.any (Nat.beq i ·) then l else l ++ [i]
def capIds : List AV → List Nat → List Nat
  | [], l => l
  | .ptr b _ :: r, l => capIds r (addId l b)
  | _ :: r, l => capIds r l
def boxIds : List AV → List Nat → List Nat
  | [], l => l
  | .ptr b _ :: r, l => boxIds r (addId l b)
  | .fn _ caps :: r, l => boxIds r (capIds caps l)
  | _ :: r, l => boxIds r l
def cellIds : List AV → List Nat → List Nat
  | [], l => l
  | .own i _ _ _ :: r, l => cellIds r (addId l i)
  | _ :: r, l => cellIds r l
def tokIds : List AV → List Nat → List Nat
  | [], l => l
  | .own i _ _ _ :: r, l => tokIds r (addId l i)
  | .agg cs :: r, l => tokIds r (cellIds cs l)
  | _ :: r, l => tokIds r l
def idx (i : Nat) : Nat → List Nat → Option Nat
  | _, [] => none
  | n, j :: r => if Nat.beq i j then some n else idx i (n + 1) r
def renCell (toks : List Nat) : AV → AV
  | .own i T e xs => match idx i 0 toks with
    | some k => .own k T e xs
    | none => .bad
  | .v t x => .v t x
  | .al e xs => .al e xs
  | .nilS => .nilS
  | .raw v => .raw v
  | _ => .bad
def renCap (bxs : List Nat) : AV → AV
  | .ptr b off => match idx b 0 bxs with
    | some k => .ptr k off
    | none => .bad
  | .raw v => .raw v
  | _ => .bad
def renTmp (bxs toks : List Nat) : AV → AV
  | .agg cs => .agg (cs.map (renCell toks))
  | .ptr b off => match idx b 0 bxs with
    | some k => .ptr k off
    | none => .bad
  | .ro cs => .ro cs
  | .fn f caps => .fn f (caps.map (renCap bxs))
  | x => renCell toks x
/-- What the callers keep: looks at cells are given up. -/
def renG (bxs toks : List Nat) : AV → AV
  | .ro _ => .bad
  | x => renTmp bxs toks x
def liveL (live : Nat) : Nat → List Nat → Nat
  | _, [] => 0
  | n, i :: r => if hasBit live i then addBit (liveL live (n + 1) r) n else liveL live (n + 1) r
def boxesOf (bx : List (Option (TypeId × List AV))) : List Nat → List AV
  | [] => []
  | b :: r => (match bx[b]? with | some (some (_, cs)) => cs | _ => []) ++ boxesOf bx r
/-- At a loop, named by its first region: temporaries to strike at its head, and where it is left; temporaries with no slice yet, to be taken as slices of the frame's own. -/
abbrev Hints := Nat → Nat × Nat × List (Nat × TypeId × Ty) × List (Nat × Nat × TypeId × Ty)
def noHints : Hints := fun _ => (0, 0, [], [])
def firstReg : Code → Option Nat
  | .seq a b => match firstReg a with
    | some i => some i
    | none => firstReg b
  | .cond _ x y => match firstReg x with
    | some i => some i
    | none => firstReg y
  | .block _ c => firstReg c
  | .loop c => firstReg c
  | .scope c => firstReg c
  | .region id _ _ => some id
  | _ => none
def nilsAt : Nat → List (Nat × TypeId × Ty) → List AV → List AV
  | _, [], t => t
  | n, (i, T, e) :: r, t => nilsAt (n + 1) r (match t[i]? with
    | some .nilS => t.set i (.own n T e [])
    | _ => t)
def useNils (t : List AV) (l : List (Nat × TypeId × Ty)) : List (Nat × TypeId × Ty) := l.filter fun p => isNil t[p.1]?
/-- .. in boxes. -/
def nilCell (n : Nat) (T : TypeId) (e : Ty) : AV → AV
  | .nilS => .own n T e []
  | x => x
def nilsBx : Nat → List (Nat × Nat × TypeId × Ty) → List (Option (TypeId × List AV)) → List (Option (TypeId × List AV))
  | _, [], bx => bx
  | n, (b, j, T, e) :: r, bx => nilsBx (n + 1) r (match bx[b]? with
    | some (some (T0, cs)) => bx.set b (some (T0, cs.set j (nilCell n T e (cs.getD j .bad))))
    | _ => bx)
def useNilsB (bx : List (Option (TypeId × List AV))) (l : List (Nat × Nat × TypeId × Ty)) : List (Nat × Nat × TypeId × Ty) := l.filter fun p => match bx[p.1]? with
  | some (some (_, cs)) => isNil cs[p.2.1]?
  | _ => false
def addBits (m n : Nat) : Nat → Nat
  | 0 => m
  | k + 1 => addBits (addBit m n) (n + 1) k
/-- The state at a loop's head: what is dead is struck, what is the frame's own gets new numbers, in order. -/
def canon (keep : Hints) (c : Code) (s : St) : St :=
  let h := keep ((firstReg c).getD 0)
  let t := killAt h.1 0 (killAt (killMask (evCode c) 0 0) 0 s.t)
  let bxs := boxIds (t ++ s.g) []
  let toks := tokIds (t ++ s.g) (cellIds (boxesOf s.bx bxs) [])
  let t1 := t.map (renTmp bxs toks)
  let ns := useNils t1 h.2.2.1
  let bx1 := bxs.map (fun b => match s.bx[b]? with | some (some (T, cs)) => some (T, cs.map (renCell toks)) | _ => none)
  let nb := useNilsB bx1 h.2.2.2
  { t := nilsAt toks.length ns t1
    bx := nilsBx (toks.length + ns.length) nb bx1 ++ List.replicate (toks.length + (ns.length + nb.length)) none
    live := addBits (liveL s.live 0 toks) toks.length (ns.length + nb.length)
    g := s.g.map (renG bxs toks) }
/-- .. where it is left. -/
def strike (keep : Hints) (c : Code) (s : St) : St := { s with t := killAt (keep ((firstReg c).getD 0)).2.1 0 s.t }
/-! The pairs of a region that may come up in either order. -/
inductive Cls where
  | pure | load | tok | other | wr | app
def clsOf (Γ : Ctx) (o : Oper) : Cls := match o.op with
  | .move _ => .pure
  | .assign _ => .pure
  | .pick .. => .pure
  | .nilCheck _ => .pure
  | .fieldAddr .. => .pure
  | .field .. => .pure
  | .build .. => .pure
  | .indexAddr .. => .pure
  | .index .. => .pure
  | .slice .. => .pure
  | .extract .. => .pure
  | .binOp .. => .pure
  | .unOp .. => .pure
  | .convert .. => .pure
  | .load .. => .load
  | .store .. => .wr
  | .makeFunc .. => .pure
  | .makeSlice .. => .tok
  | .buildSlice .. => .tok
  | .call c => match c.callee with
    | .value (.func f) => if (Γ.sh f).noOwn then .pure else .tok
    | .builtin .len => .pure
    | .builtin .min => .pure
    | .builtin .max => .pure
    | .builtin .append => .app
    | _ => .other
  | _ => .other
def clsFree : Cls → Cls → Bool
  | .wr, _ => false
  | _, .wr => false
  | .pure, _ => true
  | _, .pure => true
  | .load, .load => true
  | .load, .tok => true
  | .tok, .load => true
  | .tok, .tok => true
  | .load, .app => true
  | .app, .load => true
  | _, _ => false
def edgeMask (masks : List Nat) : List Edge → Nat
  | [] => 0
  | e :: r => if Region.binds .any e then (2 ^ e.on ||| masks.getD e.on 0) ||| edgeMask masks r else edgeMask masks r
/-- For each operation those ahead of it, by its edges and theirs. -/
def masksOf : List Oper → List Nat → List Nat
  | [], ms => ms
  | o :: r, ms => masksOf r (ms ++ [edgeMask ms o.after.toList])
def edgesBack (o : Oper) (i : Nat) : Bool := o.after.toList.all fun e => !Region.binds .any e || Nat.blt e.on i
def pairsOk (Γ : Ctx) (ops : Array Oper) (masks : List Nat) : List (Oper × Nat) → Bool
  | [] => true
  | (o, i) :: r => edgesBack o i && (ops.toList.zipIdx.all fun (y, j) => !Nat.blt j i || hasBit (masks.getD i 0) j || (Oper.apart ops y o && clsFree (clsOf Γ y) (clsOf Γ o) && !mayInl Γ y && !mayInl Γ o)) && pairsOk Γ ops masks r
def regionOk (Γ : Ctx) (ops : Array Oper) : Bool := pairsOk Γ ops (masksOf ops.toList []) ops.toList.zipIdx

section
variable {R : Type} (Γ : Ctx) (keep : Hints)
abbrev LoopK (R : Type) := Code → St → (AEx → St → Option R) → Option R
def aCode (L : LoopK R) : Code → St → (AEx → St → Option R) → Option R
  | .skip, s, K => K .normal s
  | .label _, s, K => K .normal s
  | .seq a b, s, K => aCode L a s fun e s' => match e with
    | .normal => aCode L b s' K
    | e => K e s'
  | .cond c x y, s, K => match s.ev c with
    | .v .bool b => bif b then aCode L x s K else aCode L y s K
    | _ => none
  | .block id c, s, K => aCode L c s fun e s' => match e with
    | .exit j => if Nat.beq j id then K .normal s' else K (.exit j) s'
    | e => K e s'
  | .loop c, s, K => L c (canon keep c s) K
  | .exit id, s, K => K (.exit id) s
  | .scope c, s, K => aCode L c s K
  | .ret, s, K => K .ret s
  | .region _ ops draw, s, K => if !draw || (Γ.P.follows .mixedOrders && regionOk Γ ops) then
      aOps Γ ops s.bx.length (List.range ops.size) { s with bx := s.bx ++ List.replicate ops.size none } (K .normal) else none
  | _, _, _ => none
def iter : Nat → LoopK R
  | 0, _, _, _ => none
  | n + 1, c, s, K => aCode Γ keep (iter n) c s fun e s' => match e with
    | .normal => iter n c (canon keep c s') K
    | e => K e (strike keep c s')
def resA (s : St) : ResultVar → Option AV
  | .tmp t => some (s.t.getD t .bad)
  | .cell a T => match s.t.getD a .bad with
    | .ptr b off => match s.bx[b]? with
      | some (some (_, cs)) => partA Γ.P T cs off
      | _ => none
    | _ => none
def resL (s : St) : List ResultVar → Option (List AV)
  | [] => some []
  | r :: rs => match resA Γ s r, resL s rs with
    | some x, some xs => some (x :: xs)
    | _, _ => none
def finA (fn : Func) (sh : Sh) : AEx → St → Option sh.den
  | .exit _, _ => none
  | _, s => match resL Γ s fn.results.toList with
    | some xs => toSh s.live sh xs
    | none => none
def aBody (L : (R : Type) → LoopK R) (fn : Func) (sh : Sh) (args : List AV) : Option sh.den := match fn.body with
  | some c => aCode Γ keep (L sh.den) c { t := args ++ List.replicate (fn.ntmps - args.length) (.raw undef), bx := [], live := 0, g := [] } (finA Γ fn sh)
  | none => none
end
/-- What a body reckoned inside leaves: its answer; the caller's temporaries are taken back. -/
def inFin {R : Type} (Γ : Ctx) (fn : Func) (k : Nat) (K : AV → St → Option R) : AEx → St → Option R
  | .exit _, _ => none
  | _, s => match resL Γ s fn.results.toList with
    | some [x] => K x { t := s.g.take k, bx := s.bx, live := s.live, g := s.g.drop k }
    | some xs => if xs.all (fun | .tup _ => false | _ => true) then K (.tup xs) { t := s.g.take k, bx := s.bx, live := s.live, g := s.g.drop k } else none
    | none => none
structure Base where
  P : Program
  typ : TypeId → Option Ty
  sh : FuncId → Sh
  keep : FuncId → Hints
  isIn : FuncId → Bool
  sp : (f : FuncId) → Option (List AV → Option (sh f).den)
abbrev CallT (B : Base) : Type := (f : FuncId) → List AV → Option (B.sh f).den
abbrev InlT : Type 1 := (R : Type) → FuncId → List AV → St → (AV → St → Option R) → Option R
/-- The machine's context over what its calls answer. -/
@[reducible] def mkC (B : Base) (call : CallT B) (inl : InlT) : Ctx := { P := B.P, typ := B.typ, sh := B.sh, call := call, isIn := B.isIn, inl := inl }
def stepN (B : Base) (call : CallT B) (inl : InlT) (n : Nat) (f : FuncId) (args : List AV) : Option (B.sh f).den := match B.sp f with
  | some g => g args
  | none => match B.P.funcs[f]? with
    | some fn => aBody (mkC B call inl) (B.keep f) (fun R => iter (R := R) (mkC B call inl) (B.keep f) n) fn (B.sh f) args
    | none => none
def inlN (B : Base) (call : CallT B) (inl : InlT) (n : Nat) : InlT := fun R f args s K => match B.P.funcs[f]? with
  | some fn => match fn.body with
    | some c => aCode (mkC B call inl) (B.keep f) (iter (R := R) (mkC B call inl) (B.keep f) n) c { t := args ++ List.replicate (fn.ntmps - args.length) (.raw undef), bx := s.bx, live := s.live, g := s.t ++ s.g } (inFin (mkC B call inl) fn s.t.length K)
    | none => none
  | none => none
def lvl (B : Base) : Nat → CallT B × InlT
  | 0 => (fun _ _ => none, fun _ _ _ _ _ => none)
  | n + 1 => (stepN B (lvl B n).1 (lvl B n).2 n, inlN B (lvl B n).1 (lvl B n).2 n)
def callN (B : Base) (n : Nat) : CallT B := (lvl B n).1
@[reducible] def ctxN (B : Base) (n : Nat) : Ctx := mkC B (lvl B n).1 (lvl B n).2
end
end Go.Eng
