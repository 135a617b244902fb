/- ENGINE, part X: a loop's body, and what comes behind it, by their place in the text. -/
import Derived.Test.YtogancdiihbjfaaEngV
namespace Go.Eng
open Go
noncomputable section
/-- The body of the loop at a place: 0 the first part, 1 the second; blocks and scopes are passed. -/
def lpAt : Code → List Nat → Code
  | .seq a b, p => match p with
    | 0 :: p => lpAt a p
    | _ :: p => lpAt b p
    | [] => .skip
  | .cond _ x y, p => match p with
    | 0 :: p => lpAt x p
    | _ :: p => lpAt y p
    | [] => .skip
  | .block _ c, p => lpAt c p
  | .scope c, p => lpAt c p
  | .loop c, p => match p with
    | [] => c
    | _ :: p => lpAt c p
  | c, _ => c
/-- What comes behind it. -/
def kontAt {R : Type} (Γ : Ctx) (keep : Hints) (L : LoopK R) : Code → List Nat → (AEx → St → Option R) → AEx → St → Option R
  | .seq a b, p, K => match p with
    | 0 :: p => kontAt Γ keep L a p (fun e s' => match e with
      | .normal => aCode Γ keep L b s' K
      | e => K e s')
    | _ :: p => kontAt Γ keep L b p K
    | [] => K
  | .cond _ x y, p, K => match p with
    | 0 :: p => kontAt Γ keep L x p K
    | _ :: p => kontAt Γ keep L y p K
    | [] => K
  | .block id c, p, K => kontAt Γ keep L c p (fun e s' => match e with
    | .exit j => if Nat.beq j id then K .normal s' else K (.exit j) s'
    | e => K e s')
  | .scope c, p, K => kontAt Γ keep L c p K
  | _, _, K => K
/-- What comes behind an operation of a region that is reckoned inside. -/
def inlAt {R : Type} (Γ : Ctx) (keep : Hints) (L : LoopK R) : Code → List Nat → (AEx → St → Option R) → AV → St → Option R
  | .seq a b, p, K => match p with
    | 0 :: p => inlAt Γ keep L a p (fun e s' => match e with
      | .normal => aCode Γ keep L b s' K
      | e => K e s')
    | _ :: p => inlAt Γ keep L b p K
    | [] => fun _ _ => none
  | .cond _ x y, p, K => match p with
    | 0 :: p => inlAt Γ keep L x p K
    | _ :: p => inlAt Γ keep L y p K
    | [] => fun _ _ => none
  | .block id c, p, K => inlAt Γ keep L c p (fun e s' => match e with
    | .exit j => if Nat.beq j id then K .normal s' else K (.exit j) s'
    | e => K e s')
  | .scope c, p, K => inlAt Γ keep L c p K
  | .region _ ops _, p, K => match p with
    | i :: _ => fun v s' => (fun s' => fNat s'.bx.length fun base' => aOps Γ ops base' ((List.range ops.size).drop (i + 1)) { s' with bx := s'.bx ++ List.replicate ops.size none } (K .normal)) (s'.put ((ops[i]?).bind (·.dst)) v)
    | [] => fun _ _ => none
  | _, _, _ => fun _ _ => none
def iterK {R : Type} (Γ : Ctx) (keep : Hints) (m : Nat) (c : Code) (K : AEx → St → Option R) : AEx → St → Option R := fun e s' => match e with
  | .normal => iter Γ keep m c (canon keep c s') K
  | e => K e (strike keep c s')
def bdy (B : Base) (F : FuncId) : Code := ((B.P.funcs[F]?).bind (·.body)).getD .skip
def fnc (B : Base) (F : FuncId) : Func := (B.P.funcs[F]?).getD default
section
variable {R : Type} (B : Base) (call : CallT B) (inl : InlT) (F : FuncId) (m : Nat)
/-- The loop at a place of a function; what comes behind it; behind one within one; behind a call. -/
abbrev LP (p : List Nat) (s : St) (K : AEx → St → Option R) : Option R := iter (mkC B call inl) (B.keep F) m (lpAt (bdy B F) p) s K
abbrev KA (p : List Nat) (K : AEx → St → Option R) : AEx → St → Option R := kontAt (mkC B call inl) (B.keep F) (iter (mkC B call inl) (B.keep F) m) (bdy B F) p K
abbrev KN (p q : List Nat) (K : AEx → St → Option R) : AEx → St → Option R := kontAt (mkC B call inl) (B.keep F) (iter (mkC B call inl) (B.keep F) m) (lpAt (bdy B F) p) q (iterK (mkC B call inl) (B.keep F) m (lpAt (bdy B F) p) K)
abbrev IA (p : List Nat) (K : AEx → St → Option R) : AV → St → Option R := inlAt (mkC B call inl) (B.keep F) (iter (mkC B call inl) (B.keep F) m) (bdy B F) p K
abbrev IN (p q : List Nat) (K : AEx → St → Option R) : AV → St → Option R := inlAt (mkC B call inl) (B.keep F) (iter (mkC B call inl) (B.keep F) m) (lpAt (bdy B F) p) q (iterK (mkC B call inl) (B.keep F) m (lpAt (bdy B F) p) K)
abbrev FI : AEx → St → Option (B.sh F).den := finA (mkC B call inl) (fnc B F) (B.sh F)
abbrev FN (k : Nat) (K : AV → St → Option R) : AEx → St → Option R := inFin (mkC B call inl) (fnc B F) k K
end
/-! Which temporaries are read, in some code, behind a loop: for hints. -/
def maskL (l : List Nat) : Nat := l.foldl addBit 0
def rdAll (c : Code) : Nat := maskL ((evCode c).filterMap fun p => if p.1 then some p.2 else none)
def rdAfter : Code → List Nat → Nat
  | .seq a b, p => match p with
    | 0 :: p => rdAfter a p ||| rdAll b
    | _ :: p => rdAfter b p
    | [] => 0
  | .cond _ x y, p => match p with
    | 0 :: p => rdAfter x p
    | _ :: p => rdAfter y p
    | [] => 0
  | .block _ c, p => rdAfter c p
  | .scope c, p => rdAfter c p
  | .loop c, p => match p with
    | [] => 0
    | _ :: p => rdAfter c p ||| rdAll c
  | _, _ => 0
def deadAt (B : Base) (F : FuncId) (p : List Nat) : Nat × Nat × Nat :=
  let out := rdAfter (bdy B F) p ||| maskL ((fnc B F).results.toList.map fun | .tmp t => t | .cell a _ => a)
  let live := rdAll (lpAt (bdy B F) p) ||| rdAfter (bdy B F) p ||| maskL ((fnc B F).results.toList.map fun | .tmp t => t | .cell a _ => a)
  ((firstReg (lpAt (bdy B F) p)).getD 0, (2 ^ (fnc B F).ntmps - 1) ^^^ (live &&& (2 ^ (fnc B F).ntmps - 1)), (2 ^ (fnc B F).ntmps - 1) ^^^ (out &&& (2 ^ (fnc B F).ntmps - 1)))
end
end Go.Eng
