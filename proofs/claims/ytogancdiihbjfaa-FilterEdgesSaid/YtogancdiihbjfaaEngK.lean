/- ENGINE, part K: what a call answers (contracts), and the call. -/
import Derived.Test.YtogancdiihbjfaaEngJ
namespace Go.Eng
open Go Go.RowKit
/-- What is handed to a call, seen by itself: blocks that N names may be read. -/
def argVw (w : World) (N : Nat → Prop) : Vw where
  w := w
  base := w.heap.size
  N b := b < w.heap.size ∧ N b
  live _ := False
  G _ := none
  E _ := 0
  U _ := False
  isBox _ := False
  B _ := 0
/-- A struct's value is its cells; another one is one cell. -/
def shut : Ty → List Value → Value → Prop
  | .pair _ _, vs, v => v = .agg vs.toArray
  | .unit, vs, v => v = .agg vs.toArray
  | _, vs, v => vs = [v]
def Res1 (w' : World) (base : Nat) (N' : Nat → Prop) : (o : Option TypeId) → (t : Ty) → t.den → Value → Prop
  | some T, .sl e, xs, v => ∃ inner, w'.ownsRow base T e.sz v (List.length xs) inner ∧ repsOf (rep w' N' e) xs inner
  | _, t, x, v => ∃ vs, shut t vs v ∧ rep w' N' t x vs
def ResL (w' : World) (base : Nat) (N' : Nat → Prop) : (l : List (Option TypeId × Ty)) → denL l → List Value → Prop
  | [], _, vs => vs = []
  | (o, t) :: l, x, v :: vs => Res1 w' base N' o t x.1 v ∧ ResL w' base N' l x.2 vs
  | _ :: _, _, [] => False
def own1 : Option TypeId × Ty → Value → List Nat
  | (some _, .sl _), v => v.ownBlock.toList
  | _, _ => []
def owned : List (Option TypeId × Ty) → List Value → List Nat
  | p :: l, v :: vs => own1 p v ++ owned l vs
  | _, _ => []
def ResV (w w' : World) (N : Nat → Prop) : (sh : Sh) → sh.den → Value → Prop
  | .one o t, x, v => ResL w' w.heap.size (fun b => b < w'.heap.size ∧ (b < w.heap.size → N b) ∧ b ∉ owned [(o, t)] [v]) [(o, t)] (x, ()) [v] ∧ (owned [(o, t)] [v]).Nodup
  | .tup l, x, v => ∃ vs : List Value, v = .tuple vs.toArray ∧ ResL w' w.heap.size (fun b => b < w'.heap.size ∧ (b < w.heap.size → N b) ∧ b ∉ owned l vs) l x vs ∧ (owned l vs).Nodup
def Contract (P : Program) (sh : Sh) (f : FuncId) (args : List AV) (r : sh.den) : Prop :=
  ∀ (w : World) (N : Nat → Prop) (vargs : List Value), all2 (V (argVw w N)) args vargs →
    Calls P f vargs.toArray w fun e w' => ∃ v, e = .returned v ∧ Below w.heap.size w w' ∧ ResV w w' N sh r v
/-- What a call that is reckoned inside does to the caller's frame. -/
def InOk (Γ : Ctx) (f : FuncId) (args : List AV) (s : St) (x : AV) (s' : St) : Prop :=
  ∀ (w0 : World) (Nin : Env) (m : Mp) (a : Act) (w : World), Inv w0 Nin (fun k => k < s.bx.length) s m a w → ∀ vargs : List Value, all2 (V (vw w0 Nin s m w)) args vargs →
    Calls Γ.P f vargs.toArray w fun e w' => ∃ v, e = .returned v ∧ ∃ m', Inv w0 Nin (fun k => k < s'.bx.length) s' m' a w' ∧ V (vw w0 Nin s' m' w') x v
/-- What a call of a function without a body is: done in place, the world stands. -/
def ExtOk (P : Program) (sh : Sh) (f : FuncId) (args : List AV) (r : sh.den) : Prop :=
  ∀ (w : World) (N : Nat → Prop) (vargs : List Value), all2 (V (argVw w N)) args vargs →
    ∃ v, (callFunc f vargs.toArray).run P w = .ok (.value v) w ∧ ResV w w N sh r v
def CallOk (P : Program) (sh : Sh) (f : FuncId) (args : List AV) (r : sh.den) : Prop :=
  ((∃ fn, P.funcs[f]? = some fn ∧ (fn.name == "runtime.NumGoroutine") = false ∧ fn.body.isSome = true) ∧ Contract P sh f args r) ∨
    ((∃ fn, P.funcs[f]? = some fn ∧ fn.body.isNone = true) ∧ ExtOk P sh f args r)
structure CallsOk (Γ : Ctx) : Prop where
  nat : ∀ (R : Type) (f : FuncId) (args : List AV) (s : St) (K : AV → St → Option R), Γ.inl R f args s K = (Γ.inl (AV × St) f args s fun v s' => some (v, s')).bind fun p => K p.1 p.2
  inl : ∀ (f : FuncId) (args : List AV) (s : St) (x : AV) (s' : St), Γ.inl (AV × St) f args s (fun v s' => some (v, s')) = some (x, s') → (∃ fn, Γ.P.funcs[f]? = some fn ∧ (fn.name == "runtime.NumGoroutine") = false ∧ fn.body.isSome = true) ∧ InOk Γ f args s x s'
  ok : ∀ f args r, Γ.call f args = some r → CallOk Γ.P (Γ.sh f) f args r
theorem rep_noSl {w w' : World} {N N' : Nat → Prop} : ∀ (t : Ty), t.noSl = true → ∀ (x : t.den) (cs : List Value), rep w N t x cs → rep w' N' t x cs := by
  intro t
  induction t with
  | pair a b iha ihb =>
    intro h x cs
    simp only [Ty.noSl, Bool.and_eq_true] at h
    rintro ⟨c0, c1, e, h0, h1⟩
    exact ⟨c0, c1, e, iha h.1 _ _ h0, ihb h.2 _ _ h1⟩
  | sl e _ => intro h; cases h
  | _ => exact fun _ _ _ h => h
section
variable {q : Vw}
theorem sl_wide (hR : ∀ b hi, q.Rd b hi → b < q.w.heap.size) (hN : ∀ b, q.N b → b < q.w.heap.size) {e : Ty} {xs : List e.den} {v : Value} (h : q.Sl e xs v) : rep q.w (argVw q.w (fun _ => True)).N (.sl e) xs [v] := by
  obtain ⟨A, c, inner, rfl, hl, hr, hc⟩ := h
  refine ⟨A, c, inner, rfl, hl, repsOf_imp (rep_step (fun b hb => ⟨⟨hN b hb, trivial⟩, rfl⟩) e) _ _ hr, ?_⟩
  exact hc.imp (fun b hi hb => ⟨⟨hR b hi hb, trivial⟩, fun _ _ => rfl⟩)
theorem byCell_wide (hR : ∀ b hi, q.Rd b hi → b < q.w.heap.size) (hN : ∀ b, q.N b → b < q.w.heap.size) {x y : AV} {v : Value} (h : byCell x = some y) (hv : V1 q x v) : V1 (argVw q.w (fun _ => True)) y v := by
  cases x <;> simp only [byCell, Option.some.injEq, reduceCtorEq] at h <;> subst h
  · exact rep_step (fun b hb => ⟨⟨hN b hb, trivial⟩, rfl⟩) _ _ _ hv
  · exact sl_wide hR hN hv
  · exact sl_wide hR hN hv.2.1
  · exact hv
theorem byCells_wide (hR : ∀ b hi, q.Rd b hi → b < q.w.heap.size) (hN : ∀ b, q.N b → b < q.w.heap.size) : ∀ {xs ys : List AV} {vs : List Value}, byCells xs = some ys → all2 (V1 q) xs vs → all2 (V1 (argVw q.w (fun _ => True))) ys vs
  | [], ys, [], h, _ => by simp only [byCells, Option.some.injEq] at h; subst h; trivial
  | x :: xs, ys, v :: vs, h, h2 => by
    simp only [byCells] at h
    split at h
    · rename_i y ys' h3 h4
      simp only [Option.some.injEq] at h
      subst h
      exact ⟨byCell_wide hR hN h3 h2.1, byCells_wide hR hN h4 h2.2⟩
    · cases h
  | [], _, _ :: _, _, h2 => h2.elim
  | _ :: _, _, [], _, h2 => h2.elim
theorem byCells_get : ∀ {xs ys : List AV} {j : Nat} {y : AV}, byCells xs = some ys → ys[j]? = some y → ∃ x, xs[j]? = some x ∧ byCell x = some y
  | [], ys, j, y, h, hy => by simp only [byCells, Option.some.injEq] at h; subst h; simp at hy
  | x :: xs, ys, j, y, h, hy => by
    simp only [byCells] at h
    split at h
    · rename_i z zs h3 h4
      simp only [Option.some.injEq] at h
      subst h
      cases j with
      | zero => simp only [List.getElem?_cons_zero, Option.some.injEq] at hy ⊢; subst hy; exact ⟨x, rfl, h3⟩
      | succ j => rw [List.getElem?_cons_succ] at hy ⊢; exact byCells_get h4 hy
    · cases h
theorem byCells_len : ∀ {xs ys : List AV}, byCells xs = some ys → ys.length = xs.length
  | [], ys, h => by simp only [byCells, Option.some.injEq] at h; subst h; rfl
  | x :: xs, ys, h => by
    simp only [byCells] at h
    split at h
    · rename_i z zs _ h4
      simp only [Option.some.injEq] at h
      subst h
      rw [List.length_cons, List.length_cons, byCells_len h4]
    · cases h
theorem V_of_V1 {q' : Vw} {x : AV} {v : Value} (h : V1 q' x v) : V q' x v := by
  cases x with
  | agg _ => exact h.elim
  | tup _ => exact h.elim
  | _ => exact h
theorem byVal_wide (hR : ∀ b hi, q.Rd b hi → b < q.w.heap.size) (hN : ∀ b, q.N b → b < q.w.heap.size) {ty : Option Ty} {x y : AV} {v : Value} (h : byVal ty x = some y) (hv : V q x v) : V (argVw q.w (fun _ => True)) y v := by
  cases x with
  | nilS =>
    simp only [byVal] at h
    split at h
    · simp only [Option.some.injEq] at h
      subst h
      have hv' : v = .slice none 0 0 := hv
      subst hv'
      exact ⟨none, 0, [], rfl, Nat.le_refl _, rfl, .inl rfl⟩
    · cases h
  | agg cs =>
    simp only [byVal] at h
    cases hb : byCells cs with
    | none => rw [hb] at h; cases h
    | some ys =>
      rw [hb] at h
      simp only [Option.map_some, Option.some.injEq] at h
      subst h
      obtain ⟨vs, he, h2, h1⟩ := (show ∃ vs, _ ∧ _ ∧ _ from hv)
      exact ⟨vs, he, byCells_wide hR hN hb h2, h1⟩
  | ro cs =>
    simp only [byVal] at h
    cases hb : byCells cs with
    | none => rw [hb] at h; cases h
    | some ys =>
      rw [hb] at h
      simp only [Option.map_some, Option.some.injEq] at h
      subst h
      obtain ⟨ad, he, h1, h2⟩ := (show ∃ ad, _ ∧ _ ∧ _ from hv)
      refine ⟨ad, he, ?_, fun j y hj => ?_⟩
      · rcases h1 with h1 | h1
        · subst h1; simp only [byCells, Option.some.injEq] at hb; exact .inl hb.symm
        · exact .inr (.inl ⟨hR _ _ h1, trivial⟩)
      · obtain ⟨x, hx, hxy⟩ := byCells_get hb hj
        obtain ⟨u, hu, hv0⟩ := h2 j x hx
        refine ⟨u, hu, ?_⟩
        cases x <;> first | exact hv0.elim | skip
        simp only [byCell, Option.some.injEq] at hxy
        subst hxy
        exact rep_step (fun b hb => ⟨⟨hN b hb, trivial⟩, rfl⟩) _ _ _ hv0
  | v t x => exact V_of_V1 (byCell_wide (x := .v t x) hR hN h hv)
  | al e xs => exact V_of_V1 (byCell_wide (x := .al e xs) hR hN h hv)
  | own τ T e xs => exact V_of_V1 (byCell_wide (x := .own τ T e xs) hR hN h hv)
  | raw u => exact V_of_V1 (byCell_wide (x := .raw u) hR hN h hv)
  | _ => simp [byVal, byCell] at h
theorem byCell_calm {x y : AV} {v : Value} (hc : calmCell x = true) (hN : ∀ b, q.N b → b < q.w.heap.size) (h : byCell x = some y) (hv : V1 q x v) : V1 (argVw q.w q.N) y v := by
  cases x <;> simp only [byCell, Option.some.injEq, reduceCtorEq] at h <;> subst h
  · exact rep_step (fun b hb => ⟨⟨hN b hb, hb⟩, rfl⟩) _ _ _ hv
  · cases hc
  · cases hc
  · exact hv
theorem byCells_calm (hN : ∀ b, q.N b → b < q.w.heap.size) : ∀ {xs ys : List AV} {vs : List Value}, xs.all calmCell = true → byCells xs = some ys → all2 (V1 q) xs vs → all2 (V1 (argVw q.w q.N)) ys vs
  | [], ys, [], _, h, _ => by simp only [byCells, Option.some.injEq] at h; subst h; trivial
  | x :: xs, ys, v :: vs, hc, h, h2 => by
    simp only [List.all_cons, Bool.and_eq_true] at hc
    simp only [byCells] at h
    split at h
    · rename_i y ys' h3 h4
      simp only [Option.some.injEq] at h
      subst h
      exact ⟨byCell_calm hc.1 hN h3 h2.1, byCells_calm hN hc.2 h4 h2.2⟩
    · cases h
  | [], _, _ :: _, _, _, h2 => h2.elim
  | _ :: _, _, [], _, _, h2 => h2.elim
theorem byVal_calm (hN : ∀ b, q.N b → b < q.w.heap.size) {ty : Option Ty} {x y : AV} {v : Value} (hc : calm x = true) (h : byVal ty x = some y) (hv : V q x v) : V (argVw q.w q.N) y v := by
  cases x with
  | nilS =>
    simp only [byVal] at h
    split at h
    · simp only [Option.some.injEq] at h
      subst h
      have hv' : v = .slice none 0 0 := hv
      subst hv'
      exact ⟨none, 0, [], rfl, Nat.le_refl _, rfl, .inl rfl⟩
    · cases h
  | agg cs =>
    simp only [byVal] at h
    cases hb : byCells cs with
    | none => rw [hb] at h; cases h
    | some ys =>
      rw [hb] at h
      simp only [Option.map_some, Option.some.injEq] at h
      subst h
      obtain ⟨vs, he, h2, h1⟩ := (show ∃ vs, _ ∧ _ ∧ _ from hv)
      exact ⟨vs, he, byCells_calm hN hc hb h2, h1⟩
  | v t x => exact V_of_V1 (byCell_calm (x := .v t x) rfl hN h hv)
  | raw u => exact V_of_V1 (byCell_calm (x := .raw u) rfl hN h hv)
  | _ => first | (cases hc; done) | (simp [byVal, byCell] at h)
end
section
variable {w0 : World} {Nin : Env} {D : Nat → Prop} {s : St} {m : Mp} {a : Act} {w : World}
theorem Inv.rdLt (h : Inv w0 Nin D s m a w) : ∀ b hi, (vw w0 Nin s m w).Rd b hi → b < w.heap.size := by
  rintro b hi (hb | ⟨τ, hl, hG, _⟩)
  · exact hb.1
  · exact (h.toks τ b hl hG).2
theorem byVals_V (h : Inv w0 Nin D s m a w) {typ : TypeId → Option Ty} {fresh : Bool} : ∀ (l : List Operand) (ts : List TypeId) (ys : List AV), byVals typ (l.map s.ev) ts = some ys → (fresh || (l.map s.ev).all calm) = true →
    all2 (V (argVw w (if fresh = true then fun _ => True else (vw w0 Nin s m w).N))) ys (l.map a.eval)
  | [], ts, ys, hy, _ => by simp only [List.map_nil, byVals, Option.some.injEq] at hy; subst hy; trivial
  | x :: l, ts, ys, hy, hc => by
    simp only [List.map_cons, byVals] at hy
    split at hy
    · rename_i y ys' h1 h2
      simp only [Option.some.injEq] at hy
      subst hy
      cases fresh with
      | true => exact ⟨byVal_wide (q := vw w0 Nin s m w) h.rdLt (fun b hb => hb.1) h1 (h.ev x), byVals_V h l _ ys' h2 rfl⟩
      | false =>
        simp only [Bool.false_or, List.map_cons, List.all_cons, Bool.and_eq_true] at hc
        exact ⟨byVal_calm (q := vw w0 Nin s m w) (fun b hb => hb.1) hc.1 h1 (h.ev x), byVals_V h l _ ys' h2 (by simpa using hc.2)⟩
    · cases hy
end
end Go.Eng
