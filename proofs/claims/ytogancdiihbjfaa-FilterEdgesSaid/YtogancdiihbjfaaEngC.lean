/- ENGINE, part C: what holds of a frame; operations that turn no memory. -/
import Derived.Test.YtogancdiihbjfaaEngB
import Derived.Laws.Entries
import Derived.Laws.Slices
import Derived.Laws.Cells
import Derived.Laws.BytesString
import Derived.Laws.BytesArg
namespace Go.Eng
open Go Go.RowKit
structure Mp where
  G : Nat → Option Nat
  E : Nat → Nat
  U : Nat → Prop
  B : Nat → Nat
/-- What a frame came upon: the blocks that may be read; what its callers, reckoned with it, keep aside. -/
structure Env where
  N : Nat → Prop
  gv : List Value
def vw (w0 : World) (Nin : Env) (s : St) (m : Mp) (w : World) : Vw where
  w := w
  base := w0.heap.size
  N b := b < w.heap.size ∧ (b < w0.heap.size → Nin.N b) ∧ (∀ τ, hasBit s.live τ = true → m.G τ ≠ some b) ∧ (∀ (i : Nat) (T : TypeId) (cs : List AV), s.bx[i]? = some (some (T, cs)) → m.B i ≠ b)
  live τ := hasBit s.live τ = true
  G := m.G
  E := m.E
  U := m.U
  isBox b := ∃ T cs, s.bx[b]? = some (some (T, cs))
  B := m.B
structure Inv (w0 : World) (Nin : Env) (D : Nat → Prop) (s : St) (m : Mp) (a : Act) (w : World) : Prop where
  below : Below w0.heap.size w0 w
  defers : a.defers = []
  tlen : a.tmps.size = s.t.length
  tmps : ∀ (i : Nat) (x : AV) (v : Value), s.t[i]? = some x → a.tmps[i]? = some v → V (vw w0 Nin s m w) x v
  toks : ∀ τ k : Nat, hasBit s.live τ = true → m.G τ = some k → w0.heap.size ≤ k ∧ k < w.heap.size
  inj : ∀ τ τ' k : Nat, hasBit s.live τ = true → hasBit s.live τ' = true → m.G τ = some k → m.G τ' = some k → τ = τ'
  boxes : ∀ (b : Nat) (T : TypeId) (cs : List AV), s.bx[b]? = some (some (T, cs)) → w0.heap.size ≤ m.B b ∧ ∃ vs : List Value, w.heap[m.B b]? = some (.cells vs.toArray T (0, 0)) ∧ all2 (V1 (vw w0 Nin s m w)) cs vs ∧ ∀ u ∈ vs, u.oneCell' = true
  binj : ∀ (b : Nat) (T : TypeId) (cs : List AV) (b' : Nat) (T' : TypeId) (cs' : List AV), s.bx[b]? = some (some (T, cs)) → s.bx[b']? = some (some (T', cs')) → m.B b = m.B b' → b = b'
  sep : ∀ (τ k b : Nat) (T : TypeId) (cs : List AV), hasBit s.live τ = true → m.G τ = some k → s.bx[b]? = some (some (T, cs)) → m.B b ≠ k
  uD : ∀ τ, m.U τ → D (τ / 8)
  bD : ∀ (b : Nat) (T : TypeId) (cs : List AV), s.bx[b]? = some (some (T, cs)) → D b
  liveU : ∀ τ, hasBit s.live τ = true → m.U τ
  ghost : all2 (V (vw w0 Nin s m w)) s.g Nin.gv
section
variable {w0 : World} {Nin : Env} {D : Nat → Prop} {s : St} {m : Mp} {a : Act} {w : World}
theorem vw_put (d : Option Tmp) (x : AV) : vw w0 Nin (s.put d x) m w = vw w0 Nin s m w := by cases d <;> rfl
theorem put_bx (d : Option Tmp) (x : AV) : (s.put d x).bx = s.bx := by cases d <;> rfl
theorem put_live (d : Option Tmp) (x : AV) : (s.put d x).live = s.live := by cases d <;> rfl
theorem Inv.put (h : Inv w0 Nin D s m a w) (d : Option Tmp) {x : AV} {v : Value} (hv : V (vw w0 Nin s m w) x v) : Inv w0 Nin D (s.put d x) m (a.put d v) w := by
  cases d with
  | none => exact h
  | some d =>
    refine ⟨h.below, h.defers, ?_, ?_, h.toks, h.inj, h.boxes, h.binj, h.sep, h.uD, h.bD, h.liveU, h.ghost⟩
    · show (a.tmps.setIfInBounds d v).size = (s.t.set d x).length
      rw [Array.size_setIfInBounds, List.length_set, h.tlen]
    · intro i y u hy hu
      show V (vw w0 Nin s m w) y u
      have hy' : (s.t.set d x)[i]? = some y := hy
      have hu' : (a.tmps.setIfInBounds d v)[i]? = some u := hu
      by_cases hi : d = i
      · subst hi
        rw [List.getElem?_set] at hy'
        rw [Array.getElem?_setIfInBounds] at hu'
        simp only [if_true] at hy' hu'
        split at hy'
        · split at hu'
          · cases hy'; cases hu'; exact hv
          · cases hu'
        · cases hy'
      · rw [List.getElem?_set_ne hi] at hy'
        rw [Array.getElem?_setIfInBounds_ne hi] at hu'
        exact h.tmps i y u hy' hu'
theorem V_ofConst (q : Vw) (v : Value) : V q (ofConst v) v := by
  have cell : ∀ u : Value, u.oneCell' = true → V1 q (match u with
    | .int k n => .v (.int k) n
    | .bool b => .v .bool b
    | .string s => .v .str s
    | .float k b => .v (.flt k) b
    | .slice none 0 0 => .nilS
    | v => .raw v) u := by
    intro u hu
    cases u with
    | slice A n c =>
      cases A with
      | none =>
        cases n with
        | zero => cases c <;> rfl
        | succ n => rfl
      | some A => rfl
    | agg _ => cases hu
    | tuple _ => cases hu
    | _ => rfl
  cases v with
  | slice A n c =>
    cases A with
    | none =>
      cases n with
      | zero => cases c <;> rfl
      | succ n => rfl
    | some A => rfl
  | agg cs =>
    simp only [ofConst]
    split
    · rename_i hall
      have hall' : ∀ u ∈ cs.toList, u.oneCell' = true := fun u hu => by simpa using List.all_eq_true.1 hall u hu
      refine ⟨cs.toList, rfl, ?_, hall'⟩
      generalize cs.toList = l at hall'
      induction l with
      | nil => trivial
      | cons u l ih => exact ⟨cell u (hall' u List.mem_cons_self), ih (fun x hx => hall' x (List.mem_cons_of_mem _ hx))⟩
    · rfl
  | _ => rfl
theorem Inv.ev (h : Inv w0 Nin D s m a w) (x : Operand) : V (vw w0 Nin s m w) (s.ev x) (a.eval x) := by
  cases x with
  | tmp t =>
    show V _ (s.t.getD t .bad) (a.tmps.getD t undef)
    by_cases ht : t < s.t.length
    · have h1 : s.t[t]? = some s.t[t] := List.getElem?_eq_getElem ht
      have ht' : t < a.tmps.size := by rw [h.tlen]; exact ht
      have h2 : a.tmps[t]? = some a.tmps[t] := Array.getElem?_eq_getElem ht'
      have := h.tmps t _ _ h1 h2
      rw [List.getD_eq_getElem?_getD, h1, Array.getD_eq_getD_getElem?, h2]
      exact this
    · rw [List.getD_eq_getElem?_getD, List.getElem?_eq_none (Nat.le_of_not_lt ht)]
      trivial
  | const v => exact V_ofConst _ v
  | global g => trivial
  | func f => exact ⟨[], rfl, trivial⟩
/-- More names may be used up. -/
theorem Inv.wider {D' : Nat → Prop} (h : Inv w0 Nin D s m a w) (hD : ∀ n, D n → D' n) : Inv w0 Nin D' s m a w :=
  ⟨h.below, h.defers, h.tlen, h.tmps, h.toks, h.inj, h.boxes, h.binj, h.sep, fun τ hτ => hD _ (h.uD τ hτ), fun b T cs hb => hD _ (h.bD b T cs hb), h.liveU, h.ghost⟩
end
/-! ### values that hang on no memory -/
theorem cellV_eq {q : Vw} {x : AV} {v u : Value} (h : cellV x = some v) (hv : V q x u) : u = v := by
  cases x with
  | v t y =>
    cases t <;> simp only [cellV, Option.some.injEq, reduceCtorEq] at h <;> subst h <;>
      (have h' : [u] = [_] := hv; exact (List.cons.inj h').1)
  | raw y =>
    simp only [cellV, Option.some.injEq] at h
    subst h
    exact hv
  | _ => simp [cellV] at h
theorem cellV_one {q : Vw} {x : AV} {v u : Value} (h : cellV x = some v) (hv : V1 q x u) : u = v := by
  cases x with
  | v t y =>
    cases t <;> simp only [cellV, Option.some.injEq, reduceCtorEq] at h <;> subst h <;>
      (have h' : [u] = [_] := hv; exact (List.cons.inj h').1)
  | raw y =>
    simp only [cellV, Option.some.injEq] at h
    subst h
    exact hv
  | _ => simp [cellV] at h
theorem V_ofV1 {q : Vw} {x : AV} {v : Value} (h : ofV1 v = some x) : V q x v := by
  cases v <;> simp only [ofV1, Option.some.injEq, reduceCtorEq] at h <;> subst h <;> rfl
theorem evS_run {P : Program} {α : Type} : ∀ {c : Sem α} {x : α}, evS P c = some x → ∀ w, c.run P w = .ok x w := by
  intro c
  induction c with
  | pure a => intro x h w; simp only [evS, Option.some.injEq] at h; subst h; rfl
  | program k ih => intro x h w; exact ih P h w
  | _ => intro x h; simp [evS] at h
/-! ### the operations, one by one -/
section
variable {P : Program} {o : Oper} {a : Act} {w : World} {K : Act → World → Prop} {Q : Exit → Act → World → Prop}
theorem wp_value {v : Value} {w' : World} (hrun : (execOp a.eval o).run P w = .ok (.value v) w') (h : K (a.put o.dst v) w') : o.wp P a w K Q := by
  unfold Oper.wp; rw [hrun]; exact h
theorem wp_skip' {w' : World} (hrun : (execOp a.eval o).run P w = .ok .skip w') (h : K (a.put o.dst undef) w') : o.wp P a w K Q := by
  unfold Oper.wp; rw [hrun]; exact h
/-- An operation that answers one value: by the run of its own part. -/
theorem run_v {c : Sem Value} {v : Value} {w' : World} (h : c.run P w = .ok v w') : (do pure (Next.value (← c)) : Sem Next).run P w = .ok (.value v) w' := by
  rw [Sem.run_bind, h]; rfl
end
theorem run_sizeOf {P : Program} {t : TypeId} (h : Nat.blt 0 (szOf P t) = true) (w : World) : (sizeOf t).run P w = .ok (szOf P t) w := by
  unfold szOf at h ⊢
  cases hi : P.info? t with
  | none => rw [hi] at h; cases h
  | some i => simp [sizeOf, typeInfo, hi]
theorem run_isAgg_yes {P : Program} {t : TypeId} (h : isAggT P t = true) (w : World) : (isAgg t).run P w = .ok true w := by
  unfold isAggT at h
  split at h
  · rename_i hu
    simp [isAgg, run_underlying hu]
  · cases h
theorem run_isAgg_no {P : Program} {t : TypeId} (h : isOneT P t = true) (w : World) : (isAgg t).run P w = .ok false w := by
  unfold isOneT at h
  split at h <;> first | cases h | skip
  rename_i d hd1 hd2 hu
  unfold isAgg
  rw [Sem.run_bind, run_underlying hu]
  cases d <;> first | rfl | (exact absurd rfl (hd1 _)) | (exact absurd rfl (hd2 _ _))
theorem run_loadVar_agg {P : Program} {t : TypeId} {w : World} {ad : Addr} {us : List Value} (h : isAggT P t = true) (hs : szOf P t = us.length) (h0 : Nat.blt 0 (szOf P t) = true)
    (hc : ∀ j u, us[j]? = some u → w.cell? (ad.add j) = some u) : (loadVar t ad).run P w = .ok (.agg us.toArray) w := by
  have hl := run_loadCells_list (P := P) w ad us hc
  simp only [loadVar, Sem.run_bind, run_isAgg_yes h, Result.andThen_ok, if_true, run_sizeOf h0, hs, hl, Sem.run_pure]
theorem run_loadVar_one {P : Program} {t : TypeId} {w : World} {ad : Addr} {u : Value} (h : isOneT P t = true) (hc : w.cell? ad = some u) : (loadVar t ad).run P w = .ok u w := by
  simp only [loadVar, Sem.run_bind, run_isAgg_no h, Result.andThen_ok, Bool.false_eq_true, if_false]
  simp [load, Sem.run, hc]
/-- A part of cells that are known, read out of memory. -/
theorem part_sound {P : Program} {q : Vw} {t : TypeId} {cs : List AV} {off : Nat} {x : AV} (h : partA P t cs off = some x) {ad : Addr}
    (hc : ∀ j y, cs[off + j]? = some y → ∃ u, q.w.cell? (ad.add j) = some u ∧ V1 q y u ∧ u.oneCell' = true) :
    ∃ v, (loadVar t ad).run P q.w = .ok v q.w ∧ V q x v := by
  unfold partA at h
  split at h
  · rename_i hagg
    split at h
    · rename_i hb
      simp only [Option.some.injEq] at h
      subst h
      rw [Bool.and_eq_true] at hb
      have hle := Nat.le_of_ble_eq_true hb.1
      -- the cells, one by one
      have key : ∀ (l : List AV) (k : Nat), (∀ j y, l[j]? = some y → cs[off + (k + j)]? = some y) →
          ∃ us : List Value, all2 (V1 q) l us ∧ (∀ u ∈ us, u.oneCell' = true) ∧ ∀ j u, us[j]? = some u → q.w.cell? (ad.add (k + j)) = some u := by
        intro l
        induction l with
        | nil => exact fun k _ => ⟨[], trivial, (fun u hu => by cases hu), (fun j u hj => by simp at hj)⟩
        | cons y l ih =>
          intro k hk
          obtain ⟨u, hu, hv, h1⟩ := hc k y (by simpa using hk 0 y rfl)
          obtain ⟨us, h2, h3, h4⟩ := ih (k + 1) (fun j z hj => by
            have := hk (j + 1) z (by simpa using hj)
            rwa [show k + (j + 1) = k + 1 + j by omega] at this)
          refine ⟨u :: us, ⟨hv, h2⟩, fun x hx => ?_, fun j x hj => ?_⟩
          · rcases List.mem_cons.1 hx with rfl | hx
            · exact h1
            · exact h3 x hx
          · cases j with
            | zero => simp only [List.getElem?_cons_zero, Option.some.injEq] at hj; subst hj; exact hu
            | succ j =>
              rw [List.getElem?_cons_succ] at hj
              have := h4 j x hj
              rwa [show k + 1 + j = k + (j + 1) by omega] at this
      obtain ⟨us, h2, h3, h4⟩ := key ((cs.drop off).take (szOf P t)) 0 (fun j y hj => by
        rw [List.getElem?_take] at hj
        split at hj
        · rw [List.getElem?_drop] at hj; simpa using hj
        · cases hj)
      have hlen : us.length = szOf P t := by
        rw [← all2_len h2, List.length_take, List.length_drop]; omega
      exact ⟨_, run_loadVar_agg hagg hlen.symm hb.2 (fun j u hj => by simpa using h4 j u hj), us, rfl, h2, h3⟩
    · cases h
  · split at h
    · rename_i hb
      rw [Bool.and_eq_true] at hb
      obtain ⟨u, hu, hv, h1⟩ := hc 0 x (by simpa using h)
      have hu' : q.w.cell? ad = some u := by simpa [Addr.add] using hu
      refine ⟨u, run_loadVar_one hb.1 hu', ?_⟩
      cases x with
      | agg _ => exact hv.elim
      | tup _ => exact hv.elim
      | _ => exact hv
    · cases h
/-- .. and out of a struct's value. -/
theorem part_value {P : Program} {q : Vw} {t : TypeId} {cs : List AV} {off : Nat} {x : AV} (h : partA P t cs off = some x) {vs : List Value} (hc : all2 (V1 q) cs vs) (h1 : ∀ u ∈ vs, u.oneCell' = true) (w : World) :
    ∃ v, (part t vs.toArray off).run P w = .ok v w ∧ V q x v := by
  unfold partA at h
  split at h
  · rename_i hagg
    split at h
    · rename_i hb
      simp only [Option.some.injEq] at h
      subst h
      rw [Bool.and_eq_true] at hb
      refine ⟨.agg ((vs.drop off).take (szOf P t)).toArray, ?_, _, rfl, all2_take _ (all2_drop _ hc), fun u hu => h1 u (List.mem_of_mem_drop (List.mem_of_mem_take hu))⟩
      simp only [part, Sem.run_bind, run_isAgg_yes hagg, Result.andThen_ok, if_true, run_sizeOf hb.2, Sem.run_pure]
      congr 2
      rw [List.extract_toArray]
      congr 1
      rw [List.extract_eq_take_drop]
      congr 1
      omega
    · cases h
  · split at h
    · rename_i hb
      rw [Bool.and_eq_true] at hb
      obtain ⟨u, hu, hv⟩ := all2_get hc h
      refine ⟨u, ?_, ?_⟩
      · simp only [part, Sem.run_bind, run_isAgg_no hb.1, Result.andThen_ok, Bool.false_eq_true, if_false, List.getElem?_toArray, hu, Sem.run_pure]
      · cases x with
        | agg _ => exact hv.elim
        | tup _ => exact hv.elim
        | _ => exact hv
    · cases h
end Go.Eng
