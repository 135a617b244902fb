/- ENGINE, part M: equality of structs; the call; every operation. -/
import Derived.Test.YtogancdiihbjfaaEngL
import Derived.Laws.StructEq
namespace Go.Eng
open Go Go.RowKit
/-! ### equality of structs -/
def eqVal : Ty → Value → Value → Option Bool
  | .int _, .int j a, .int k b => if j = k then some (a == b) else none
  | .bool, .bool a, .bool b => some (a == b)
  | .str, .string a, .string b => some (a.toList == b.toList)
  | _, _, _ => none
def eqVals : List Ty → List Value → List Value → Option Bool
  | [], [], [] => some true
  | k :: ks, u :: us, v :: vs => match eqVal k u v, eqVals ks us vs with
    | some a, some b => some (a && b)
    | _, _ => none
  | _, _, _ => none
theorem eqVals_len : ∀ {ks : List Ty} {us vs : List Value} {b : Bool}, eqVals ks us vs = some b → us.length = ks.length ∧ vs.length = ks.length
  | [], [], [], _, _ => ⟨rfl, rfl⟩
  | k :: ks, u :: us, v :: vs, b, h => by
    simp only [eqVals] at h
    split at h
    · rename_i a c h1 h2
      obtain ⟨e1, e2⟩ := eqVals_len h2
      exact ⟨by rw [List.length_cons, List.length_cons, e1], by rw [List.length_cons, List.length_cons, e2]⟩
    · cases h
  | [], _ :: _, _, _, h => by simp [eqVals] at h
  | [], [], _ :: _, _, h => by simp [eqVals] at h
  | _ :: _, [], _, _, h => by simp [eqVals] at h
  | _ :: _, _ :: _, [], _, h => by simp [eqVals] at h
theorem eqVals_append : ∀ {ks ks' : List Ty} {us vs : List Value} {b : Bool}, eqVals (ks ++ ks') us vs = some b →
    ∃ b1 b2, eqVals ks (us.take ks.length) (vs.take ks.length) = some b1 ∧ eqVals ks' (us.drop ks.length) (vs.drop ks.length) = some b2 ∧ b = (b1 && b2)
  | [], ks', us, vs, b, h => ⟨true, b, rfl, h, rfl⟩
  | k :: ks, ks', u :: us, v :: vs, b, h => by
    simp only [List.cons_append, eqVals] at h
    split at h
    · rename_i a c h1 h2
      simp only [Option.some.injEq] at h
      obtain ⟨b1, b2, h3, h4, h5⟩ := eqVals_append h2
      refine ⟨a && b1, b2, by simp [eqVals, h1, h3], h4, ?_⟩
      rw [← h, h5, Bool.and_assoc]
    · cases h
  | _ :: _, _, [], _, _, h => by simp [eqVals] at h
  | _ :: _, _, _ :: _, [], _, h => by simp [eqVals] at h
theorem eqCell_val {q : Vw} {k : Ty} {x y : AV} {u v : Value} {a : Bool} (h : eqCell k x y = some a) (e1 : V1 q x u) (e2 : V1 q y v) : eqVal k u v = some a := by
  unfold eqCell at h
  split at h
  · rename_i _ j p k' q'
    split at h
    · rename_i hk
      have hk' := Ty.kindNo_inj hk
      subst hk'
      have c1 : u = .int j p := (List.cons.inj (show [u] = [.int j p] from e1)).1
      have c2 : v = .int j q' := (List.cons.inj (show [v] = [.int j q'] from e2)).1
      rw [c1, c2]
      simp only [eqVal, if_true]
      exact h
    · cases h
  · rename_i p q'
    have c1 : u = .bool p := (List.cons.inj (show [u] = [.bool p] from e1)).1
    have c2 : v = .bool q' := (List.cons.inj (show [v] = [.bool q'] from e2)).1
    rw [c1, c2]; exact h
  · rename_i p q'
    have c1 : u = .string p := (List.cons.inj (show [u] = [.string p] from e1)).1
    have c2 : v = .string q' := (List.cons.inj (show [v] = [.string q'] from e2)).1
    rw [c1, c2]; exact h
  · cases h
theorem eqCells_vals {q : Vw} : ∀ {ks : List Ty} {xs ys : List AV} {us vs : List Value} {b : Bool}, eqCells ks xs ys = some b → all2 (V1 q) xs us → all2 (V1 q) ys vs → eqVals ks us vs = some b
  | [], [], [], [], [], b, h, _, _ => h
  | k :: ks, x :: xs, y :: ys, u :: us, v :: vs, b, h, h1, h2 => by
    unfold eqCells at h
    split at h
    · rename_i heq; cases heq
    · rename_i heq1 heq2 heq3
      cases heq1; cases heq2; cases heq3
      have := h1.2; have := h2.2
      cases us <;> cases vs <;> first | (exact (h1.2).elim) | (exact (h2.2).elim) | skip
      simp [eqVals, eqCell_val h h1.1 h2.1]
    · rename_i heq1 heq2 heq3
      cases heq1; cases heq2; cases heq3
      split at h
      · rename_i a c h3 h4
        simp only [Option.some.injEq] at h
        simp [eqVals, eqCell_val h3 h1.1 h2.1, eqCells_vals h4 h1.2 h2.2, h]
      · cases h
    · cases h
  | [], [], [], _ :: _, _, _, _, h, _ => h.elim
  | [], [], [], [], _ :: _, _, _, _, h => h.elim
  | _ :: _, _ :: _, _ :: _, [], _, _, _, h, _ => h.elim
  | _ :: _, _ :: _, _ :: _, _ :: _, [], _, _, _, h => h.elim
  | [], [], _ :: _, _, _, _, h, _, _ => by simp [eqCells] at h
  | [], _ :: _, _, _, _, _, h, _, _ => by simp [eqCells] at h
  | [_], [], _, _, _, _, h, _, _ => by simp [eqCells] at h
  | _ :: _ :: _, [], _, _, _, _, h, _, _ => by simp [eqCells] at h
  | [_], [_], [], _, _, _, h, _, _ => by simp [eqCells] at h
  | [_], _ :: _ :: _, [], _, _, _, h, _, _ => by simp [eqCells] at h
  | _ :: _ :: _, _ :: _, [], _, _, _, h, _, _ => by simp [eqCells] at h
section
variable {P : Program}
def shapeV (P : Program) (t : TypeId) (us : List Value) : Value := if isAggT P t then .agg us.toArray else us.headD undef
def eqStep (P : Program) (n : Nat) : Option (List Ty) → Field → Option (List Ty) := fun a f => match a, plainEq P n f.type with
  | some l, some m => if Nat.beq f.offset l.length && f.name != "_" && Nat.beq (szOf P f.type) m.length && Nat.blt 0 m.length then some (l ++ m) else none
  | _, _ => none
theorem eqStep_none (n : Nat) : ∀ fs : List Field, fs.foldl (eqStep P n) none = none
  | [] => rfl
  | f :: fs => eqStep_none n fs
theorem plainEq_one {k : Nat} {t : TypeId} {m : List Ty} (h : plainEq P k t = some m) (hA : isAggT P t = false) : m.length = 1 ∧ isOneT P t = true := by
  cases k with
  | zero => cases h
  | succ k =>
    simp only [plainEq] at h
    unfold isAggT at hA
    unfold isOneT
    split at h
    · rename_i hu; rw [hu]; simp only [Option.some.injEq] at h; subst h; exact ⟨rfl, rfl⟩
    · rename_i hu; rw [hu]; simp only [Option.some.injEq] at h; subst h; exact ⟨rfl, rfl⟩
    · rename_i hu; rw [hu]; simp only [Option.some.injEq] at h; subst h; exact ⟨rfl, rfl⟩
    · rename_i fs hu; rw [hu] at hA; cases hA
    · cases h
theorem run_part {t : TypeId} {m off : Nat} {us : List Value} (hA : isAggT P t = false → isOneT P t = true ∧ m = 1) (hs : szOf P t = m) (hle : off + m ≤ us.length) (h0 : 0 < m) (w : World) :
    (part t us.toArray off).run P w = .ok (shapeV P t ((us.drop off).take m)) w := by
  cases hAg : isAggT P t with
  | true =>
    have hb : Nat.blt 0 (szOf P t) = true := by rw [hs]; exact Nat.ble_eq_true_of_le h0
    simp only [part, Sem.run_bind, run_isAgg_yes hAg, Result.andThen_ok, if_true, run_sizeOf hb, Sem.run_pure, shapeV, hAg, hs]
    congr 2
    rw [List.extract_toArray, List.extract_eq_take_drop]
    congr 1
    congr 1
    omega
  | false =>
    obtain ⟨h1, rfl⟩ := hA hAg
    have hlt : off < us.length := by omega
    simp only [part, Sem.run_bind, run_isAgg_no h1, Result.andThen_ok, Bool.false_eq_true, if_false, List.getElem?_toArray, List.getElem?_eq_getElem hlt, Sem.run_pure, shapeV, hAg]
    rw [List.drop_eq_getElem_cons hlt]
    rfl
theorem equal_plain : ∀ (k : Nat) (t : TypeId) (m : List Ty), plainEq P k t = some m → ∀ d, k ≤ d → ∀ (us vs : List Value) (b : Bool), eqVals m us vs = some b → ∀ w, (Op.equalIn d t (shapeV P t us) (shapeV P t vs)).run P w = .ok b w := by
  intro k
  induction k with
  | zero => intro t m h; cases h
  | succ k ih =>
    intro t m h d hd us vs b he w
    obtain ⟨d, rfl⟩ : ∃ e, d = e + 1 := ⟨d - 1, by omega⟩
    simp only [plainEq] at h
    have scalar : ∀ κ : Ty, isAggT P t = false → m = [κ] → (∀ u v, eqVal κ u v = some b → (Op.equalIn (d + 1) t u v).run P w = .ok b w) → (Op.equalIn (d + 1) t (shapeV P t us) (shapeV P t vs)).run P w = .ok b w := by
      intro κ hA hm hrun
      subst hm
      obtain ⟨hu, hv⟩ := eqVals_len he
      match us, vs, hu, hv with
      | [u], [v], _, _ =>
        simp only [shapeV, hA, Bool.false_eq_true, if_false, List.headD_cons]
        simp only [eqVals] at he
        split at he
        · rename_i x y h1 h2
          simp only [Option.some.injEq] at he h2
          subst h2
          rw [Bool.and_true] at he
          subst he
          exact hrun u v h1
        · cases he
    split at h
    · rename_i kk hut
      simp only [Option.some.injEq] at h
      refine scalar _ (by simp [isAggT, hut]) h.symm (fun u v h1 => ?_)
      cases u <;> cases v <;> simp only [eqVal, reduceCtorEq] at h1
      split at h1
      · rename_i hk; subst hk
        simp only [Option.some.injEq] at h1
        rw [run_equalIn_int w d t _ kk _ _ hut, h1]
      · cases h1
    · rename_i hut
      simp only [Option.some.injEq] at h
      refine scalar _ (by simp [isAggT, hut]) h.symm (fun u v h1 => ?_)
      cases u <;> cases v <;> simp only [eqVal, reduceCtorEq, Option.some.injEq] at h1
      rw [run_equalIn_bool' w d t _ _ hut, h1]
    · rename_i hut
      simp only [Option.some.injEq] at h
      refine scalar _ (by simp [isAggT, hut]) h.symm (fun u v h1 => ?_)
      cases u <;> cases v <;> simp only [eqVal, reduceCtorEq, Option.some.injEq] at h1
      rw [run_equalIn_string w d t _ _ hut, h1]
    · rename_i fs hut
      split at h
      · cases h
      · rename_i hst
        have hA : isAggT P t = true := by simp [isAggT, hut]
        have hfo : P.fieldsOf t = fs := by simp [Program.fieldsOf, hut]
        simp only [shapeV, hA, if_true]
        rw [run_equalIn_struct w d t us.toArray vs.toArray (by rw [hfo]; exact hut) (by simpa using hst), hfo]
        obtain ⟨hul, hvl⟩ := eqVals_len he
        -- the fields, one by one
        have key : ∀ (l : List Field) (done rest : List Ty), l.foldl (eqStep P k) (some done) = some (done ++ rest) → ∀ b, eqVals rest (us.drop done.length) (vs.drop done.length) = some b →
            (done ++ rest).length = m.length → (Op.eqFields d us.toArray vs.toArray l).run P w = .ok b w := by
          intro l
          induction l with
          | nil =>
            intro done rest hf b hb _
            simp only [List.foldl_nil, Option.some.injEq] at hf
            have : rest = [] := by simpa using hf.symm
            subst this
            obtain ⟨e1, e2⟩ := eqVals_len hb
            rw [List.eq_nil_of_length_eq_zero e1, List.eq_nil_of_length_eq_zero e2] at hb
            have hb' : true = b := by simpa [eqVals] using hb
            subst hb'
            rfl
          | cons f l ihl =>
            intro done rest hf b hb hlen
            rw [List.foldl_cons] at hf
            cases hs : eqStep P k (some done) f with
            | none => rw [hs, eqStep_none] at hf; cases hf
            | some done' =>
              rw [hs] at hf
              unfold eqStep at hs
              split at hs
              · rename_i l' mf hl' hmf
                simp only [Option.some.injEq] at hl'
                subst hl'
                split at hs
                · rename_i hc
                  simp only [Option.some.injEq] at hs
                  subst hs
                  simp only [Bool.and_eq_true] at hc
                  obtain ⟨⟨⟨c1, c2⟩, c3⟩, c4⟩ := hc
                  have hoff := Nat.eq_of_beq_eq_true c1
                  have hsz := Nat.eq_of_beq_eq_true c3
                  have hpos : 0 < mf.length := Nat.le_of_ble_eq_true c4
                  -- what is left begins with this field's cells
                  have hpre : ∀ (l : List Field) (x y : List Ty), l.foldl (eqStep P k) (some x) = some y → ∃ z, y = x ++ z := by
                    intro l
                    induction l with
                    | nil => intro x y h; simp only [List.foldl_nil, Option.some.injEq] at h; exact ⟨[], by simp [h]⟩
                    | cons g l ih2 =>
                      intro x y h
                      rw [List.foldl_cons] at h
                      cases hg : eqStep P k (some x) g with
                      | none => rw [hg, eqStep_none] at h; cases h
                      | some x' =>
                        rw [hg] at h
                        obtain ⟨z, rfl⟩ := ih2 x' y h
                        unfold eqStep at hg
                        split at hg
                        · rename_i l1 m1 hl1 _
                          simp only [Option.some.injEq] at hl1
                          subst hl1
                          split at hg
                          · simp only [Option.some.injEq] at hg
                            subst hg
                            exact ⟨m1 ++ z, by rw [List.append_assoc]⟩
                          · cases hg
                        · cases hg
                  obtain ⟨rest', hrest⟩ := hpre l _ _ hf
                  have hrest' : rest = mf ++ rest' := by
                    rw [List.append_assoc] at hrest
                    exact List.append_cancel_left hrest
                  subst hrest'
                  obtain ⟨b1, b2, h3, h4, h5⟩ := eqVals_append hb
                  rw [List.drop_drop] at h4
                  rw [List.drop_drop] at h4
                  have hle : done.length + mf.length ≤ m.length := by rw [← hlen]; simp only [List.length_append]; omega
                  have hAf : isAggT P f.type = false → isOneT P f.type = true ∧ mf.length = 1 := fun hAf => ⟨(plainEq_one hmf hAf).2, (plainEq_one hmf hAf).1⟩
                  have p1 := run_part (P := P) (t := f.type) (us := us) (off := f.offset) hAf hsz (by omega) hpos w
                  have p2 := run_part (P := P) (t := f.type) (us := vs) (off := f.offset) hAf hsz (by omega) hpos w
                  rw [hoff] at p1 p2
                  have p3 := ih f.type mf hmf d (by omega) _ _ b1 h3 w
                  simp only [Op.eqFields]
                  rw [if_pos (by simpa using c2), Sem.run_bind, hoff, p1, Result.andThen_ok, Sem.run_bind, p2, Result.andThen_ok, Sem.run_bind, p3, Result.andThen_ok]
                  cases b1 with
                  | false => rw [h5]; rfl
                  | true =>
                    rw [h5]
                    simp only [Bool.not_true, Bool.false_eq_true, if_false, Bool.true_and]
                    exact ihl (done ++ mf) rest' (by rw [hf, List.append_assoc]) b2 (by rw [List.length_append]; exact h4) (by rw [← hlen, List.append_assoc])
                · cases hs
              · cases hs
        exact key fs.toList [] m h b (by simpa using he) rfl
    · cases h
end
section
variable {R : Type} {P : Program} {w0 : World} {Nin : Env} {D : Nat → Prop} {s : St} {m : Mp} {a : Act} {w : World} {o : Oper} {K : St → Option R} {r : R} {Q : Exit → Act → World → Prop}
theorem snd_aggEq {op : BinOp} {t yt : TypeId} {x y : Operand} (hop : o.op = .binOp op t x y yt) (neg : Bool) (xs ys : List AV) (hx0 : s.ev x = .agg xs) (hy0 : s.ev y = .agg ys) (hneg : op = if neg then .neq else .eql)
    (h : aggEq P neg t xs ys s o.dst K = some r) (hi : Inv w0 Nin D s m a w) : o.wp P a w (Post K r w0 Nin D) Q := by
  have hx := hi.ev x
  have hy := hi.ev y
  rw [hx0] at hx
  rw [hy0] at hy
  obtain ⟨us, hux, hu2, _⟩ := (show ∃ vs, _ ∧ _ ∧ _ from hx)
  obtain ⟨vs, hvy, hv2, _⟩ := (show ∃ vs, _ ∧ _ ∧ _ from hy)
  unfold aggEq at h
  split at h
  · rename_i ks hks
    split at h
    · rename_i b hb
      split at h
      · rename_i hc
        rw [Bool.and_eq_true] at hc
        have hrun := equal_plain 8 t ks hks 10000 (by omega) us vs b (eqCells_vals hb hu2 hv2) w
        simp only [shapeV, hc.1, if_true] at hrun
        refine quiet_fin (x := .v .bool (bif neg then !b else b)) (v := .bool (bif neg then !b else b)) ?_ rfl h hi
        simp only [execOp, hop]
        refine run_v ?_
        rw [hux, hvy, Sem.run_bind, run_eqGuard_agg w op t x y us.toArray vs.toArray (by simpa using hc.2), Result.andThen_ok]
        subst hneg
        cases neg with
        | true => rw [if_pos rfl, run_neq_struct, hrun]; rfl
        | false => rw [if_neg (by decide), run_eql_struct, hrun]; rfl
      · cases h
    · cases h
  · cases h
end
end Go.Eng
