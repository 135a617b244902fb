/- ENGINE, part I: struct and slice literals, make, boxes, stores: the operations. -/
import Derived.Test.YtogancdiihbjfaaEngH
import Derived.Laws.Tables
namespace Go.Eng
open Go Go.RowKit
section
variable {R : Type} {Γ : Ctx} {P : Program} {w0 : World} {Nin : Env} {D : Nat → Prop} {s : St} {m : Mp} {a : Act} {w : World} {o : Oper} {K : St → Option R} {r : R} {Q : Exit → Act → World → Prop}
/-! ### struct literals -/
theorem fillA_sound {q : Vw} {t : TypeId} {places : Nat → Option (Nat × Nat)} (hpl : ∀ i off ft, fieldOf P t i = some (off, ft) → places i = some (off, szOf P ft)) :
    ∀ (parts : List (Nat × AV)) (vparts : List (Nat × Value)) (cs cs' : List AV) (cells : Array Value), fillA P t cs parts = some cs' → all2 (fun (x : Nat × AV) (y : Nat × Value) => x.1 = y.1 ∧ V q x.2 y.2) parts vparts →
      all2 (V1 q) cs cells.toList → (∀ u ∈ cells.toList, u.oneCell' = true) → ∃ cells', Instr.fill places cells vparts = some cells' ∧ all2 (V1 q) cs' cells'.toList ∧ ∀ u ∈ cells'.toList, u.oneCell' = true
  | [], [], cs, cs', cells, h, _, h2, h1 => by
    simp only [fillA, Option.some.injEq] at h
    subst h
    exact ⟨cells, rfl, h2, h1⟩
  | (i, x) :: parts, (j, v) :: vparts, cs, cs', cells, h, hp, h2, h1 => by
    obtain ⟨⟨he, hv⟩, hp'⟩ := hp
    have he' : i = j := he
    subst he'
    simp only [fillA] at h
    split at h
    · rename_i off ft hf
      split at h
      · rename_i new hn
        split at h
        · rename_i hb
          have hle := Nat.le_of_ble_eq_true hb
          obtain ⟨hlen, vs, hvc, h3, h4⟩ := sizedCells_V hn hv
          have hl := all2_len h3
          have hl2 : cs.length = cells.size := by rw [all2_len h2, Array.length_toList]
          rw [fill_step (hpl i off ft hf) hvc (by omega) (by omega)]
          refine fillA_sound hpl parts vparts _ cs' _ h hp' (setCells_all2 h2 h3 off) (fun u hu => ?_)
          rcases List.mem_append.1 (show u ∈ cells.toList.take off ++ vs ++ cells.toList.drop (off + vs.length) from hu) with hu | hu
          · rcases List.mem_append.1 hu with hu | hu
            · exact h1 u (List.mem_of_mem_take hu)
            · exact h4 u hu
          · exact h1 u (List.mem_of_mem_drop hu)
        · cases h
      · cases h
    · cases h
  | [], _ :: _, _, _, _, _, hp, _, _ => hp.elim
  | _ :: _, [], _, _, _, _, hp, _, _ => hp.elim
theorem parts_V (hi : Inv w0 Nin D s m a w) : ∀ (l : List (Nat × Operand)), all2 (fun (x : Nat × AV) (y : Nat × Value) => x.1 = y.1 ∧ V (vw w0 Nin s m w) x.2 y.2) (l.map fun (i, x) => (i, s.ev x)) (l.map fun (i, x) => (i, a.eval x))
  | [] => trivial
  | (_, x) :: l => ⟨⟨rfl, hi.ev x⟩, parts_V hi l⟩
theorem places_ok {t : TypeId} {fields : Array Field} {places : List (Nat × Nat)} (hu : P.underlying t = some (.struct fields)) (hp : fields.toList.mapM (fun f => (P.info? f.type).map fun i => (f.offset, i.size)) = some places) :
    ∀ i off ft, fieldOf P t i = some (off, ft) → places.toArray[i]? = some (off, szOf P ft) := by
  have key : ∀ (fs : List Field) (places : List (Nat × Nat)), fs.mapM (fun f => (P.info? f.type).map fun i => (f.offset, i.size)) = some places → ∀ (i : Nat) (f : Field), fs[i]? = some f → places[i]? = some (f.offset, szOf P f.type) := by
    intro fs
    induction fs with
    | nil => intro places _ i f hf; simp at hf
    | cons g fs ih =>
      intro places h i f hf
      simp only [List.mapM_cons, Option.bind_eq_bind, Option.pure_def] at h
      cases hg : P.info? g.type with
      | none => simp [hg] at h
      | some inf =>
        cases hr : fs.mapM (fun f => (P.info? f.type).map fun i => (f.offset, i.size)) with
        | none => simp [hg, hr] at h
        | some rest =>
          simp [hg, hr] at h
          subst h
          cases i with
          | zero =>
            simp only [List.getElem?_cons_zero, Option.some.injEq] at hf ⊢
            subst hf
            simp [szOf, hg]
          | succ i =>
            rw [List.getElem?_cons_succ] at hf ⊢
            exact ih rest hr i f hf
  intro i off ft h
  unfold fieldOf at h
  rw [hu] at h
  cases hf : fields[i]? with
  | none => simp only [hf] at h; cases h
  | some f =>
    simp only [hf] at h
    split at h
    · simp only [Option.some.injEq, Prod.mk.injEq] at h
      obtain ⟨rfl, rfl⟩ := h
      simpa using key _ places hp i f (by simpa using hf)
    · cases h
theorem snd_build {t : TypeId} {parts : Array (Nat × Operand)} (hop : o.op = .build t parts)
    (h : (match P.underlying t, (P.info? t).bind (·.zero) with
    | some (.struct _), some (.agg z) => match (ofConst (.agg z)) with
      | .agg cs => match fillB P t cs (parts.toList.map fun (i, x) => (i, s.ev x)) with
        | some cs' => K (s.put o.dst (.agg cs'))
        | none => none
      | _ => none
    | _, _ => none) = some r) (hi : Inv w0 Nin D s m a w) : o.wp P a w (Post K r w0 Nin D) Q := by
  split at h
  · rename_i fields z hu hz
    split at h
    · rename_i cs hcs
      split at h
      · rename_i cs' hf
        unfold fillB at hf
        split at hf <;> first | (cases hf; done) | skip
        rename_i hpo
        have hpl : (fields.toList.mapM (fun f => (P.info? f.type).map fun i => (f.offset, i.size))).isSome = true := by
          unfold placesOk at hpo
          rw [hu] at hpo
          exact hpo
        obtain ⟨places, hp⟩ := Option.isSome_iff_exists.1 hpl
        have hzV := V_ofConst (vw w0 Nin s m w) (.agg z)
        rw [hcs] at hzV
        obtain ⟨vs, he, h2, h1⟩ := (show ∃ vs, _ ∧ _ ∧ _ from hzV)
        have he' : z = vs.toArray := by injection he
        subst he'
        obtain ⟨cells', h3, h4, h5⟩ := fillA_sound (q := vw w0 Nin s m w) (places := (places.toArray[·]?)) (places_ok hu hp) _ (parts.toList.map fun (i, x) => (i, a.eval x)) cs cs' vs.toArray hf (parts_V hi _) (by simpa using h2) (by simpa using h1)
        cases hinf : P.info? t with
        | none => rw [hinf] at hz; cases hz
        | some inf =>
          rw [hinf] at hz
          have hz' : inf.zero = some (.agg vs.toArray) := hz
          refine quiet_fin (x := .agg cs') (v := .agg cells') ?_ ⟨cells'.toList, rfl, h4, h5⟩ h hi
          simp only [execOp, hop]
          refine run_v (run_build w t _ cells' ?_)
          unfold Program.built
          rw [hinf, hu]
          simp only [hz', hp]
          simpa [Value.cells] using h3
      · cases h
    · cases h
  · cases h
/-! ### slice literals -/
theorem fill_rows {q : Vw} {e : Ty} (hpos : 0 < e.sz) : ∀ (parts : List (Nat × AV)) (vparts : List (Nat × Value)) (k : Nat) (xs : List e.den) (done : List Value) (rest : List Value), partsA e k parts = some xs →
    all2 (fun (x : Nat × AV) (y : Nat × Value) => x.1 = y.1 ∧ V q x.2 y.2) parts vparts → done.length = k * e.sz → rest.length = parts.length * e.sz →
    ∃ inner, Instr.fill (fun i => some (i * e.sz, e.sz)) (done ++ rest).toArray vparts = some (done ++ inner).toArray ∧ repsOf (rep q.w q.N e) xs inner
  | [], [], k, xs, done, rest, h, _, _, hr => by
    simp only [partsA, Option.some.injEq] at h
    subst h
    have : rest = [] := List.eq_nil_of_length_eq_zero (by simpa using hr)
    subst this
    exact ⟨[], rfl, rfl⟩
  | (i, x) :: parts, (j, v) :: vparts, k, xs, done, rest, h, hp, hd, hr => by
    obtain ⟨⟨he, hv⟩, hp'⟩ := hp
    have he' : i = j := he
    subst he'
    simp only [partsA] at h
    split at h
    · rename_i hik
      have hik' := Nat.eq_of_beq_eq_true hik
      subst hik'
      split at h
      · rename_i y ys hy hys
        simp only [Option.some.injEq] at h
        subst h
        have hrep := asTy_V hy hv
        have hlen := rep_len _ _ _ hrep
        rw [List.length_cons, Nat.succ_mul] at hr
        have hle : (done ++ rest).toArray.size = i * e.sz + (parts.length * e.sz + e.sz) := by simp [hd, hr]
        rw [fill_step (vs := v.cells.toList) rfl (by simp) hlen (by rw [hle, hlen]; omega)]
        have e1 : (done ++ rest).toArray.toList.take (i * e.sz) = done := by
          show (done ++ rest).take (i * e.sz) = done
          rw [← hd]; exact List.take_left
        have e2 : (done ++ rest).toArray.toList.drop (i * e.sz + v.cells.toList.length) = rest.drop e.sz := by
          show (done ++ rest).drop _ = _
          rw [List.drop_append, hd, hlen, show i * e.sz + e.sz - i * e.sz = e.sz by omega, List.drop_of_length_le (l := done) (by omega), List.nil_append]
        rw [e1, e2]
        obtain ⟨inner, h3, h4⟩ := fill_rows hpos parts vparts (i + 1) ys (done ++ v.cells.toList) (rest.drop e.sz) hys hp' (by rw [List.length_append, hd, hlen, Nat.succ_mul]) (by rw [List.length_drop]; omega)
        exact ⟨v.cells.toList ++ inner, by rw [h3, List.append_assoc], v.cells.toList, inner, rfl, hrep, h4⟩
      · cases h
    · cases h
  | [], _ :: _, _, _, _, _, _, hp, _, _ => hp.elim
  | _ :: _, [], _, _, _, _, _, hp, _, _ => hp.elim
theorem partsA_len {e : Ty} : ∀ (parts : List (Nat × AV)) (k : Nat) (xs : List e.den), partsA e k parts = some xs → xs.length = parts.length
  | [], k, xs, h => by simp only [partsA, Option.some.injEq] at h; subst h; rfl
  | (i, x) :: parts, k, xs, h => by
    simp only [partsA] at h
    split at h
    · split at h
      · rename_i y ys _ hys
        simp only [Option.some.injEq] at h
        subst h
        rw [List.length_cons, List.length_cons, partsA_len parts _ ys hys]
      · cases h
    · cases h
theorem snd_buildSlice {n : Nat} (hn : ¬ D n) {t : TypeId} {len : Nat} {parts : Array (Nat × Operand)} (hop : o.op = .buildSlice t len parts)
    (h : (match elemTy Γ t with
    | some (et, e) => match partsA e 0 (parts.toList.map fun (i, x) => (i, s.ev x)) with
      | some xs => if Nat.beq parts.size len && Nat.ble (len * e.sz) 1000 && Nat.ble len 1000 then K (St.put { s with live := addBit s.live (8 * n) } o.dst (.own (8 * n) et e xs)) else none
      | none => none
    | none => none) = some r) (hi : Inv w0 Nin D s m a w) : o.wp Γ.P a w (Post K r w0 Nin (fun k => D k ∨ k = n)) Q := by
  split at h
  · rename_i et e hel
    obtain ⟨hu, hty, i, hinf, hsz, hs0, hb0, hbt, z, hz1, hz2⟩ := elemTy_sound hel
    split at h
    · rename_i xs hxs
      split at h
      · rename_i hb
        rw [Bool.and_eq_true, Bool.and_eq_true] at hb
        have hlen : parts.size = len := Nat.eq_of_beq_eq_true hb.1.1
        have hlim : len * e.sz ≤ 1000 := Nat.le_of_ble_eq_true hb.1.2
        have hlim2 : len ≤ 1000 := Nat.le_of_ble_eq_true hb.2
        have hxl : xs.length = len := by rw [partsA_len _ _ _ hxs, List.length_map, Array.length_toList, hlen]
        obtain ⟨inner, h3, h4⟩ := fill_rows (q := vw w0 Nin s m w) (by omega) (parts.toList.map fun (i, x) => (i, s.ev x)) (parts.toList.map fun (i, x) => (i, a.eval x)) 0 xs [] (madeCells (if len * e.sz = 0 then #[] else z.cells) (len * e.sz)).toList hxs (parts_V hi _) (by simp) (by
          rw [Array.length_toList, size_madeCells, List.length_map, Array.length_toList, hlen])
        have hil := reps_len xs inner h4
        have hg := World.grownBy_alloc w (.cells inner.toArray et) (Option.bind (none : Option Nat) m.G)
        have hown := World.ownsRow_lit (e := et) (size := e.sz) (base := w0.heap.size) w inner.toArray len hi.below.size (by simp only [maxLen]; omega) (by simp [hil, hxl])
        obtain ⟨m', hI, hV⟩ := own_fin (n := n) (id := 8 * n) (live' := addBit s.live (8 * n)) (xs := xs) (inner := inner) (et := et) (v' := .slice (some ⟨w.heap.size, 0, none⟩) len len) (w' := w.alloc (.cells inner.toArray et)) hi hn (by omega) none
          (fun t => by rw [bit_add]; simp [Bool.or_comm]) (fun τ hτ => by cases hτ) (by rw [hxl]; exact hown) hg (.inr ⟨_, rfl, Nat.le_refl _⟩) (fun τ k hτ => by cases hτ) (fun τ hτ => by cases hτ) h4
        refine wp_value (v := .slice (some ⟨w.heap.size, 0, none⟩) len len) ?_ ⟨_, m', h, hI.put o.dst hV⟩
        simp only [execOp, hop]
        refine run_v ?_
        have h3' : Instr.fill (fun i => some (i * e.sz, e.sz)) (madeCells (if len * e.sz = 0 then #[] else z.cells) (len * e.sz)) (parts.toList.map fun (i, x) => (i, a.eval x)) = some inner.toArray := by simpa using h3
        have hnot : ¬ (len * e.sz > 2 ^ 24) := by omega
        unfold madeCells at h3'
        simp only [Instr.buildSlice, Sem.run_bind, run_underlying hu, Result.andThen_ok, sizeOf, typeInfo]
        by_cases h0 : len * e.sz = 0
        · simp only [h0, if_true, Array.range_zero', Array.map_empty] at h3'
          simp [hinf, hsz, hnot, h0, h3', newRow, Array.range_zero']
        · simp only [if_neg h0] at h3'
          simp [hinf, hsz, hnot, h0, zeroValue, typeInfo, hz1, h3', newRow]
      · cases h
    · cases h
  · cases h
end
end Go.Eng
