/- ENGINE, part V: the program's tables; what comes in at a law, opened by its type. -/
import Derived.Test.YtogancdiihbjfaaEngU
import Derived.Deep.Slices
import Derived.Deep.Fields
import Derived.Deep.Strs
import Derived.ChangeShapes
import Derived.WideShapes
import Derived.KernelRfl
namespace Go.Eng
open Go Go.RowKit Go.ChangeShapes Go.WideShapes Go.Deep
def tyFs (P : Program) (ty : TypeId → Option Ty) : List Field → Nat → Option Ty
  | [], _ => some .unit
  | f :: r, off => if Nat.beq f.offset off then (match ty f.type, tyFs P ty r (off + P.cellsOf f.type) with
    | some a, some b => if Nat.beq a.sz (P.cellsOf f.type) then some (.pair a b) else none
    | _, _ => none) else none
/-- The type of a type's values, if this machine knows them. -/
def tyOf (P : Program) : Nat → TypeId → Option Ty
  | 0, _ => none
  | n + 1, t => match P.underlying t with
    | some (.int k) => some (.int k)
    | some .bool => some .bool
    | some .string => some .str
    | some (.float k) => some (.flt k)
    | some (.slice e) => match tyOf P n e with
      | some a => if Nat.beq a.sz (P.cellsOf e) then some (.sl a) else none
      | none => none
    | some (.struct fs) => match tyFs P (tyOf P n) fs.toList 0 with
      | some a => if Nat.beq a.sz (P.cellsOf t) then some a else none
      | none => none
    | _ => none
/-- What holds of every value that comes in. -/
def wf : (t : Ty) → t.den → Prop
  | .int k, n => (Lit.int k n).wf = true
  | .bool, _ => True
  | .str, s => ByteArray.size s ≤ maxLen
  | .flt k, b => (Lit.float k b).wf = true
  | .unit, _ => True
  | .pair a b, x => wf a x.1 ∧ wf b x.2
  | .sl e, xs => List.length xs ≤ maxLen ∧ ∀ x ∈ (xs : List e.den), wf e x
def InN (w : World) (b : Nat) : Prop := b < w.heap.size ∧ True
section
variable {P : Program} {H : Type} {enc : TypeId × Value → H} {w : World} {base : Nat} {held : Bool}
theorem row_of {e : Ty} {a : Addr} {m : Nat} : ∀ n : Nat, n ≤ m → (∀ i, i < m → ∃ cs', (∃ y, rep w (InN w) e y cs' ∧ wf e y) ∧ ∀ j u, cs'[j]? = some u → w.cell? (a.add (i * e.sz + j)) = some u) →
    ∃ (xs : List e.den) (inner : List Value), xs.length = n ∧ repsOf (rep w (InN w) e) xs inner ∧ (∀ x ∈ xs, wf e x) ∧ inner.length = n * e.sz ∧ ∀ j u, inner[j]? = some u → w.cell? (a.add j) = some u
  | 0, _, _ => ⟨[], [], rfl, rfl, (fun x hx => by cases hx), by simp, (fun j u hj => by simp at hj)⟩
  | n + 1, hn, h => by
    obtain ⟨xs, inner, h1, h2, h3, h4, h5⟩ := row_of n (by omega) h
    obtain ⟨cs', ⟨y, hy, hw⟩, hc⟩ := h n (by omega)
    refine ⟨xs ++ [y], inner ++ cs', by simp [h1], repsOf_append h2 ⟨cs', [], by simp, hy, rfl⟩, fun x hx => ?_, ?_, fun j u hj => ?_⟩
    · rcases List.mem_append.1 hx with hx | hx
      · exact h3 x hx
      · rw [List.mem_singleton.1 hx]; exact hw
    · rw [List.length_append, h4, rep_len e y cs' hy, Nat.succ_mul]
    · by_cases hlt : j < inner.length
      · rw [List.getElem?_append_left hlt] at hj; exact h5 j u hj
      · rw [List.getElem?_append_right (by omega), h4] at hj
        have := hc (j - n * e.sz) u hj
        rwa [show n * e.sz + (j - n * e.sz) = j by omega] at this
theorem opens_ty : ∀ (n : Nat) (t : TypeId) (ty : Ty), tyOf P n t = some ty → ∀ {fuel : Nat} {cs : List Value} {x : DataW H × List MemPlace}, DataW.trod enc P w base (fun _ => true) held fuel t cs = some x →
    ∃ y : ty.den, rep w (InN w) ty y cs ∧ wf ty y
  | 0, _, _, h => by cases h
  | n + 1, t, ty, ht => by
    rename_i fuel cs x
    intro h
    simp only [tyOf] at ht
    cases fuel with
    | zero => simp [DataW.trod] at h
    | succ fuel =>
    split at ht
    · rename_i k hu
      simp only [Option.some.injEq] at ht
      subst ht
      unfold DataW.trod at h
      rw [hu] at h
      split at h <;> simp_all [rep, wf]
    · rename_i hu
      simp only [Option.some.injEq] at ht
      subst ht
      unfold DataW.trod at h
      rw [hu] at h
      split at h <;> simp_all [rep, wf]
    · rename_i hu
      simp only [Option.some.injEq] at ht
      subst ht
      unfold DataW.trod at h
      rw [hu] at h
      split at h <;> simp_all [rep, wf]
    · rename_i k hu
      simp only [Option.some.injEq] at ht
      subst ht
      unfold DataW.trod at h
      rw [hu] at h
      split at h <;> simp_all [rep, wf]
    · rename_i e hu
      split at ht
      · rename_i a hta
        split at ht
        · rename_i hsz
          have hsz := Nat.eq_of_beq_eq_true hsz
          simp only [Option.some.injEq] at ht
          subst ht
          rcases open_slice hu h with ⟨rfl, _⟩ | ⟨ad, len, cap, m, n', D, Pl, rfl, hb, hl, hm, hmm, hx, hi⟩
          · exact ⟨[], ⟨none, 0, [], rfl, Nat.le_refl _, rfl, .inl rfl⟩, by simp [maxLen], fun x hx => by cases hx⟩
          · have hmc : m = cap := by simpa using hmm
            obtain ⟨xs, inner, h1, h2, h3, h4, h5⟩ := row_of (w := w) (e := a) (a := ad) (m := m) len (by omega) (fun i him => by
              obtain ⟨cs', hcc, htr⟩ := hi i him
              refine ⟨cs', opens_ty n e a hta htr, fun j u hu' => ?_⟩
              obtain ⟨_, hcl, hat⟩ := World.cells?_some hcc
              have hj : j < cs'.length := (List.getElem?_eq_some_iff.1 hu').1
              have := hat j (by omega)
              rw [Go.Deep.add_add, ← hsz] at this
              rw [this]
              exact hu')
            refine ⟨xs, ⟨some ad, cap, inner, by rw [h1], by rw [h1]; exact hl, h2, ?_⟩, by rw [h1]; omega, h3⟩
            cases inner with
            | nil => exact .inl rfl
            | cons u inner =>
              refine .inr ⟨ad, rfl, ⟨?_, trivial⟩, h5⟩
              have h0 := h5 0 u rfl
              have hk : ad.add 0 = ad := by simp [Addr.add]
              rw [hk] at h0
              cases ad with
              | mk b o sp =>
                unfold World.cell? at h0
                simp only at h0
                cases hh : w.heap[b]? with
                | none => rw [hh] at h0; simp at h0
                | some _ => exact (Array.getElem?_eq_some_iff.1 hh).1
        · cases ht
      · cases ht
    · rename_i fs hu
      split at ht
      · rename_i a hta
        split at ht
        · rename_i hsz
          have hsz := Nat.eq_of_beq_eq_true hsz
          simp only [Option.some.injEq] at ht
          subst ht
          obtain ⟨xs, n', _, _, hcl, hlen, hf⟩ := DataW.trod_struct hu h
          have key : ∀ (l : List Field) (off : Nat) (b : Ty), tyFs P (tyOf P n) l off = some b → off + b.sz = cs.length → (∀ f ∈ l, ∃ x : DataW H × List MemPlace, DataW.trod enc P w base (fun _ => true) held n' f.type ((cs.drop f.offset).take (P.cellsOf f.type)) = some x) →
              ∃ y : b.den, rep w (InN w) b y (cs.drop off) ∧ wf b y := by
            intro l
            induction l with
            | nil =>
              intro off b hb ho _
              simp only [tyFs, Option.some.injEq] at hb
              subst hb
              refine ⟨(), ?_, trivial⟩
              show cs.drop off = []
              rw [List.drop_of_length_le]
              have : off + 0 = cs.length := ho
              omega
            | cons f l ih =>
              intro off b hb ho hfs
              simp only [tyFs] at hb
              split at hb
              · rename_i hoff
                have hoff := Nat.eq_of_beq_eq_true hoff
                split at hb
                · rename_i a1 b1 ha1 hb1
                  split at hb
                  · rename_i hs1
                    have hs1 := Nat.eq_of_beq_eq_true hs1
                    simp only [Option.some.injEq] at hb
                    subst hb
                    have ho' : off + (a1.sz + b1.sz) = cs.length := ho
                    obtain ⟨x1, hx1⟩ := hfs f List.mem_cons_self
                    obtain ⟨y1, r1, w1⟩ := opens_ty n f.type a1 ha1 hx1
                    obtain ⟨y2, r2, w2⟩ := ih (off + P.cellsOf f.type) b1 hb1 (by omega) (fun g hg => hfs g (List.mem_cons_of_mem _ hg))
                    refine ⟨(y1, y2), ⟨_, _, ?_, r1, r2⟩, w1, w2⟩
                    rw [hoff, ← List.drop_drop, List.take_append_drop]
                  · cases hb
                · cases hb
              · cases hb
          have := key fs.toList 0 a hta (by rw [hcl]; omega) (fun f hfm => by
            obtain ⟨j, hj⟩ := List.mem_iff_getElem?.1 hfm
            have hj' : fs[j]? = some f := by simpa using hj
            have hlt : j < fs.size := (Array.getElem?_eq_some_iff.1 hj').1
            have := hf j f hj'
            rw [List.getElem?_eq_getElem (by omega)] at this
            exact ⟨_, this⟩)
          simpa using this
        · cases ht
      · cases ht
    · cases ht
/-- What is handed to a law's function, as the machine takes it. -/
def argAV (t : Ty) (x : t.den) : AV := mk1 0 none t x
theorem open_arg {n : Nat} {t : TypeId} {ty : Ty} (ht : tyOf P n t = some ty) {r : Reach} {b0 : Nat} {v : Value} {x : DataW H} {p : List MemPlace}
    (hv : Value.okWide P w r b0 t v) (h : DataW.Trod enc P w base (fun _ => true) held t v x p) : ∃ y : ty.den, V (argVw w (fun _ => True)) (argAV ty y) v ∧ wf ty y := by
  obtain ⟨fuel, hf⟩ := h
  obtain ⟨y, hr, hw⟩ := opens_ty n t ty ht hf
  refine ⟨y, ?_, hw⟩
  have hr' : rep w (argVw w (fun _ => True)).N ty y v.cells.toList := hr
  have hlen := rep_len ty y _ hr
  cases n with
  | zero => cases ht
  | succ n =>
    simp only [tyOf] at ht
    have one : (∃ u, v = u ∧ u.cells = #[u]) → (∀ a b, ty ≠ .pair a b) → ty ≠ .unit → V (argVw w (fun _ => True)) (argAV ty y) v := by
      rintro ⟨u, rfl, hu⟩ h1 h2
      rw [hu] at hr'
      cases ty <;> first | exact hr' | (exact absurd rfl (h1 _ _)) | (exact absurd rfl h2)
    split at ht
    · rename_i k hu
      simp only [Option.some.injEq] at ht
      subst ht
      obtain ⟨m, rfl⟩ := okWide_int hu hv
      exact one ⟨_, rfl, rfl⟩ (fun _ _ h => by cases h) (fun h => by cases h)
    · rename_i hu
      simp only [Option.some.injEq] at ht
      subst ht
      obtain ⟨m, rfl⟩ := okWide_bool hu hv
      exact one ⟨_, rfl, rfl⟩ (fun _ _ h => by cases h) (fun h => by cases h)
    · rename_i hu
      simp only [Option.some.injEq] at ht
      subst ht
      obtain ⟨m, rfl⟩ := okWide_string hu hv
      exact one ⟨_, rfl, rfl⟩ (fun _ _ h => by cases h) (fun h => by cases h)
    · rename_i k hu
      simp only [Option.some.injEq] at ht
      subst ht
      obtain ⟨m, rfl⟩ : ∃ m, v = .float k m := by
        simp only [Value.okWide, hu, Cell.okWide] at hv
        cases v <;> simp_all [Cell.ok]
      exact one ⟨_, rfl, rfl⟩ (fun _ _ h => by cases h) (fun h => by cases h)
    · rename_i e hu
      split at ht
      · split at ht
        · simp only [Option.some.injEq] at ht
          subst ht
          obtain ⟨a, l, c, rfl⟩ := okWide_slice hu hv
          exact one ⟨_, rfl, rfl⟩ (fun _ _ h => by cases h) (fun h => by cases h)
        · cases ht
      · cases ht
    · rename_i fs hu
      obtain ⟨cs, rfl, _⟩ := okWide_struct hu hv
      split at ht
      · rename_i a hta
        split at ht
        · simp only [Option.some.injEq] at ht
          subst ht
          have hshape : (∃ p q, a = .pair p q) ∨ a = .unit := by
            cases hl : fs.toList with
            | nil => rw [hl] at hta; simp only [tyFs, Option.some.injEq] at hta; exact .inr hta.symm
            | cons f l =>
              rw [hl] at hta
              simp only [tyFs] at hta
              split at hta
              · split at hta
                · split at hta
                  · simp only [Option.some.injEq] at hta; exact .inl ⟨_, _, hta.symm⟩
                  · cases hta
                · cases hta
              · cases hta
          rcases hshape with ⟨p, q, rfl⟩ | rfl
          · exact ⟨cs.toList, by simp, cellsT_V1 hr', rep_one _ _ _ hr'⟩
          · exact ⟨cs.toList, by simp, by rw [show cs.toList = [] from hr']; trivial, by rw [show cs.toList = [] from hr']; exact fun u hu => by cases hu⟩
        · cases ht
      · cases ht
    · cases ht
end
/-! ### the tables, checked -/
def namesB (P : Program) : Bool := P.funcs.toList.all fun fn => !(fn.name == "runtime.NumGoroutine")
theorem names_of {P : Program} (h : namesB P = true) : ∀ (f : FuncId) (fn : Func), P.funcs[f]? = some fn → (fn.name == "runtime.NumGoroutine") = false := by
  intro f fn hf
  have := List.all_eq_true.1 h fn (Array.mem_toList_iff.2 (Array.mem_of_getElem? hf))
  simpa using this
/-- A contract that answers a truth, as a law asks for it. -/
theorem Contract.truth {P : Program} {f : FuncId} {args : List AV} {b : Bool} (h : Contract P (.one none .bool) f args b) {w : World} {vargs : List Value} (hv : all2 (V (argVw w (fun _ => True))) args vargs) :
    Calls P f vargs.toArray w fun e w' => e = .returned (.bool b) ∧ Below w.heap.size w w' := by
  refine (h w (fun _ => True) vargs hv).mono ?_
  rintro e w' ⟨v, rfl, hb, ⟨⟨vs, hs, hr⟩, _⟩, _⟩
  have h1 : vs = [v] := hs
  have h2 : vs = [.bool b] := hr
  rw [h1] at h2
  simp only [List.cons.injEq, and_true] at h2
  exact ⟨by rw [h2], hb⟩
end Go.Eng
