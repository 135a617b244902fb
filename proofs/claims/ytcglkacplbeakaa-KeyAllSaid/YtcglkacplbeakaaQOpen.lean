/- What came in, opened kind by kind: from the reading of an argument as data to what the printed contracts ask of it. -/
import Derived.Test.YtcglkacplbeakaaPAx0
import Derived.Deep.Slices
import Derived.Deep.Fields
import Derived.Deep.Strs
import Derived.ChangeSame
import Derived.Lib.SmallJoins
namespace Go.Proofs.Ytcglkacplbeakaa.PA
open Go.RowKit Go.Proofs.YtcglkacplbeakaaW.PrintWords Go.ChangeShapes Go.WideShapes Go.Deep
set_option linter.unusedVariables false
set_option linter.unusedSimpArgs false

structure Opens {α : Type} (P : Program) (T : TypeId) (d : Kd α) (G : α → Prop) : Prop where
  sz : P.cellsOf T = d.sz
  op : ∀ {H : Type} {enc : TypeId × Value → H} {w : World} {base : Nat} {held : Bool} {fuel : Nat} {cs : List Value} {x : DataW H × List MemPlace}, DataW.trod enc P w base (fun _ => true) held fuel T cs = some x → ∃ a, d.K w a cs ∧ G a
section
variable {P : Program} {T e : TypeId}
theorem opens_int {k : IntKind} (ht : P.underlying T = some (.int k)) (hc : P.cellsOf T = 1) : Opens P T (Kd.int k) (fun n => (Lit.int k n).wf = true) where
  sz := hc
  op := by
    intro H enc w base held fuel cs x h
    cases fuel with
    | zero => simp [DataW.trod] at h
    | succ n =>
      unfold DataW.trod at h
      rw [ht] at h
      split at h <;> simp_all [Kd.int, Kd.scalar]
theorem opens_string (ht : P.underlying T = some .string) (hc : P.cellsOf T = 1) : Opens P T Kd.string (fun s => s.size ≤ maxLen) where
  sz := hc
  op := by
    intro H enc w base held fuel cs x h
    cases fuel with
    | zero => simp [DataW.trod] at h
    | succ n =>
      unfold DataW.trod at h
      rw [ht] at h
      split at h <;> simp_all [Kd.string, Kd.scalar]
theorem opens_bool (ht : P.underlying T = some .bool) (hc : P.cellsOf T = 1) : Opens P T Kd.bool (fun _ => True) where
  sz := hc
  op := by
    intro H enc w base held fuel cs x h
    cases fuel with
    | zero => simp [DataW.trod] at h
    | succ n =>
      unfold DataW.trod at h
      rw [ht] at h
      split at h <;> simp_all [Kd.bool, Kd.scalar]
theorem list_of {α : Type} {Q : Nat → α → Prop} : ∀ (n : Nat), (∀ i, i < n → ∃ a, Q i a) → ∃ l : List α, l.length = n ∧ ∀ i a, l[i]? = some a → Q i a
  | 0, _ => ⟨[], rfl, fun i a h => by simp at h⟩
  | n + 1, h => by
    obtain ⟨l, hl, hq⟩ := list_of n (fun i hi => h i (by omega))
    obtain ⟨a, ha⟩ := h n (by omega)
    refine ⟨l ++ [a], by simp [hl], fun i b hb => ?_⟩
    rcases Nat.lt_or_ge i l.length with h1 | h1
    · rw [List.getElem?_append_left h1] at hb
      exact hq i b hb
    · rw [List.getElem?_append_right h1] at hb
      rcases Nat.eq_or_lt_of_le h1 with h2 | h2
      · rw [← h2, Nat.sub_self] at hb
        simp only [List.getElem?_cons_zero, Option.some.injEq] at hb
        rw [← hb, ← h2, hl]
        exact ha
      · rw [List.getElem?_eq_none (by simp; omega)] at hb
        cases hb
theorem opens_slice {α : Type} {d : Kd α} {G : α → Prop} (ht : P.underlying T = some (.slice e)) (hc : P.cellsOf T = 1) (he : Opens P e d G) : Opens P T (Kd.slice e d) (fun l => ∀ a ∈ l, G a) where
  sz := hc
  op := by
    intro H enc w base held fuel cs x h
    rcases open_slice ht h with ⟨rfl, _⟩ | ⟨a, len, cap, m, n, D, Pl, rfl, hb, hl, hm, hmm, hx, hi⟩
    · exact ⟨[], ⟨none, 0, rfl, Nat.le_refl _, Kd.C_nil _ _⟩, fun _ h => by cases h⟩
    · have hmc : m = cap := by simpa using hmm
      obtain ⟨l, hll, hq⟩ := list_of (Q := fun i y => ∃ c, d.K w y c ∧ G y ∧ ∀ j u, c[j]? = some u → w.cell? (a.add (i * d.sz + j)) = some u) len (fun i hil => by
        obtain ⟨cs', hcc, htr⟩ := hi i (by omega)
        obtain ⟨y, hK, hG⟩ := he.op htr
        refine ⟨y, cs', hK, hG, fun j u hu => ?_⟩
        obtain ⟨_, hcl, hat⟩ := World.cells?_some hcc
        have hj : j < cs'.length := (List.getElem?_eq_some_iff.1 hu).1
        have := hat j (by omega)
        rw [Go.Deep.add_add, he.sz] at this
        rw [this]
        exact hu)
      refine ⟨l, ⟨some a, cap, by rw [hll], by omega, hll ▸ rfl, by unfold maxLen at hm; omega, fun _ => ⟨a, rfl, fun j p hp => ?_⟩⟩, fun y hy => ?_⟩
      · obtain ⟨c, hK, _, hcell⟩ := hq j p hp
        exact ⟨c, d.K_len hK, hK, hcell⟩
      · obtain ⟨i, hi1⟩ := List.mem_iff_getElem?.1 hy
        obtain ⟨_, _, hG, _⟩ := hq i y hi1
        exact hG
theorem field_op {α : Type} {d : Kd α} {G : α → Prop} {fs : Array Field} {H : Type} {enc : TypeId × Value → H} {w : World} {base : Nat} {held : Bool} {fuel : Nat} {cs : List Value} {x : DataW H × List MemPlace}
    (ht : P.underlying T = some (.struct fs)) (h : DataW.trod enc P w base (fun _ => true) held fuel T cs = some x) (j : Nat) (f : Field) (hj : fs[j]? = some f) (o : Opens P f.type d G) : ∃ a, d.K w a ((cs.drop f.offset).take (P.cellsOf f.type)) ∧ G a := by
  obtain ⟨xs, n, _, _, _, hlen, hf⟩ := DataW.trod_struct ht h
  have hlt : j < fs.size := (Array.getElem?_eq_some_iff.1 hj).1
  have := hf j f hj
  rw [List.getElem?_eq_getElem (by omega)] at this
  exact o.op this
theorem struct_len {fs : Array Field} {H : Type} {enc : TypeId × Value → H} {w : World} {base : Nat} {held : Bool} {fuel : Nat} {cs : List Value} {x : DataW H × List MemPlace}
    (ht : P.underlying T = some (.struct fs)) (h : DataW.trod enc P w base (fun _ => true) held fuel T cs = some x) : cs.length = P.cellsOf T := by
  obtain ⟨xs, n, _, _, hl, hlen, hf⟩ := DataW.trod_struct ht h
  exact hl
/-- A slice that came in. -/
theorem open_top {α : Type} {d : Kd α} {G : List α → Prop} {H : Type} {enc : TypeId × Value → H} {w : World} {base b0 : Nat} {held : Bool} {r : Reach} {v : Value} {x : DataW H} {p : List MemPlace}
    (ht : P.underlying T = some (.slice e)) (ho : Opens P T (Kd.slice e d) G) (hv : Value.okWide P w r b0 T v) (h : DataW.Trod enc P w base (fun _ => true) held T v x p) :
    ∃ (A : Option Addr) (c : Nat) (l : List α), v = .slice A l.length c ∧ Kd.C d w A l.length l ∧ l.length ≤ c ∧ G l := by
  obtain ⟨a, len, cap, rfl⟩ := okWide_slice ht hv
  obtain ⟨fuel, hf⟩ := h
  obtain ⟨l, ⟨A, c, hcs, hl, hC⟩, hG⟩ := ho.op hf
  simp [Value.cells] at hcs
  obtain ⟨rfl, rfl, rfl⟩ := hcs
  exact ⟨a, cap, l, rfl, hC, hl, hG⟩
/-- A struct that came in: its cells. -/
theorem open_agg {α : Type} {d : Kd α} {G : α → Prop} {H : Type} {enc : TypeId × Value → H} {w : World} {base b0 : Nat} {held : Bool} {r : Reach} {v : Value} {x : DataW H} {p : List MemPlace} {fs : Array Field}
    (ht : P.underlying T = some (.struct fs)) (ho : Opens P T d G) (hv : Value.okWide P w r b0 T v) (h : DataW.Trod enc P w base (fun _ => true) held T v x p) :
    ∃ (cs : List Value) (a : α), v = .agg cs.toArray ∧ d.K w a cs ∧ G a := by
  obtain ⟨cs, rfl, hsz⟩ := okWide_struct ht hv
  obtain ⟨fuel, hf⟩ := h
  obtain ⟨a, hK, hG⟩ := ho.op hf
  refine ⟨cs.toList, a, by simp, ?_, hG⟩
  simpa [Value.cells] using hK
end
end Go.Proofs.Ytcglkacplbeakaa.PA
