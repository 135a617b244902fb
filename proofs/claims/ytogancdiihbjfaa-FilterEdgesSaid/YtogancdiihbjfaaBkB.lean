/- Small lemmas that all the walks need. -/
import Derived.Test.YtogancdiihbjfaaBkM
namespace Go.Eng.Bk
open Go Go.Proofs Go.Eng
set_option linter.unusedVariables false
set_option linter.unusedSimpArgs false
theorem bnd {α β : Type} {o : Option α} {x : α} {f : α → Option β} {r : Option β} (h : o = some x) (h2 : f x = r) : o.bind f = r := by rw [h]; exact h2
theorem cif {α : Type} (b : Bool) (x y : α) : (bif b then x else y) = if b = true then x else y := by cases b <;> rfl
theorem bT {c : Prop} [Decidable c] {α : Type} {x y : α} (h : c) : (bif decide c then x else y) = x := by rw [decide_eq_true h]; rfl
theorem bF {c : Prop} [Decidable c] {α : Type} {x y : α} (h : ¬ c) : (bif decide c then x else y) = y := by rw [decide_eq_false h]; rfl
theorem getD_drop {l : List Int} {i : Nat} {c : Int} {t : List Int} (h : l.drop i = c :: t) (d : Int) : l.getD i d = c := by
  have : l[i]? = some c := by
    have := congrArg (fun x => x[0]?) h
    simpa using this
  rw [List.getD_eq_getElem?_getD, this]; rfl
/-- Rooms are no matter. -/
abbrev room : Nat := 140737488355328
theorem callS (k : Nat) (f : FuncId) (args : List AV) : callN B (k + 1) f args = stepN B (callN B k) (lvl B k).2 k f args := by kernel_rfl
theorem wu64 {x : Int} (h0 : 0 ≤ x) (h1 : x < 18446744073709551616) : IntKind.u64.wrap x = x := by
  have hb : IntKind.u64.bits = 64 := rfl
  have hs : IntKind.u64.signed = false := rfl
  unfold IntKind.wrap
  rw [hb, hs]
  simp
  omega
theorem drop_cons {α : Type} {l : List α} {i : Nat} (h : i < l.length) : ∃ c t, l.drop i = c :: t ∧ c ∈ l := by
  cases hd : l.drop i with
  | nil => exact absurd (List.drop_eq_nil_iff.1 hd) (by omega)
  | cons c t => exact ⟨c, t, rfl, List.mem_of_mem_drop (by rw [hd]; simp : c ∈ l.drop i)⟩
theorem dsucc {α : Type} {l : List α} {i : Nat} {c : α} {t : List α} (h : l.drop i = c :: t) : l.drop (i + 1) = t := by
  have : l.drop (i + 1) = (l.drop i).drop 1 := by rw [List.drop_drop]
  rw [this, h]; rfl
theorem dgetD {α : Type} {l : List α} {i : Nat} {c : α} {t : List α} (h : l.drop i = c :: t) (d : α) : l.getD i d = c := by
  have : l[i]? = some c := by
    have := congrArg (fun x => x[0]?) h
    simpa using this
  rw [List.getD_eq_getElem?_getD, this]; rfl
theorem getD_mem {α : Type} {l : List α} {i : Nat} (h : i < l.length) (d : α) : l.getD i d ∈ l := by
  rw [List.getD_eq_getElem?_getD, List.getElem?_eq_getElem h]
  exact List.getElem_mem h
theorem getD_lt' {α : Type} {l : List α} {i : Nat} (h : i < l.length) (d : α) : l.getD i d = l[i] := by
  rw [List.getD_eq_getElem?_getD, List.getElem?_eq_getElem h]; rfl
theorem lvl2 (k : Nat) : (lvl B (k + 1)).2 = inlN B (callN B k) (lvl B k).2 k := by kernel_rfl
end Go.Eng.Bk
