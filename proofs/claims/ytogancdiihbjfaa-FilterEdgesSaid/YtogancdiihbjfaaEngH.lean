/- ENGINE, part H: struct and slice literals, make, boxes, stores. -/
import Derived.Test.YtogancdiihbjfaaEngG
import Derived.Laws.MakeOwn
namespace Go.Eng
open Go Go.RowKit
section
variable {q : Vw}
theorem cellTy_sound {t : Ty} {c : AV} {y : t.den} {v : Value} (h : cellTy t c = some y) (hv : V1 q c v) : rep q.w q.N t y [v] := by
  cases c with
  | v t' x =>
    simp only [cellTy, Ty.cast] at h
    split at h
    · rename_i hs
      have he : t' = t := Ty.same_eq hs
      subst he
      simp only [Option.some.injEq] at h
      have : x = y := h
      subst this
      exact hv
    · cases h
  | nilS =>
    cases t <;> simp only [cellTy, Option.some.injEq, reduceCtorEq] at h
    subst h
    have hv' : v = .slice none 0 0 := hv
    subst hv'
    exact ⟨none, 0, [], rfl, Nat.le_refl _, rfl, .inl rfl⟩
  | _ => simp [cellTy] at h
theorem ofCells_sound : ∀ (t : Ty) (cs : List AV) (y : t.den) (rest : List AV) (vs : List Value), ofCells t cs = some (y, rest) → all2 (V1 q) cs vs →
    ∃ v1 v2, vs = v1 ++ v2 ∧ rep q.w q.N t y v1 ∧ all2 (V1 q) rest v2 := by
  have one : ∀ (t : Ty) (cs : List AV) (y : t.den) (rest : List AV) (vs : List Value), (∀ c cs', cs = c :: cs' → (cellTy t c).map (·, cs') = some (y, rest)) → cs ≠ [] → all2 (V1 q) cs vs →
      ∃ v1 v2, vs = v1 ++ v2 ∧ rep q.w q.N t y v1 ∧ all2 (V1 q) rest v2 := by
    intro t cs y rest vs h hne h2
    cases cs with
    | nil => exact (hne rfl).elim
    | cons c cs' =>
      cases vs with
      | nil => exact h2.elim
      | cons v vs =>
        have h' := h c cs' rfl
        cases hc : cellTy t c with
        | none => rw [hc] at h'; cases h'
        | some z =>
          rw [hc] at h'
          simp only [Option.map_some, Option.some.injEq, Prod.mk.injEq] at h'
          obtain ⟨rfl, rfl⟩ := h'
          exact ⟨[v], vs, rfl, cellTy_sound hc h2.1, h2.2⟩
  intro t
  induction t with
  | unit =>
    intro cs y rest vs h h2
    simp only [ofCells, Option.some.injEq, Prod.mk.injEq] at h
    obtain ⟨_, rfl⟩ := h
    exact ⟨[], vs, rfl, rfl, h2⟩
  | pair a b iha ihb =>
    intro cs y rest vs h h2
    simp only [ofCells] at h
    split at h
    · rename_i x cs' h1
      split at h
      · rename_i z cs'' h3
        simp only [Option.some.injEq, Prod.mk.injEq] at h
        obtain ⟨rfl, rfl⟩ := h
        obtain ⟨v1, v2, rfl, hr1, h4⟩ := iha _ _ _ _ h1 h2
        obtain ⟨v3, v4, rfl, hr2, h5⟩ := ihb _ _ _ _ h3 h4
        exact ⟨v1 ++ v3, v4, by rw [List.append_assoc], ⟨v1, v3, rfl, hr1, hr2⟩, h5⟩
      · cases h
    · cases h
  | _ =>
    intro cs y rest vs h h2
    refine one _ cs y rest vs (fun c cs' he => ?_) (fun he => ?_) h2
    · subst he; exact h
    · subst he; simp [ofCells] at h
theorem okCell_V {x : AV} {v : Value} (hk : okCell x = true) (hv : V q x v) : V1 q x v ∧ v.oneCell' = true := by
  cases x with
  | v t y => exact ⟨hv, rep_one _ _ _ hv v List.mem_cons_self⟩
  | al e xs => obtain ⟨A, c, inner, he, _⟩ := hv; exact ⟨⟨A, c, inner, he, ‹_›⟩, by rw [he]; rfl⟩
  | own τ T e xs => obtain ⟨h0, ⟨A, c, inner, he, h1⟩, h2⟩ := hv; exact ⟨⟨h0, ⟨A, c, inner, he, h1⟩, h2⟩, by rw [he]; rfl⟩
  | nilS => have hv' : v = .slice none 0 0 := hv; exact ⟨hv, by rw [hv']; rfl⟩
  | ptr b off => have hv' : v = .pointer _ := hv.1; exact ⟨hv, by rw [hv']; rfl⟩
  | raw u =>
    have hv' : v = u := hv
    refine ⟨hv, ?_⟩
    rw [hv']
    cases u <;> first | rfl | (simp [okCell] at hk)
  | _ => simp [okCell] at hk
theorem cells_V {x : AV} {cs : List AV} {v : Value} (h : x.cells = some cs) (hk : cs.all okCell = true) (hv : V q x v) :
    ∃ vs : List Value, v.cells = vs.toArray ∧ all2 (V1 q) cs vs ∧ ∀ u ∈ vs, u.oneCell' = true := by
  have one : ∀ y : AV, okCell y = true → V q y v → ∃ vs : List Value, v.cells = vs.toArray ∧ all2 (V1 q) [y] vs ∧ ∀ u ∈ vs, u.oneCell' = true := by
    intro y hy hvy
    obtain ⟨h1, h2⟩ := okCell_V hy hvy
    refine ⟨[v], ?_, ⟨h1, trivial⟩, fun u hu => by rw [List.mem_singleton.1 hu]; exact h2⟩
    cases v <;> first | rfl | (simp [Value.oneCell'] at h2)
  cases x with
  | agg l =>
    simp only [AV.cells, Option.some.injEq] at h
    subst h
    obtain ⟨vs, he, h1, h2⟩ := (show ∃ vs, _ ∧ _ ∧ _ from hv)
    exact ⟨vs, by rw [he]; rfl, h1, h2⟩
  | tup _ => simp [AV.cells] at h
  | bad => simp [AV.cells] at h
  | _ =>
    simp only [AV.cells, Option.some.injEq] at h
    subst h
    simp only [List.all_cons, List.all_nil, Bool.and_true] at hk
    exact one _ hk hv
theorem sizedCells_V {P : Program} {t : TypeId} {x : AV} {cs : List AV} {v : Value} (h : sizedCells P t x = some cs) (hv : V q x v) :
    cs.length = szOf P t ∧ ∃ vs : List Value, v.cells = vs.toArray ∧ all2 (V1 q) cs vs ∧ ∀ u ∈ vs, u.oneCell' = true := by
  unfold sizedCells at h
  split at h
  · rename_i cs' hc
    split at h
    · rename_i hb
      simp only [Option.some.injEq] at h
      subst h
      rw [Bool.and_eq_true] at hb
      exact ⟨Nat.eq_of_beq_eq_true hb.1, cells_V hc hb.2 hv⟩
    · cases h
  · cases h
theorem asTy_V {t : Ty} {x : AV} {y : t.den} {v : Value} (h : x.asTy t = some y) (hv : V q x v) : rep q.w q.N t y v.cells.toList := by
  unfold AV.asTy at h
  split at h
  · rename_i cs hc
    split at h
    · rename_i hk
      obtain ⟨vs, he, h2, _⟩ := cells_V hc hk hv
      split at h
      · rename_i z hof
        simp only [Option.some.injEq] at h
        subst h
        obtain ⟨v1, v2, h3, hr, h4⟩ := ofCells_sound (q := q) t cs z [] vs hof h2
        cases v2 with
        | nil => rw [he]; simpa [h3] using hr
        | cons _ _ => exact h4.elim
      · cases h
    · cases h
  · cases h
/-! ### filling -/
theorem set_last {α : Type} (l : List α) (x v : α) (n : Nat) (h : l.length = n) : (l ++ [x]).set n v = l ++ [v] := by
  subst h; simp
theorem foldl_set : ∀ (vs : List Value) (k off : Nat) (cs : Array Value), off + k + vs.length ≤ cs.size →
    ((vs.zipIdx k).foldl (fun cs (x : Value × Nat) => cs.setIfInBounds (off + x.2) x.1) cs).toList = cs.toList.take (off + k) ++ vs ++ cs.toList.drop (off + k + vs.length)
  | [], k, off, cs, _ => by simp
  | v :: vs, k, off, cs, h => by
    rw [List.zipIdx_cons, List.foldl_cons, foldl_set vs (k + 1) off _ (by simp only [Array.size_setIfInBounds, List.length_cons] at h ⊢; omega)]
    have hlt : off + k < cs.toList.length := by simp only [List.length_cons, Array.length_toList] at h ⊢; omega
    simp only [Array.toList_setIfInBounds, List.length_cons]
    rw [show off + (k + 1) = (off + k) + 1 by omega, List.take_set, List.take_succ_eq_append_getElem hlt, set_last _ _ _ _ (by rw [List.length_take]; omega), List.drop_set_of_lt (by omega), List.append_assoc, List.append_assoc, List.singleton_append, List.append_assoc]
    rw [show off + k + 1 + vs.length = off + k + (vs.length + 1) by omega]
    rfl
theorem setCells_all2 {α β : Type} {r : α → β → Prop} {cs : List α} {vs : List β} (h : all2 r cs vs) {new : List α} {nvs : List β} (hn : all2 r new nvs) (off : Nat) :
    all2 r (cs.take off ++ new ++ cs.drop (off + new.length)) (vs.take off ++ nvs ++ vs.drop (off + nvs.length)) := by
  rw [all2_len hn]
  exact all2_append (all2_append (all2_take _ h) hn) (all2_drop _ h)
theorem fill_step {place : Nat → Option (Nat × Nat)} {i off size : Nat} {v : Value} {vs : List Value} {cells : Array Value} {rest : List (Nat × Value)} (hp : place i = some (off, size)) (hv : v.cells = vs.toArray) (hs : vs.length = size) (hle : off + vs.length ≤ cells.size) :
    Instr.fill place cells ((i, v) :: rest) = Instr.fill place (cells.toList.take off ++ vs ++ cells.toList.drop (off + vs.length)).toArray rest := by
  have e : v.cells.zipIdx.foldl (fun cs (x : Value × Nat) => cs.setIfInBounds (off + x.2) x.1) cells = (cells.toList.take off ++ vs ++ cells.toList.drop (off + vs.length)).toArray := by
    rw [← Array.toList_inj, ← Array.foldl_toList, Array.toList_zipIdx, hv]
    have := foldl_set vs 0 off cells (by omega)
    simpa using this
  simp only [Instr.fill, hp]
  rw [if_neg (by rw [hv]; simp; omega)]
  exact congrArg (fun c => Instr.fill place c rest) e
end
end Go.Eng
