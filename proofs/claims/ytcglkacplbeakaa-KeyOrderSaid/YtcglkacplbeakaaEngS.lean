/- ENGINE, part S: a loop's head: dead temporaries are struck, names are given anew. -/
import Derived.Test.YtcglkacplbeakaaEngR
namespace Go.Eng
open Go Go.RowKit
theorem addId_mem {l : List Nat} {i j : Nat} : j ∈ addId l i ↔ j ∈ l ∨ j = i := by
  unfold addId
  split
  · rename_i h
    have : i ∈ l := by
      obtain ⟨k, hk, he⟩ := List.any_eq_true.1 h
      rw [Nat.eq_of_beq_eq_true he]; exact hk
    exact ⟨.inl, fun h => h.elim id fun he => he ▸ this⟩
  · simp
theorem addId_nodup {l : List Nat} {i : Nat} (h : l.Nodup) : (addId l i).Nodup := by
  unfold addId
  split
  · exact h
  · rename_i hn
    refine List.nodup_append.2 ⟨h, by simp, fun a ha b hb he => ?_⟩
    rw [List.mem_singleton] at hb
    subst hb he
    exact hn (List.any_eq_true.2 ⟨a, ha, by simp⟩)
theorem boxIds_nodup : ∀ (t : List AV) (l : List Nat), l.Nodup → (boxIds t l).Nodup
  | [], l, h => h
  | x :: t, l, h => by cases x <;> first | exact boxIds_nodup t _ h | exact boxIds_nodup t _ (addId_nodup h)
theorem cellIds_nodup : ∀ (t : List AV) (l : List Nat), l.Nodup → (cellIds t l).Nodup
  | [], l, h => h
  | x :: t, l, h => by cases x <;> first | exact cellIds_nodup t _ h | exact cellIds_nodup t _ (addId_nodup h)
theorem tokIds_nodup : ∀ (t : List AV) (l : List Nat), l.Nodup → (tokIds t l).Nodup
  | [], l, h => h
  | x :: t, l, h => by
    cases x <;> first
      | exact tokIds_nodup t _ h
      | exact tokIds_nodup t _ (addId_nodup h)
      | exact tokIds_nodup t _ (cellIds_nodup _ _ h)
theorem idx_get {i : Nat} : ∀ (l : List Nat) (n k : Nat), idx i n l = some k → n ≤ k ∧ l[k - n]? = some i
  | [], _, _, h => by simp [idx] at h
  | j :: l, n, k, h => by
    simp only [idx] at h
    split at h
    · rename_i hb
      simp only [Option.some.injEq] at h
      subst h
      rw [Nat.eq_of_beq_eq_true hb]
      simp
    · obtain ⟨h1, h2⟩ := idx_get l (n + 1) k h
      refine ⟨by omega, ?_⟩
      rw [show k - n = (k - (n + 1)) + 1 by omega, List.getElem?_cons_succ]
      exact h2
theorem liveL_get (live : Nat) : ∀ (l : List Nat) (n t : Nat), hasBit (liveL live n l) t = true ↔ ∃ k i, t = n + k ∧ l[k]? = some i ∧ hasBit live i = true
  | [], n, t => by simp [liveL, hasBit]
  | i :: l, n, t => by
    simp only [liveL]
    constructor
    · intro h
      split at h
      · rename_i hb
        rw [bit_add, Bool.or_eq_true] at h
        rcases h with h | h
        · obtain ⟨k, j, h1, h2, h3⟩ := (liveL_get live l (n + 1) t).1 h
          exact ⟨k + 1, j, by omega, by simpa using h2, h3⟩
        · exact ⟨0, i, (of_decide_eq_true h).symm, rfl, hb⟩
      · obtain ⟨k, j, h1, h2, h3⟩ := (liveL_get live l (n + 1) t).1 h
        exact ⟨k + 1, j, by omega, by simpa using h2, h3⟩
    · rintro ⟨k, j, rfl, h2, h3⟩
      cases k with
      | zero =>
        simp only [List.getElem?_cons_zero, Option.some.injEq] at h2
        subst h2
        rw [if_pos h3, bit_add]; simp
      | succ k =>
        have := (liveL_get live l (n + 1) (n + (k + 1))).2 ⟨k, j, by omega, by simpa using h2, h3⟩
        split
        · rw [bit_add, this]; rfl
        · exact this
theorem killAt_get (m : Nat) : ∀ (l : List AV) (n i : Nat) (x : AV), (killAt m n l)[i]? = some x → x = .bad ∨ l[i]? = some x
  | [], _, _, _, h => by simp [killAt] at h
  | y :: l, n, 0, x, h => by
    simp only [killAt, List.getElem?_cons_zero, Option.some.injEq] at h ⊢
    split at h
    · exact .inl h.symm
    · exact .inr h
  | y :: l, n, i + 1, x, h => by
    simp only [killAt, List.getElem?_cons_succ] at h ⊢
    exact killAt_get m l _ i x h
theorem killAt_len (m : Nat) : ∀ (l : List AV) (n : Nat), (killAt m n l).length = l.length
  | [], _ => rfl
  | _ :: l, n => by simp [killAt, killAt_len m l]
section
variable {q q' : Vw} {bxs toks : List Nat}
/-- One view in another, with names given anew. -/
structure Ren (q q' : Vw) (bxs toks : List Nat) : Prop where
  w : q'.w = q.w
  base : q'.base = q.base
  N : ∀ b, q.N b → q'.N b
  R : ∀ b hi, q.Rd b hi → q'.Rd b hi
  L : ∀ k i, toks[k]? = some i → q.U i → q'.U k ∧ (q'.live k → q.live i ∧ q'.G k = q.G i ∧ q'.E k = q.E i)
  Bx : ∀ k i, bxs[k]? = some i → q.isBox i → q'.isBox k ∧ q'.B k = q.B i
theorem Ren.rep (h : Ren q q' bxs toks) {t : Ty} {x : t.den} {cs : List Value} (hr : rep q.w q.N t x cs) : Eng.rep q'.w q'.N t x cs := by
  rw [h.w]; exact rep_step (fun b hb => ⟨h.N b hb, rfl⟩) t x cs hr
theorem Ren.sl (h : Ren q q' bxs toks) {e : Ty} {xs : List e.den} {v : Value} (hs : q.Sl e xs v) : q'.Sl e xs v := by
  obtain ⟨A, c, inner, he, hl, hr, hc⟩ := hs
  refine ⟨A, c, inner, he, hl, ?_, ?_⟩
  · exact repsOf_imp (fun _ _ hr => h.rep hr) _ _ hr
  · rw [h.w]; exact hc.imp (fun b hi hb => ⟨h.R b hi hb, fun _ _ => rfl⟩)
theorem Ren.cell (h : Ren q q' bxs toks) {x : AV} {v : Value} (hv : V1 q x v) : V1 q' (renCell toks x) v := by
  cases x with
  | own i T e xs =>
    obtain ⟨h0, h1, h2⟩ := hv
    simp only [renCell]
    cases hi : idx i 0 toks with
    | none => trivial
    | some k =>
      obtain ⟨_, hk⟩ := idx_get toks 0 k hi
      rw [Nat.sub_zero] at hk
      obtain ⟨h3, h4⟩ := h.L k i hk h0
      refine ⟨h3, h.sl h1, fun hl => ?_⟩
      obtain ⟨h5, h6, h7⟩ := h4 hl
      obtain ⟨inner, ho, hb, hr, hE⟩ := h2 h5
      exact ⟨inner, by rw [h.w, h.base]; exact ho, by rw [h6]; exact hb, repsOf_imp (fun _ _ hr => h.rep hr) _ _ hr, by rw [h7]; exact hE⟩
  | v t x => exact h.rep hv
  | al e xs => exact h.sl hv
  | nilS => exact hv
  | raw u => exact hv
  | _ => trivial
theorem Ren.cells (h : Ren q q' bxs toks) : ∀ (xs : List AV) (vs : List Value), all2 (V1 q) xs vs → all2 (V1 q') (xs.map (renCell toks)) vs
  | [], [], _ => trivial
  | _ :: xs, _ :: vs, ⟨h0, h1⟩ => ⟨h.cell h0, h.cells xs vs h1⟩
theorem Ren.tmp (h : Ren q q' bxs toks) {x : AV} {v : Value} (hv : V q x v) : V q' (renTmp bxs toks x) v := by
  cases x with
  | agg cs =>
    obtain ⟨vs, he, h2, h1⟩ := (show ∃ vs, _ ∧ _ ∧ _ from hv)
    exact ⟨vs, he, h.cells cs vs h2, h1⟩
  | ptr b off =>
    simp only [renTmp]
    cases hi : idx b 0 bxs with
    | none => trivial
    | some k =>
      obtain ⟨_, hk⟩ := idx_get bxs 0 k hi
      rw [Nat.sub_zero] at hk
      obtain ⟨c1, c2⟩ := (show _ ∧ _ from hv)
      obtain ⟨c3, c4⟩ := h.Bx k b hk c2
      exact ⟨by rw [c4]; exact c1, c3⟩
  | ro cs =>
    obtain ⟨ad, he, h1, h2⟩ := (show ∃ ad, _ ∧ _ ∧ _ from hv)
    refine ⟨ad, he, h1.imp id (h.R _ _), fun j y hj => ?_⟩
    obtain ⟨u, hu, hv0⟩ := h2 j y hj
    refine ⟨u, by rw [h.w]; exact hu, ?_⟩
    cases y <;> first | exact hv0.elim | exact h.rep hv0
  | fn f caps =>
    cases caps with
    | nil => exact hv
    | cons c cs => exact hv.elim
  | tup vs => trivial
  | v t x => exact V_of_V1 (h.cell (x := .v t x) hv)
  | al e xs => exact V_of_V1 (h.cell (x := .al e xs) hv)
  | own i T e xs => exact V_of_V1 (h.cell (x := .own i T e xs) hv)
  | nilS => exact hv
  | raw u => exact hv
  | bad => trivial
end
section
variable {w0 : World} {Nin D : Nat → Prop} {s : St} {m : Mp} {a : Act} {w : World}
theorem canon_sound (h : Inv w0 Nin D s m a w) (keep : List Nat) (c : Code) : ∃ m', Inv w0 Nin (fun k => k < (canon keep c s).bx.length) (canon keep c s) m' a w := by
  generalize hcs : canon keep c s = s'
  unfold canon at hcs
  simp only at hcs
  generalize ht : killAt (keepMask keep (killMask (evCode c) 0 0)) 0 s.t = t at hcs
  generalize hbxs : boxIds t [] = bxs at hcs
  generalize htoks : tokIds t (cellIds (boxesOf s.bx bxs) []) = toks at hcs
  have bnd : bxs.Nodup := by rw [← hbxs]; exact boxIds_nodup t [] List.nodup_nil
  have tnd : toks.Nodup := by rw [← htoks]; exact tokIds_nodup t _ (cellIds_nodup _ [] List.nodup_nil)
  subst hcs
  have bget : ∀ (k : Nat) (T : TypeId) (cs' : List AV), (bxs.map (fun b => match s.bx[b]? with | some (some (T, cs)) => some (T, cs.map (renCell toks)) | _ => none) ++ List.replicate toks.length none)[k]? = some (some (T, cs')) →
      ∃ i cs, bxs[k]? = some i ∧ s.bx[i]? = some (some (T, cs)) ∧ cs' = cs.map (renCell toks) := by
    intro k T cs' hk
    by_cases hlt : k < bxs.length
    · rw [List.getElem?_append_left (by rw [List.length_map]; exact hlt), List.getElem?_map, List.getElem?_eq_getElem hlt] at hk
      simp only [Option.map_some, Option.some.injEq] at hk
      split at hk
      · rename_i T0 cs0 hs
        simp only [Option.some.injEq, Prod.mk.injEq] at hk
        obtain ⟨rfl, rfl⟩ := hk
        exact ⟨_, cs0, List.getElem?_eq_getElem hlt, hs, rfl⟩
      · cases hk
    · rw [List.getElem?_append_right (by rw [List.length_map]; omega), List.getElem?_replicate] at hk
      split at hk <;> cases hk
  have bget' : ∀ (k i : Nat) (T : TypeId) (cs : List AV), bxs[k]? = some i → s.bx[i]? = some (some (T, cs)) → (bxs.map (fun b => match s.bx[b]? with | some (some (T, cs)) => some (T, cs.map (renCell toks)) | _ => none) ++ List.replicate toks.length none)[k]? = some (some (T, cs.map (renCell toks))) := by
    intro k i T cs hk hs
    have hlt := (List.getElem?_eq_some_iff.1 hk).1
    rw [List.getElem?_append_left (by rw [List.length_map]; exact hlt), List.getElem?_map, hk]
    simp only [Option.map_some, hs]
  have lget : ∀ τ, hasBit (liveL s.live 0 toks) τ = true → ∃ i, toks[τ]? = some i ∧ hasBit s.live i = true := by
    intro τ hτ
    obtain ⟨k, i, h1, h2, h3⟩ := (liveL_get s.live toks 0 τ).1 hτ
    rw [Nat.zero_add] at h1
    exact ⟨i, h1 ▸ h2, h3⟩
  let m' : Mp := { G := fun k => (toks[k]?).bind m.G, E := fun k => ((toks[k]?).map m.E).getD 0, U := fun k => k < toks.length, B := fun k => ((bxs[k]?).map m.B).getD 0 }
  have tlt : ∀ (k i : Nat), toks[k]? = some i → k < toks.length := fun k i hk => (List.getElem?_eq_some_iff.1 hk).1
  have nodupT : ∀ k k' i : Nat, toks[k]? = some i → toks[k']? = some i → k = k' := fun k k' i hk hk' =>
    (List.getElem?_inj (List.getElem?_eq_some_iff.1 hk).1 tnd).1 (hk.trans hk'.symm)
  have nodupB : ∀ k k' i : Nat, bxs[k]? = some i → bxs[k']? = some i → k = k' := fun k k' i hk hk' =>
    (List.getElem?_inj (List.getElem?_eq_some_iff.1 hk).1 bnd).1 (hk.trans hk'.symm)
  have hGk : ∀ k i, toks[k]? = some i → m'.G k = m.G i := fun k i hk => by show (toks[k]?).bind m.G = _; rw [hk]; rfl
  have hEk : ∀ k i, toks[k]? = some i → m'.E k = m.E i := fun k i hk => by show ((toks[k]?).map m.E).getD 0 = _; rw [hk]; rfl
  have hBk : ∀ k i, bxs[k]? = some i → m'.B k = m.B i := fun k i hk => by show ((bxs[k]?).map m.B).getD 0 = _; rw [hk]; rfl
  generalize hs' : (St.mk (t.map (renTmp bxs toks)) (bxs.map (fun b => match s.bx[b]? with | some (some (T, cs)) => some (T, cs.map (renCell toks)) | _ => none) ++ List.replicate toks.length none) (liveL s.live 0 toks)) = s'
  have sbx : s'.bx = bxs.map (fun b => match s.bx[b]? with | some (some (T, cs)) => some (T, cs.map (renCell toks)) | _ => none) ++ List.replicate toks.length none := by rw [← hs']
  have slive : s'.live = liveL s.live 0 toks := by rw [← hs']
  have stt : s'.t = t.map (renTmp bxs toks) := by rw [← hs']
  rw [← sbx] at bget bget'
  rw [← slive] at lget
  have hren : Ren (vw w0 Nin s m w) (vw w0 Nin s' m' w) bxs toks := by
    have hN : ∀ b, (vw w0 Nin s m w).N b → (vw w0 Nin s' m' w).N b := by
      rintro b ⟨c1, c2, c3, c4⟩
      refine ⟨c1, c2, fun τ hl hG => ?_, fun k T cs hk => ?_⟩
      · obtain ⟨i, hi, hli⟩ := lget τ hl
        rw [hGk τ i hi] at hG
        exact c3 i hli hG
      · obtain ⟨i, cs0, h1, h2, _⟩ := bget k T cs hk
        rw [hBk k i h1]
        exact c4 i T cs0 h2
    refine ⟨rfl, rfl, hN, ?_, ?_, ?_⟩
    · rintro b hi (hb | ⟨τ, hl, hG, hE⟩)
      · exact .inl (hN b hb)
      · have hl' : hasBit s.live τ = true := hl
        have hG' : m.G τ = some b := hG
        by_cases hex : ∃ k : Nat, toks[k]? = some τ
        · obtain ⟨k, hk⟩ := hex
          refine .inr ⟨k, ?_, ?_, ?_⟩
          · show hasBit s'.live k = true
            rw [slive]
            exact (liveL_get s.live toks 0 k).2 ⟨k, τ, by omega, hk, hl'⟩
          · exact (hGk k τ hk).trans hG'
          · show hi ≤ m'.E k; rw [hEk k τ hk]; exact hE
        · refine .inl ⟨(h.toks τ b hl' hG').2, fun hlt => ?_, fun τ' hl'' hG'' => ?_, fun k T cs hk => ?_⟩
          · have := (h.toks τ b hl' hG').1; omega
          · obtain ⟨i, hi', hli⟩ := lget τ' hl''
            rw [hGk τ' i hi'] at hG''
            have := h.inj τ i b hl' hli hG' hG''
            exact hex ⟨τ', this ▸ hi'⟩
          · obtain ⟨i, cs0, h1, h2, _⟩ := bget k T cs hk
            rw [hBk k i h1]
            exact h.sep τ b i T cs0 hl' hG' h2
    · intro k i hk _
      refine ⟨tlt k i hk, fun hl => ?_⟩
      obtain ⟨i', hi', hli⟩ := lget k hl
      rw [hk] at hi'
      cases hi'
      exact ⟨hli, hGk k i hk, hEk k i hk⟩
    · rintro k i hk ⟨T, cs, hb⟩
      exact ⟨⟨T, _, bget' k i T cs hk hb⟩, hBk k i hk⟩
  have hlen : s'.bx.length = bxs.length + toks.length := by rw [sbx]; simp
  refine ⟨m', ⟨h.below, h.defers, ?_, ?_, ?_, ?_, ?_, ?_, ?_, ?_, ?_, ?_⟩⟩
  · rw [stt, List.length_map, ← ht, killAt_len]; exact h.tlen
  · intro i x v hx hv
    rw [stt, List.getElem?_map] at hx
    cases hti : t[i]? with
    | none => rw [hti] at hx; cases hx
    | some y =>
      rw [hti] at hx
      simp only [Option.map_some, Option.some.injEq] at hx
      subst hx
      refine hren.tmp ?_
      rw [← ht] at hti
      rcases killAt_get _ _ _ _ _ hti with rfl | hy
      · trivial
      · exact h.tmps i y v hy hv
  · intro τ k hl hG
    obtain ⟨i, hi, hli⟩ := lget τ hl
    exact h.toks i k hli (hGk τ i hi ▸ hG)
  · intro τ τ' k hl hl' hG hG'
    obtain ⟨i, hi, hli⟩ := lget τ hl
    obtain ⟨i', hi', hli'⟩ := lget τ' hl'
    have := h.inj i i' k hli hli' (hGk τ i hi ▸ hG) (hGk τ' i' hi' ▸ hG')
    exact nodupT τ τ' i hi (this ▸ hi')
  · intro k T cs hk
    obtain ⟨i, cs0, h1, h2, rfl⟩ := bget k T cs hk
    obtain ⟨c1, vs, c2, c3, c4⟩ := h.boxes i T cs0 h2
    rw [hBk k i h1]
    exact ⟨c1, vs, c2, hren.cells cs0 vs c3, c4⟩
  · intro k T cs k' T' cs' hk hk' he
    obtain ⟨i, cs0, h1, h2, _⟩ := bget k T cs hk
    obtain ⟨i', cs0', h1', h2', _⟩ := bget k' T' cs' hk'
    rw [hBk k i h1, hBk k' i' h1'] at he
    have := h.binj i T cs0 i' T' cs0' h2 h2' he
    exact nodupB k k' i h1 (this ▸ h1')
  · intro τ b k T cs hl hG hk
    obtain ⟨i, hi, hli⟩ := lget τ hl
    obtain ⟨j, cs0, h1, h2, _⟩ := bget k T cs hk
    rw [hBk k j h1]
    exact h.sep i b j T cs0 hli (hGk τ i hi ▸ hG) h2
  · intro τ hτ
    have hτ' : τ < toks.length := hτ
    show τ / 8 < s'.bx.length
    rw [hlen]
    have := Nat.div_le_self τ 8
    omega
  · intro k T cs hk
    exact (List.getElem?_eq_some_iff.1 hk).1
  · intro τ hl
    obtain ⟨i, hi, _⟩ := lget τ hl
    exact tlt τ i hi
end
end Go.Eng
