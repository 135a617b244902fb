/- ENGINE, part S: a loop's head: dead temporaries are struck, names are given anew. -/
import Derived.Test.YtogancdiihbjfaaEngR
namespace Go.Eng
open Go Go.RowKit
theorem addId_mem {l : List Nat} {i j : Nat} : j ∈ addId l i ↔ j ∈ l ∨ j = i := by
  unfold addId
  split
  · rename_i h
    have : i ∈ l := by
      obtain ⟨k, hk, he⟩ := List.any_eq_true.1 h
      rw [Nat.eq_of_beq_eq_true he]; exact hk
    exact ⟨.inl, fun h => h.elim id fun he => he ▸ this⟩
  · simp
theorem addId_nodup {l : List Nat} {i : Nat} (h : l.Nodup) : (addId l i).Nodup := by
  unfold addId
  split
  · exact h
  · rename_i hn
    refine List.nodup_append.2 ⟨h, by simp, fun a ha b hb he => ?_⟩
    rw [List.mem_singleton] at hb
    subst hb he
    exact hn (List.any_eq_true.2 ⟨a, ha, by simp⟩)
theorem capIds_nodup : ∀ (t : List AV) (l : List Nat), l.Nodup → (capIds t l).Nodup
  | [], l, h => h
  | x :: t, l, h => by cases x <;> first | exact capIds_nodup t _ h | exact capIds_nodup t _ (addId_nodup h)
theorem boxIds_nodup : ∀ (t : List AV) (l : List Nat), l.Nodup → (boxIds t l).Nodup
  | [], l, h => h
  | x :: t, l, h => by cases x <;> first | exact boxIds_nodup t _ h | exact boxIds_nodup t _ (addId_nodup h) | exact boxIds_nodup t _ (capIds_nodup _ _ h)
theorem cellIds_nodup : ∀ (t : List AV) (l : List Nat), l.Nodup → (cellIds t l).Nodup
  | [], l, h => h
  | x :: t, l, h => by cases x <;> first | exact cellIds_nodup t _ h | exact cellIds_nodup t _ (addId_nodup h)
theorem tokIds_nodup : ∀ (t : List AV) (l : List Nat), l.Nodup → (tokIds t l).Nodup
  | [], l, h => h
  | x :: t, l, h => by
    cases x <;> first
      | exact tokIds_nodup t _ h
      | exact tokIds_nodup t _ (addId_nodup h)
      | exact tokIds_nodup t _ (cellIds_nodup _ _ h)
theorem idx_get {i : Nat} : ∀ (l : List Nat) (n k : Nat), idx i n l = some k → n ≤ k ∧ l[k - n]? = some i
  | [], _, _, h => by simp [idx] at h
  | j :: l, n, k, h => by
    simp only [idx] at h
    split at h
    · rename_i hb
      simp only [Option.some.injEq] at h
      subst h
      rw [Nat.eq_of_beq_eq_true hb]
      simp
    · obtain ⟨h1, h2⟩ := idx_get l (n + 1) k h
      refine ⟨by omega, ?_⟩
      rw [show k - n = (k - (n + 1)) + 1 by omega, List.getElem?_cons_succ]
      exact h2
theorem liveL_get (live : Nat) : ∀ (l : List Nat) (n t : Nat), hasBit (liveL live n l) t = true ↔ ∃ k i, t = n + k ∧ l[k]? = some i ∧ hasBit live i = true
  | [], n, t => by simp [liveL, hasBit]
  | i :: l, n, t => by
    simp only [liveL]
    constructor
    · intro h
      split at h
      · rename_i hb
        rw [bit_add, Bool.or_eq_true] at h
        rcases h with h | h
        · obtain ⟨k, j, h1, h2, h3⟩ := (liveL_get live l (n + 1) t).1 h
          exact ⟨k + 1, j, by omega, by simpa using h2, h3⟩
        · exact ⟨0, i, (of_decide_eq_true h).symm, rfl, hb⟩
      · obtain ⟨k, j, h1, h2, h3⟩ := (liveL_get live l (n + 1) t).1 h
        exact ⟨k + 1, j, by omega, by simpa using h2, h3⟩
    · rintro ⟨k, j, rfl, h2, h3⟩
      cases k with
      | zero =>
        simp only [List.getElem?_cons_zero, Option.some.injEq] at h2
        subst h2
        rw [if_pos h3, bit_add]; simp
      | succ k =>
        have := (liveL_get live l (n + 1) (n + (k + 1))).2 ⟨k, j, by omega, by simpa using h2, h3⟩
        split
        · rw [bit_add, this]; rfl
        · exact this
theorem killAt_get (m : Nat) : ∀ (l : List AV) (n i : Nat) (x : AV), (killAt m n l)[i]? = some x → x = .bad ∨ l[i]? = some x
  | [], _, _, _, h => by simp [killAt] at h
  | y :: l, n, 0, x, h => by
    simp only [killAt, List.getElem?_cons_zero, Option.some.injEq] at h ⊢
    split at h
    · exact .inl h.symm
    · exact .inr h
  | y :: l, n, i + 1, x, h => by
    simp only [killAt, List.getElem?_cons_succ] at h ⊢
    exact killAt_get m l _ i x h
theorem killAt_len (m : Nat) : ∀ (l : List AV) (n : Nat), (killAt m n l).length = l.length
  | [], _ => rfl
  | _ :: l, n => by simp [killAt, killAt_len m l]
section
variable {q q' : Vw} {bxs toks : List Nat}
/-- One view in another, with names given anew. -/
structure Ren (q q' : Vw) (bxs toks : List Nat) : Prop where
  w : q'.w = q.w
  base : q'.base = q.base
  N : ∀ b, q.N b → q'.N b
  R : ∀ b hi, q.Rd b hi → q'.Rd b hi
  L : ∀ k i, toks[k]? = some i → q.U i → q'.U k ∧ (q'.live k → q.live i ∧ q'.G k = q.G i ∧ q'.E k = q.E i)
  Bx : ∀ k i, bxs[k]? = some i → q.isBox i → q'.isBox k ∧ q'.B k = q.B i
theorem Ren.rep (h : Ren q q' bxs toks) {t : Ty} {x : t.den} {cs : List Value} (hr : rep q.w q.N t x cs) : Eng.rep q'.w q'.N t x cs := by
  rw [h.w]; exact rep_step (fun b hb => ⟨h.N b hb, rfl⟩) t x cs hr
theorem Ren.sl (h : Ren q q' bxs toks) {e : Ty} {xs : List e.den} {v : Value} (hs : q.Sl e xs v) : q'.Sl e xs v := by
  obtain ⟨A, c, inner, he, hl, hr, hc⟩ := hs
  refine ⟨A, c, inner, he, hl, ?_, ?_⟩
  · exact repsOf_imp (fun _ _ hr => h.rep hr) _ _ hr
  · rw [h.w]; exact hc.imp (fun b hi hb => ⟨h.R b hi hb, fun _ _ => rfl⟩)
theorem Ren.cell (h : Ren q q' bxs toks) {x : AV} {v : Value} (hv : V1 q x v) : V1 q' (renCell toks x) v := by
  cases x with
  | own i T e xs =>
    obtain ⟨h0, h1, h2⟩ := hv
    simp only [renCell]
    cases hi : idx i 0 toks with
    | none => trivial
    | some k =>
      obtain ⟨_, hk⟩ := idx_get toks 0 k hi
      rw [Nat.sub_zero] at hk
      obtain ⟨h3, h4⟩ := h.L k i hk h0
      refine ⟨h3, h.sl h1, fun hl => ?_⟩
      obtain ⟨h5, h6, h7⟩ := h4 hl
      obtain ⟨inner, ho, hb, hr, hE⟩ := h2 h5
      exact ⟨inner, by rw [h.w, h.base]; exact ho, by rw [h6]; exact hb, repsOf_imp (fun _ _ hr => h.rep hr) _ _ hr, by rw [h7]; exact hE⟩
  | v t x => exact h.rep hv
  | al e xs => exact h.sl hv
  | nilS => exact hv
  | raw u => exact hv
  | _ => trivial
theorem Ren.cells (h : Ren q q' bxs toks) : ∀ (xs : List AV) (vs : List Value), all2 (V1 q) xs vs → all2 (V1 q') (xs.map (renCell toks)) vs
  | [], [], _ => trivial
  | _ :: xs, _ :: vs, ⟨h0, h1⟩ => ⟨h.cell h0, h.cells xs vs h1⟩
theorem Ren.tmp (h : Ren q q' bxs toks) {x : AV} {v : Value} (hv : V q x v) : V q' (renTmp bxs toks x) v := by
  cases x with
  | agg cs =>
    obtain ⟨vs, he, h2, h1⟩ := (show ∃ vs, _ ∧ _ ∧ _ from hv)
    exact ⟨vs, he, h.cells cs vs h2, h1⟩
  | ptr b off =>
    simp only [renTmp]
    cases hi : idx b 0 bxs with
    | none => trivial
    | some k =>
      obtain ⟨_, hk⟩ := idx_get bxs 0 k hi
      rw [Nat.sub_zero] at hk
      obtain ⟨c1, c2⟩ := (show _ ∧ _ from hv)
      obtain ⟨c3, c4⟩ := h.Bx k b hk c2
      exact ⟨by rw [c4]; exact c1, c3⟩
  | ro cs =>
    obtain ⟨ad, he, h1, h2⟩ := (show ∃ ad, _ ∧ _ ∧ _ from hv)
    refine ⟨ad, he, h1.imp id (h.R _ _), fun j y hj => ?_⟩
    obtain ⟨u, hu, hv0⟩ := h2 j y hj
    refine ⟨u, by rw [h.w]; exact hu, ?_⟩
    cases y <;> first | exact hv0.elim | exact h.rep hv0
  | fn f caps =>
    obtain ⟨vs, h0, h1⟩ := (show ∃ vs : List Value, _ ∧ _ from hv)
    refine ⟨vs, h0, all2_map (fun c z hz => ?_) _ _ h1⟩
    cases c with
    | ptr b off =>
      simp only [renCap]
      cases hi : idx b 0 bxs with
      | none => trivial
      | some k =>
        obtain ⟨_, hk⟩ := idx_get bxs 0 k hi
        rw [Nat.sub_zero] at hk
        obtain ⟨c1, c2⟩ := (show _ ∧ _ from hz)
        obtain ⟨c3, c4⟩ := h.Bx k b hk c2
        exact ⟨by rw [c4]; exact c1, c3⟩
    | raw v => exact hz
    | bad => trivial
    | _ => exact hz.elim
  | tup vs => trivial
  | v t x => exact V_of_V1 (h.cell (x := .v t x) hv)
  | al e xs => exact V_of_V1 (h.cell (x := .al e xs) hv)
  | own i T e xs => exact V_of_V1 (h.cell (x := .own i T e xs) hv)
  | nilS => exact hv
  | raw u => exact hv
  | el i T e xs j => trivial
  | bad => trivial
theorem Ren.g (h : Ren q q' bxs toks) {x : AV} {v : Value} (hv : V q x v) : V q' (renG bxs toks x) v := by
  cases x with
  | ro cs => trivial
  | _ => exact h.tmp hv
end
theorem nilsBx_get : ∀ (l : List (Nat × Nat × TypeId × Ty)) (n : Nat) (bx : List (Option (TypeId × List AV))) (k : Nat) (T : TypeId) (cs' : List AV), (nilsBx n l bx)[k]? = some (some (T, cs')) →
    ∃ cs, bx[k]? = some (some (T, cs)) ∧ ∀ (q : Vw) (vs : List Value), (∀ m, n ≤ m → m < n + l.length → q.U m ∧ q.G m = none ∧ q.E m = 0) → all2 (V1 q) cs vs → all2 (V1 q) cs' vs
  | [], _, bx, k, T, cs', h => ⟨cs', h, fun _ _ _ h => h⟩
  | (b, j, T0, e) :: r, n, bx, k, T, cs', h => by
    simp only [nilsBx] at h
    obtain ⟨cs1, h1, h2⟩ := nilsBx_get r (n + 1) _ k T cs' h
    split at h1
    · rename_i T1 cs hb
      by_cases hk : b = k
      · subst hk
        rw [List.getElem?_set_self (List.getElem?_eq_some_iff.1 hb).1] at h1
        simp only [Option.some.injEq, Prod.mk.injEq] at h1
        obtain ⟨rfl, rfl⟩ := h1
        refine ⟨cs, hb, fun q vs hq hv => h2 q vs (fun m h3 h4 => hq m (by omega) (by simp only [List.length_cons]; omega)) ?_⟩
        obtain ⟨hU, hG, hE⟩ := hq n (Nat.le_refl _) (by simp only [List.length_cons]; omega)
        clear h2 hb h hq
        induction cs generalizing j vs with
        | nil => simpa using hv
        | cons c cs ih =>
          cases vs with
          | nil => exact hv.elim
          | cons v vs =>
            cases j with
            | zero =>
              refine ⟨?_, hv.2⟩
              show V1 q (nilCell n T0 e c) v
              have hv1 := hv.1
              cases c <;> first | exact hv1 | skip
              have hv0 : v = .slice none 0 0 := hv1
              subst hv0
              exact ⟨hU, ⟨none, 0, [], rfl, Nat.le_refl _, rfl, .inl rfl⟩, fun _ => ⟨[], World.ownsRow_nil _ _ _ _, by rw [hG]; rfl, rfl, hE⟩⟩
            | succ j => exact ⟨hv.1, ih j vs hv.2⟩
      · rw [List.getElem?_set_ne hk] at h1
        exact ⟨cs1, h1, fun q vs hq hv => h2 q vs (fun m h3 h4 => hq m (by omega) (by simp only [List.length_cons]; omega)) hv⟩
    · exact ⟨cs1, h1, fun q vs hq hv => h2 q vs (fun m h3 h4 => hq m (by omega) (by simp only [List.length_cons]; omega)) hv⟩
theorem nilsBx_get' : ∀ (l : List (Nat × Nat × TypeId × Ty)) (n : Nat) (bx : List (Option (TypeId × List AV))) (k : Nat) (T : TypeId) (cs : List AV), bx[k]? = some (some (T, cs)) → ∃ cs', (nilsBx n l bx)[k]? = some (some (T, cs'))
  | [], _, bx, k, T, cs, h => ⟨cs, h⟩
  | (b, j, T0, e) :: r, n, bx, k, T, cs, h => by
    simp only [nilsBx]
    split
    · rename_i T1 cs1 hb
      by_cases hk : b = k
      · subst hk
        rw [hb] at h
        simp only [Option.some.injEq, Prod.mk.injEq] at h
        obtain ⟨rfl, rfl⟩ := h
        exact nilsBx_get' r (n + 1) _ b T1 _ (List.getElem?_set_self (List.getElem?_eq_some_iff.1 hb).1)
      · exact nilsBx_get' r (n + 1) _ k T cs (by rw [List.getElem?_set_ne hk]; exact h)
    · exact nilsBx_get' r (n + 1) _ k T cs h
theorem nilsBx_len : ∀ (l : List (Nat × Nat × TypeId × Ty)) (n : Nat) (bx : List (Option (TypeId × List AV))), (nilsBx n l bx).length = bx.length
  | [], _, _ => rfl
  | (b, j, T0, e) :: r, n, bx => by
    simp only [nilsBx]
    rw [nilsBx_len r]
    split <;> simp
section
variable {w0 : World} {Nin : Env} {D : Nat → Prop} {s : St} {m : Mp} {a : Act} {w : World}
theorem addBits_get : ∀ (k m n t : Nat), hasBit (addBits m n k) t = true ↔ hasBit m t = true ∨ (n ≤ t ∧ t < n + k)
  | 0, m, n, t => by simp only [addBits]; exact ⟨.inl, fun h => h.elim _root_.id fun h => by omega⟩
  | k + 1, m, n, t => by
    simp only [addBits]
    rw [addBits_get k, bit_add, Bool.or_eq_true, decide_eq_true_eq]
    constructor
    · rintro ((h | h) | h)
      · exact .inl h
      · exact .inr (by omega)
      · exact .inr (by omega)
    · rintro (h | h)
      · exact .inl (.inl h)
      · by_cases he : n = t
        · exact .inl (.inr he)
        · exact .inr (by omega)
theorem nilsAt_len : ∀ (l : List (Nat × TypeId × Ty)) (n : Nat) (t : List AV), (nilsAt n l t).length = t.length
  | [], _, _ => rfl
  | (i, T, e) :: r, n, t => by
    simp only [nilsAt]
    rw [nilsAt_len r]
    split <;> simp
/-- A slice that there is not yet may be taken for one of the frame's own. -/
theorem nilsAt_V {q : Vw} {vs : List Value} : ∀ (l : List (Nat × TypeId × Ty)) (n : Nat) (t : List AV), (∀ k, n ≤ k → k < n + l.length → q.U k ∧ q.G k = none ∧ q.E k = 0) → (∀ (i : Nat) x v, t[i]? = some x → vs[i]? = some v → V q x v) →
    ∀ (i : Nat) x v, (nilsAt n l t)[i]? = some x → vs[i]? = some v → V q x v
  | [], _, _, _, h => h
  | (j, T, e) :: r, n, t, hk, h => by
    simp only [nilsAt]
    refine nilsAt_V r (n + 1) _ (fun k h1 h2 => hk k (by omega) (by simp only [List.length_cons]; omega)) ?_
    intro i x v hx hv
    split at hx
    · rename_i hj
      by_cases hij : j = i
      · subst hij
        have hlt := (List.getElem?_eq_some_iff.1 hj).1
        rw [List.getElem?_set_self hlt] at hx
        cases hx
        have hv0 : v = .slice none 0 0 := h j _ v hj hv
        subst hv0
        obtain ⟨h1, h2, h3⟩ := hk n (Nat.le_refl _) (by simp only [List.length_cons]; omega)
        exact ⟨h1, ⟨none, 0, [], rfl, Nat.le_refl _, rfl, .inl rfl⟩, fun _ => ⟨[], World.ownsRow_nil _ _ _ _, by rw [h2]; rfl, rfl, h3⟩⟩
      · rw [List.getElem?_set_ne hij] at hx
        exact h i x v hx hv
    · exact h i x v hx hv
theorem canon_sound (h : Inv w0 Nin D s m a w) (keep : Hints) (c : Code) : ∃ m', Inv w0 Nin (fun k => k < (canon keep c s).bx.length) (canon keep c s) m' a w := by
  generalize hcs : canon keep c s = s'
  unfold canon at hcs
  simp only at hcs
  generalize hh : keep ((firstReg c).getD 0) = hnt at hcs
  generalize ht : killAt hnt.1 0 (killAt (killMask (evCode c) 0 0) 0 s.t) = t at hcs
  generalize hbxs : boxIds (t ++ s.g) [] = bxs at hcs
  generalize htoks : tokIds (t ++ s.g) (cellIds (boxesOf s.bx bxs) []) = toks at hcs
  generalize hns : useNils (t.map (renTmp bxs toks)) hnt.2.2.1 = ns at hcs
  generalize hbx1 : bxs.map (fun b => match s.bx[b]? with | some (some (T, cs)) => some (T, cs.map (renCell toks)) | _ => none) = bx1 at hcs
  generalize hnb : useNilsB bx1 hnt.2.2.2 = nb at hcs
  have bx1len : bx1.length = bxs.length := by rw [← hbx1, List.length_map]
  have bnd : bxs.Nodup := by rw [← hbxs]; exact boxIds_nodup _ [] List.nodup_nil
  have tnd : toks.Nodup := by rw [← htoks]; exact tokIds_nodup _ _ (cellIds_nodup _ [] List.nodup_nil)
  subst hcs
  have bget : ∀ (k : Nat) (T : TypeId) (cs' : List AV), (nilsBx (toks.length + ns.length) nb bx1 ++ List.replicate (toks.length + (ns.length + nb.length)) none)[k]? = some (some (T, cs')) →
      ∃ i cs, bxs[k]? = some i ∧ s.bx[i]? = some (some (T, cs)) ∧ ∀ (q : Vw) (vs : List Value), (∀ m, toks.length + ns.length ≤ m → m < toks.length + ns.length + nb.length → q.U m ∧ q.G m = none ∧ q.E m = 0) → all2 (V1 q) (cs.map (renCell toks)) vs → all2 (V1 q) cs' vs := by
    intro k T cs' hk
    by_cases hlt : k < bxs.length
    · rw [List.getElem?_append_left (by rw [nilsBx_len, bx1len]; exact hlt)] at hk
      obtain ⟨cs1, hk, hup⟩ := nilsBx_get nb _ bx1 k T cs' hk
      rw [← hbx1, List.getElem?_map, List.getElem?_eq_getElem hlt] at hk
      simp only [Option.map_some, Option.some.injEq] at hk
      split at hk
      · rename_i T0 cs0 hs
        simp only [Option.some.injEq, Prod.mk.injEq] at hk
        obtain ⟨rfl, rfl⟩ := hk
        exact ⟨_, cs0, List.getElem?_eq_getElem hlt, hs, hup⟩
      · cases hk
    · rw [List.getElem?_append_right (by rw [nilsBx_len, bx1len]; omega), List.getElem?_replicate] at hk
      split at hk <;> cases hk
  have bget' : ∀ (k i : Nat) (T : TypeId) (cs : List AV), bxs[k]? = some i → s.bx[i]? = some (some (T, cs)) → ∃ cs', (nilsBx (toks.length + ns.length) nb bx1 ++ List.replicate (toks.length + (ns.length + nb.length)) none)[k]? = some (some (T, cs')) := by
    intro k i T cs hk hs
    have hlt := (List.getElem?_eq_some_iff.1 hk).1
    have h1 : bx1[k]? = some (some (T, cs.map (renCell toks))) := by rw [← hbx1, List.getElem?_map, hk]; simp only [Option.map_some, hs]
    obtain ⟨cs', h2⟩ := nilsBx_get' nb (toks.length + ns.length) bx1 k T _ h1
    exact ⟨cs', by rw [List.getElem?_append_left (by rw [nilsBx_len, bx1len]; exact hlt)]; exact h2⟩
  let m' : Mp := { G := fun k => (toks[k]?).bind m.G, E := fun k => ((toks[k]?).map m.E).getD 0, U := fun k => k < toks.length + (ns.length + nb.length), B := fun k => ((bxs[k]?).map m.B).getD 0 }
  have lget : ∀ τ, hasBit (addBits (liveL s.live 0 toks) toks.length (ns.length + nb.length)) τ = true → (∃ i, toks[τ]? = some i ∧ hasBit s.live i = true) ∨ (toks.length ≤ τ ∧ τ < toks.length + (ns.length + nb.length) ∧ m'.G τ = none) := by
    intro τ hτ
    rcases (addBits_get _ _ _ _).1 hτ with hτ | ⟨h1, h2⟩
    case inr => exact .inr ⟨h1, h2, by show (toks[τ]?).bind m.G = none; rw [List.getElem?_eq_none h1]; rfl⟩
    left
    obtain ⟨k, i, h1, h2, h3⟩ := (liveL_get s.live toks 0 τ).1 hτ
    rw [Nat.zero_add] at h1
    exact ⟨i, h1 ▸ h2, h3⟩
  have tlt : ∀ (k i : Nat), toks[k]? = some i → k < toks.length := fun k i hk => (List.getElem?_eq_some_iff.1 hk).1
  have nodupT : ∀ k k' i : Nat, toks[k]? = some i → toks[k']? = some i → k = k' := fun k k' i hk hk' =>
    (List.getElem?_inj (List.getElem?_eq_some_iff.1 hk).1 tnd).1 (hk.trans hk'.symm)
  have nodupB : ∀ k k' i : Nat, bxs[k]? = some i → bxs[k']? = some i → k = k' := fun k k' i hk hk' =>
    (List.getElem?_inj (List.getElem?_eq_some_iff.1 hk).1 bnd).1 (hk.trans hk'.symm)
  have hGk : ∀ k i, toks[k]? = some i → m'.G k = m.G i := fun k i hk => by show (toks[k]?).bind m.G = _; rw [hk]; rfl
  have hEk : ∀ k i, toks[k]? = some i → m'.E k = m.E i := fun k i hk => by show ((toks[k]?).map m.E).getD 0 = _; rw [hk]; rfl
  have hBk : ∀ k i, bxs[k]? = some i → m'.B k = m.B i := fun k i hk => by show ((bxs[k]?).map m.B).getD 0 = _; rw [hk]; rfl
  generalize hs' : (St.mk (nilsAt toks.length ns (t.map (renTmp bxs toks))) (nilsBx (toks.length + ns.length) nb bx1 ++ List.replicate (toks.length + (ns.length + nb.length)) none) (addBits (liveL s.live 0 toks) toks.length (ns.length + nb.length)) (s.g.map (renG bxs toks))) = s'
  have sbx : s'.bx = nilsBx (toks.length + ns.length) nb bx1 ++ List.replicate (toks.length + (ns.length + nb.length)) none := by rw [← hs']
  have slive : s'.live = addBits (liveL s.live 0 toks) toks.length (ns.length + nb.length) := by rw [← hs']
  have stt : s'.t = nilsAt toks.length ns (t.map (renTmp bxs toks)) := by rw [← hs']
  have sgg : s'.g = s.g.map (renG bxs toks) := by rw [← hs']
  rw [← sbx] at bget bget'
  rw [← slive] at lget
  have lsome : ∀ τ k, hasBit s'.live τ = true → m'.G τ = some k → ∃ i, toks[τ]? = some i ∧ hasBit s.live i = true := by
    intro τ k hl hG
    rcases lget τ hl with h | ⟨_, _, h⟩
    · exact h
    · rw [h] at hG; cases hG
  have hren : Ren (vw w0 Nin s m w) (vw w0 Nin s' m' w) bxs toks := by
    have hN : ∀ b, (vw w0 Nin s m w).N b → (vw w0 Nin s' m' w).N b := by
      rintro b ⟨c1, c2, c3, c4⟩
      refine ⟨c1, c2, fun τ hl hG => ?_, fun k T cs hk => ?_⟩
      · obtain ⟨i, hi, hli⟩ := lsome τ b hl hG
        rw [hGk τ i hi] at hG
        exact c3 i hli hG
      · obtain ⟨i, cs0, h1, h2, _⟩ := bget k T cs hk
        rw [hBk k i h1]
        exact c4 i T cs0 h2
    refine ⟨rfl, rfl, hN, ?_, ?_, ?_⟩
    · rintro b hi (hb | ⟨τ, hl, hG, hE⟩)
      · exact .inl (hN b hb)
      · have hl' : hasBit s.live τ = true := hl
        have hG' : m.G τ = some b := hG
        by_cases hex : ∃ k : Nat, toks[k]? = some τ
        · obtain ⟨k, hk⟩ := hex
          refine .inr ⟨k, ?_, ?_, ?_⟩
          · show hasBit s'.live k = true
            rw [slive]
            exact (addBits_get _ _ _ _).2 (.inl ((liveL_get s.live toks 0 k).2 ⟨k, τ, by omega, hk, hl'⟩))
          · exact (hGk k τ hk).trans hG'
          · show hi ≤ m'.E k; rw [hEk k τ hk]; exact hE
        · refine .inl ⟨(h.toks τ b hl' hG').2, fun hlt => ?_, fun τ' hl'' hG'' => ?_, fun k T cs hk => ?_⟩
          · have := (h.toks τ b hl' hG').1; omega
          · obtain ⟨i, hi', hli⟩ := lsome τ' b hl'' hG''
            rw [hGk τ' i hi'] at hG''
            have := h.inj τ i b hl' hli hG' hG''
            exact hex ⟨τ', this ▸ hi'⟩
          · obtain ⟨i, cs0, h1, h2, _⟩ := bget k T cs hk
            rw [hBk k i h1]
            exact h.sep τ b i T cs0 hl' hG' h2
    · intro k i hk _
      refine ⟨Nat.lt_add_right _ (tlt k i hk), fun hl => ?_⟩
      have hlt := tlt k i hk
      obtain ⟨i', hi', hli⟩ := (lget k hl).resolve_right (fun h => by omega)
      rw [hk] at hi'
      cases hi'
      exact ⟨hli, hGk k i hk, hEk k i hk⟩
    · rintro k i hk ⟨T, cs, hb⟩
      obtain ⟨cs', h1⟩ := bget' k i T cs hk hb
      exact ⟨⟨T, cs', h1⟩, hBk k i hk⟩
  have hlen : s'.bx.length = bxs.length + (toks.length + (ns.length + nb.length)) := by rw [sbx, List.length_append, nilsBx_len, bx1len, List.length_replicate]
  refine ⟨m', ⟨h.below, h.defers, ?_, ?_, ?_, ?_, ?_, ?_, ?_, ?_, ?_, ?_, ?_⟩⟩
  · rw [stt, nilsAt_len, List.length_map, ← ht, killAt_len, killAt_len]; exact h.tlen
  · intro i x v hx hv
    rw [stt] at hx
    refine nilsAt_V (q := vw w0 Nin s' m' w) (vs := a.tmps.toList) ns toks.length (t.map (renTmp bxs toks)) (fun k h1 h2 => ⟨by show k < toks.length + (ns.length + nb.length); omega, ?_, ?_⟩) ?_ i x v hx (by simpa using hv)
    · show (toks[k]?).bind m.G = none
      rw [List.getElem?_eq_none h1]; rfl
    · show ((toks[k]?).map m.E).getD 0 = 0
      rw [List.getElem?_eq_none h1]; rfl
    · intro i x v hx hv
      rw [List.getElem?_map] at hx
      cases hti : t[i]? with
      | none => rw [hti] at hx; cases hx
      | some y =>
        rw [hti] at hx
        simp only [Option.map_some, Option.some.injEq] at hx
        subst hx
        refine hren.tmp ?_
        rw [← ht] at hti
        rcases killAt_get _ _ _ _ _ hti with rfl | hy
        · trivial
        · rcases killAt_get _ _ _ _ _ hy with rfl | hy
          · trivial
          · exact h.tmps i y v hy (by simpa using hv)
  · intro τ k hl hG
    obtain ⟨i, hi, hli⟩ := lsome τ k hl hG
    exact h.toks i k hli (hGk τ i hi ▸ hG)
  · intro τ τ' k hl hl' hG hG'
    obtain ⟨i, hi, hli⟩ := lsome τ k hl hG
    obtain ⟨i', hi', hli'⟩ := lsome τ' k hl' hG'
    have := h.inj i i' k hli hli' (hGk τ i hi ▸ hG) (hGk τ' i' hi' ▸ hG')
    exact nodupT τ τ' i hi (this ▸ hi')
  · intro k T cs hk
    obtain ⟨i, cs0, h1, h2, hup⟩ := bget k T cs hk
    obtain ⟨c1, vs, c2, c3, c4⟩ := h.boxes i T cs0 h2
    rw [hBk k i h1]
    refine ⟨c1, vs, c2, hup _ vs (fun m h3 h4 => ⟨?_, ?_, ?_⟩) (hren.cells cs0 vs c3), c4⟩
    · show m < toks.length + (ns.length + nb.length); omega
    · show (toks[m]?).bind _ = none
      rw [List.getElem?_eq_none (by omega)]; rfl
    · show ((toks[m]?).map _).getD 0 = 0
      rw [List.getElem?_eq_none (by omega)]; rfl
  · intro k T cs k' T' cs' hk hk' he
    obtain ⟨i, cs0, h1, h2, _⟩ := bget k T cs hk
    obtain ⟨i', cs0', h1', h2', _⟩ := bget k' T' cs' hk'
    rw [hBk k i h1, hBk k' i' h1'] at he
    have := h.binj i T cs0 i' T' cs0' h2 h2' he
    exact nodupB k k' i h1 (this ▸ h1')
  · intro τ b k T cs hl hG hk
    obtain ⟨i, hi, hli⟩ := lsome τ b hl hG
    obtain ⟨j, cs0, h1, h2, _⟩ := bget k T cs hk
    rw [hBk k j h1]
    exact h.sep i b j T cs0 hli (hGk τ i hi ▸ hG) h2
  · intro τ hτ
    have hτ' : τ < toks.length + (ns.length + nb.length) := hτ
    show τ / 8 < s'.bx.length
    rw [hlen]
    have := Nat.div_le_self τ 8
    omega
  · intro k T cs hk
    exact (List.getElem?_eq_some_iff.1 hk).1
  · intro τ hl
    show τ < toks.length + (ns.length + nb.length)
    rcases lget τ hl with ⟨i, hi, _⟩ | h
    · exact Nat.lt_add_right _ (tlt τ i hi)
    · exact h.2.1
  · rw [sgg]
    have hg := h.ghost
    generalize s.g = l at hg
    generalize Nin.gv = vs at hg
    induction l generalizing vs with
    | nil => cases vs <;> first | trivial | exact hg.elim
    | cons x l ih =>
      cases vs with
      | nil => exact hg.elim
      | cons v vs => exact ⟨hren.g hg.1, ih vs hg.2⟩
theorem strike_sound (h : Inv w0 Nin D s m a w) (keep : Hints) (c : Code) : Inv w0 Nin D (strike keep c s) m a w := by
  refine ⟨h.below, h.defers, ?_, ?_, h.toks, h.inj, h.boxes, h.binj, h.sep, h.uD, h.bD, h.liveU, h.ghost⟩
  · show a.tmps.size = (killAt _ 0 s.t).length
    rw [killAt_len]; exact h.tlen
  · intro i x v hx hv
    rcases killAt_get _ _ _ _ _ hx with rfl | hy
    · trivial
    · exact h.tmps i x v hy hv
end
end Go.Eng
