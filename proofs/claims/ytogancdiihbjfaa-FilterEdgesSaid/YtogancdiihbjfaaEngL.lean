/- ENGINE, part L: the call. -/
import Derived.Test.YtogancdiihbjfaaEngK
namespace Go.Eng
open Go Go.RowKit
def isOwn (l : List (Option TypeId × Ty)) (j : Nat) : Prop := ∃ T e, l[j]? = some (some T, .sl e)
/-- The block, the size of the j-th answer's row. -/
def blkL (l : List (Option TypeId × Ty)) (vs : List Value) (j : Nat) : Option Nat := match l[j]?, vs[j]? with
  | some (some _, .sl _), some v => v.ownBlock
  | _, _ => none
def sz1 : (t : Ty) → t.den → Nat
  | .sl e, x => List.length x * e.sz
  | _, _ => 0
def szL : (l : List (Option TypeId × Ty)) → denL l → Nat → Nat
  | [], _, _ => 0
  | (_, t) :: _, x, 0 => sz1 t x.1
  | _ :: l, x, j + 1 => szL l x.2 j
theorem bits_get : ∀ (l : List (Option TypeId × Ty)) (id m t : Nat), hasBit (bitsL id m l) t = true ↔ hasBit m t = true ∨ ∃ j, t = id + j ∧ isOwn l j
  | [], id, m, t => by
    simp only [bitsL]
    exact ⟨.inl, fun h => h.elim _root_.id fun ⟨j, _, T, e, he⟩ => by simp at he⟩
  | (o, ty) :: l, id, m, t => by
    simp only [bitsL]
    rw [bits_get l (id + 1)]
    have hown : (o.isSome && ty.isSl) = true ↔ isOwn ((o, ty) :: l) 0 := by
      constructor
      · intro h
        rw [Bool.and_eq_true] at h
        cases o with
        | none => cases h.1
        | some T => cases ty <;> first | exact ⟨T, _, rfl⟩ | (cases h.2)
      · rintro ⟨T, e, he⟩
        simp only [List.getElem?_cons_zero, Option.some.injEq, Prod.mk.injEq] at he
        rw [he.1, he.2]; rfl
    have hsucc : ∀ j, isOwn ((o, ty) :: l) (j + 1) ↔ isOwn l j := fun j => by unfold isOwn; simp only [List.getElem?_cons_succ]
    constructor
    · rintro (h | ⟨j, rfl, hj⟩)
      · split at h
        · rename_i ho
          rw [bit_add, Bool.or_eq_true] at h
          rcases h with h | h
          · exact .inl h
          · exact .inr ⟨0, (of_decide_eq_true h).symm, hown.1 ho⟩
        · exact .inl h
      · exact .inr ⟨j + 1, by omega, (hsucc j).2 hj⟩
    · rintro (h | ⟨j, rfl, hj⟩)
      · refine .inl ?_
        split
        · rw [bit_add, h]; rfl
        · exact h
      · cases j with
        | zero =>
          refine .inl ?_
          rw [if_pos (hown.2 hj), bit_add]; simp
        | succ j => exact .inr ⟨j, by omega, (hsucc j).1 hj⟩
theorem blk_own1 {o : Option TypeId} {t : Ty} {l : List (Option TypeId × Ty)} {v : Value} {vs : List Value} {k : Nat} (h : blkL ((o, t) :: l) (v :: vs) 0 = some k) : k ∈ own1 (o, t) v := by
  unfold blkL at h
  simp only [List.getElem?_cons_zero] at h
  split at h
  · rename_i T e v' heq hv
    simp only [Option.some.injEq, Prod.mk.injEq] at heq hv
    obtain ⟨rfl, rfl⟩ := heq
    subst hv
    simp [own1, h]
  · cases h
theorem owned_mem : ∀ (l : List (Option TypeId × Ty)) (vs : List Value) (j k : Nat), blkL l vs j = some k → k ∈ owned l vs
  | [], _, _, _, h => by simp [blkL] at h
  | (o, t) :: l, [], j, k, h => by simp [blkL] at h
  | (o, t) :: l, v :: vs, 0, k, h => List.mem_append_left _ (blk_own1 h)
  | (o, t) :: l, v :: vs, j + 1, k, h => List.mem_append_right _ (owned_mem l vs j k (by simpa [blkL] using h))
theorem owned_inj : ∀ (l : List (Option TypeId × Ty)) (vs : List Value), (owned l vs).Nodup → ∀ (i j k : Nat), blkL l vs i = some k → blkL l vs j = some k → i = j
  | [], _, _, _, _, _, h, _ => by simp [blkL] at h
  | (o, t) :: l, [], _, _, _, _, h, _ => by simp [blkL] at h
  | (o, t) :: l, v :: vs, hn, i, j, k, hi, hj => by
    have hn' := List.nodup_append.1 (show (own1 (o, t) v ++ owned l vs).Nodup from hn)
    have head : ∀ j, blkL ((o, t) :: l) (v :: vs) 0 = some k → blkL l vs j = some k → False := fun j h0 hj =>
      hn'.2.2 k (blk_own1 h0) k (owned_mem l vs j k hj) rfl
    cases i with
    | zero =>
      cases j with
      | zero => rfl
      | succ j => exact (head j hi (by simpa [blkL] using hj)).elim
    | succ i =>
      cases j with
      | zero => exact (head i hj (by simpa [blkL] using hi)).elim
      | succ j => rw [owned_inj l vs hn'.2.1 i j k (by simpa [blkL] using hi) (by simpa [blkL] using hj)]
theorem ResL_len {w' : World} {base : Nat} {N' : Nat → Prop} : ∀ {l : List (Option TypeId × Ty)} {x : denL l} {vs : List Value}, ResL w' base N' l x vs → vs.length = l.length
  | [], _, _, h => by rw [show _ = _ from h]; rfl
  | _ :: l, _, _ :: vs, ⟨_, h⟩ => by rw [List.length_cons, List.length_cons, ResL_len h]
theorem ResL_blk {w' : World} {base : Nat} {N' : Nat → Prop} : ∀ {l : List (Option TypeId × Ty)} {x : denL l} {vs : List Value}, ResL w' base N' l x vs → ∀ j k, blkL l vs j = some k → base ≤ k ∧ k < w'.heap.size
  | [], _, _, _, j, k, hk => by simp [blkL] at hk
  | (o, t) :: l, x, v :: vs, ⟨h, _⟩, 0, k, hk => by
    unfold blkL at hk
    simp only [List.getElem?_cons_zero] at hk
    split at hk
    · rename_i T e v' heq hv
      simp only [Option.some.injEq, Prod.mk.injEq] at heq hv
      obtain ⟨rfl, rfl⟩ := heq
      subst hv
      obtain ⟨inner, ho, _⟩ := h
      exact ho.lt k hk
    · cases hk
  | (o, t) :: l, x, v :: vs, ⟨_, h⟩, j + 1, k, hk => ResL_blk h j k (by simpa [blkL] using hk)
theorem cellsT_V1 {q : Vw} {t : Ty} {x : t.den} {cs : List Value} (h : rep q.w q.N t x cs) : all2 (V1 q) (cellsT t x) cs := all2_imp (fun _ _ => V1_of_V0) _ _ (cellsT_V0 t x cs h)
/-- One answer, in the caller's view. -/
theorem mk1_V {q : Vw} {N' : Nat → Prop} {id : Nat} {o : Option TypeId} {t : Ty} {x : t.den} {v : Value} (h : Res1 q.w q.base N' o t x v)
    (hN : fresh1 (o, t) = true ∨ ∀ b, N' b → q.N b)
    (hown : ∀ T e, o = some T → t = .sl e → q.U id ∧ q.live id ∧ q.G id = v.ownBlock) (hE : ∀ T e, o = some T → t = .sl e → q.E id = sz1 t x) :
    V2 q (mk1 id o t x) v := by
  have plain : (fresh1 (none, t) = true ∨ ∀ b, N' b → q.N b) → (∃ vs, shut t vs v ∧ rep q.w N' t x vs) → V2 q (mk1 id none t x) v := by
    intro hN ⟨vs, hs, hr⟩
    have hr' : rep q.w q.N t x vs := by
      rcases hN with hN | hN
      · exact rep_noSl t (by simpa [fresh1] using hN) x vs hr
      · exact rep_step (fun b hb => ⟨hN b hb, rfl⟩) t x vs hr
    cases t with
    | pair a b => exact ⟨vs, hs, cellsT_V1 hr', rep_one _ _ _ hr'⟩
    | unit =>
      have : vs = [] := hr'
      subst this
      exact ⟨[], hs, trivial, fun u hu => by cases hu⟩
    | _ => rw [show vs = [v] from hs] at hr'; exact hr'
  cases o with
  | none => exact plain hN (by cases t <;> exact h)
  | some T =>
    cases t with
    | sl e =>
      obtain ⟨inner, ho, hr⟩ := h
      obtain ⟨h1, h2, h3⟩ := hown T e rfl rfl
      have hr' : repsOf (rep q.w q.N e) x inner := by
        rcases hN with hN | hN
        · exact repsOf_imp (rep_noSl e (by simpa [fresh1] using hN)) x inner hr
        · exact repsOf_imp (rep_step (fun b hb => ⟨hN b hb, rfl⟩) e) x inner hr
      have hO : q.Own id T e x v := ⟨inner, ho, h3.symm, hr', by rw [hE T e rfl rfl]; exact (reps_len x inner hr').symm⟩
      exact ⟨h1, own_sl hO h2, fun _ => hO⟩
    | pair a b => exact plain (hN.imp (fun h => by simpa [fresh1] using h) _root_.id) h
    | unit => exact plain (hN.imp (fun h => by simpa [fresh1] using h) _root_.id) h
    | int k => exact plain (hN.imp (fun h => by simpa [fresh1] using h) _root_.id) h
    | bool => exact plain (hN.imp (fun h => by simpa [fresh1] using h) _root_.id) h
    | str => exact plain (hN.imp (fun h => by simpa [fresh1] using h) _root_.id) h
    | flt k => exact plain (hN.imp (fun h => by simpa [fresh1] using h) _root_.id) h
theorem mkL_V {q : Vw} {N' : Nat → Prop} : ∀ (l : List (Option TypeId × Ty)) (id : Nat) (x : denL l) (vs : List Value), ResL q.w q.base N' l x vs → (l.all fresh1 = true ∨ ∀ b, N' b → q.N b) →
    (∀ j, isOwn l j → q.U (id + j) ∧ q.live (id + j) ∧ q.G (id + j) = blkL l vs j ∧ q.E (id + j) = szL l x j) → all2 (V2 q) (mkL id l x) vs
  | [], _, _, vs, h, _, _ => by rw [show vs = [] from h]; trivial
  | (o, t) :: l, id, x, v :: vs, ⟨h, hl⟩, hN, ho => by
    refine ⟨mk1_V h (hN.imp (fun h => by rw [List.all_cons, Bool.and_eq_true] at h; exact h.1) _root_.id) (fun T e h1 h2 => ?_) (fun T e h1 h2 => ?_), mkL_V l (id + 1) x.2 vs hl (hN.imp (fun h => by rw [List.all_cons, Bool.and_eq_true] at h; exact h.2) _root_.id) (fun j hj => ?_)⟩
    · subst h1 h2
      obtain ⟨c1, c2, c3, _⟩ := ho 0 ⟨T, e, rfl⟩
      exact ⟨c1, c2, by simpa [blkL] using c3⟩
    · subst h1 h2
      obtain ⟨_, _, _, c4⟩ := ho 0 ⟨T, e, rfl⟩
      exact c4
    · obtain ⟨c1, c2, c3, c4⟩ := ho (j + 1) (by obtain ⟨T, e, he⟩ := hj; exact ⟨T, e, by simpa using he⟩)
      rw [show id + 1 + j = id + (j + 1) by omega]
      exact ⟨c1, c2, by rw [c3]; simp [blkL], by rw [c4]; cases t <;> rfl⟩
section
variable {w0 : World} {Nin : Env} {D : Nat → Prop} {s : St} {m : Mp} {a : Act} {w w' : World}
theorem resL_step (h : Inv w0 Nin D s m a w) {n : Nat} (hn : ¬ D n) (hb : Below w.heap.size w w') {l : List (Option TypeId × Ty)} (hlen : l.length ≤ 8) {N : Nat → Prop} (hN : l.all fresh1 = true ∨ N = (vw w0 Nin s m w).N) {x : denL l} {vs : List Value}
    (hr : ResL w' w.heap.size (fun b => b < w'.heap.size ∧ (b < w.heap.size → N b) ∧ b ∉ owned l vs) l x vs) (hnd : (owned l vs).Nodup) :
    ∃ m', Inv w0 Nin (fun k => D k ∨ k = n) { s with live := bitsL (8 * n) s.live l } m' a w' ∧ all2 (V2 (vw w0 Nin { s with live := bitsL (8 * n) s.live l } m' w')) (mkL (8 * n) l x) vs := by
  have hid : ∀ t, m.U t → t / 8 ≠ n := fun t ht he => hn (he ▸ h.uD t ht)
  have hlv := ResL_len hr
  have jlt : ∀ j, isOwn l j → j < 8 := by
    rintro j ⟨T, e, he⟩
    have := (List.getElem?_eq_some_iff.1 he).1
    omega
  have newU : ∀ t, ¬ m.U t → hasBit (bitsL (8 * n) s.live l) t = true → ∃ j, t = 8 * n + j ∧ isOwn l j := by
    intro t ht hl
    rcases (bits_get l (8 * n) s.live t).1 hl with h1 | h1
    · exact (ht (h.liveU t h1)).elim
    · exact h1
  have hdiv : ∀ j, j < 8 → (8 * n + j) / 8 = n := fun j hj => by omega
  have hsz : w0.heap.size ≤ w.heap.size := h.below.size
  refine ⟨{ G := fun t => if t / 8 = n then blkL l vs (t - 8 * n) else m.G t, E := fun t => if t / 8 = n then szL l x (t - 8 * n) else m.E t, U := fun t => m.U t ∨ t / 8 = n, B := m.B }, ?_⟩
  obtain ⟨hto, hinv⟩ := grow_step (w' := w') (s' := { s with live := bitsL (8 * n) s.live l }) (D' := fun k => D k ∨ k = n)
    (m' := { G := fun t => if t / 8 = n then blkL l vs (t - 8 * n) else m.G t, E := fun t => if t / 8 = n then szL l x (t - 8 * n) else m.E t, U := fun t => m.U t ∨ t / 8 = n, B := m.B }) h rfl rfl rfl none (fun τ hτ => by cases hτ)
    ⟨hb.os, hb.tape, hb.output, hb.size, fun k hk _ => hb.block k hk⟩
    (h.below.trans (hb.mono hsz)) (fun _ ht => .inl ht) (fun t ht => ⟨if_neg (hid t ht), if_neg (hid t ht)⟩)
    (fun t ht hl => by
      rcases (bits_get l (8 * n) s.live t).1 hl with h1 | ⟨j, rfl, hj⟩
      · exact ⟨h1, by simp⟩
      · exact (hid _ ht (hdiv j (jlt j hj))).elim)
    (fun t hl _ => (bits_get l (8 * n) s.live t).2 (.inl hl))
    (fun t k ht hl hG => by
      obtain ⟨j, rfl, hj⟩ := newU t ht hl
      have hG' : blkL l vs j = some k := by
        have : (if (8 * n + j) / 8 = n then blkL l vs (8 * n + j - 8 * n) else m.G (8 * n + j)) = some k := hG
        rw [if_pos (hdiv j (jlt j hj)), show 8 * n + j - 8 * n = j by omega] at this
        exact this
      obtain ⟨c1, c2⟩ := ResL_blk hr j k hG'
      exact ⟨by omega, c2, .inl c1⟩)
    (fun t t' k ht ht' hl hl' hG hG' => by
      obtain ⟨j, rfl, hj⟩ := newU t ht hl
      obtain ⟨j', rfl, hj'⟩ := newU t' ht' hl'
      have e1 : (if (8 * n + j) / 8 = n then blkL l vs (8 * n + j - 8 * n) else m.G (8 * n + j)) = some k := hG
      have e2 : (if (8 * n + j') / 8 = n then blkL l vs (8 * n + j' - 8 * n) else m.G (8 * n + j')) = some k := hG'
      rw [if_pos (hdiv j (jlt j hj)), show 8 * n + j - 8 * n = j by omega] at e1
      rw [if_pos (hdiv j' (jlt j' hj')), show 8 * n + j' - 8 * n = j' by omega] at e2
      rw [owned_inj l vs hnd j j' k e1 e2])
    (fun τ k hτ => by cases hτ)
    (fun t ht => ht.elim (fun ht => .inl (h.uD t ht)) (fun he => .inr he)) (fun k hk => .inl hk)
    (fun t hl => by
      rcases (bits_get l (8 * n) s.live t).1 hl with h1 | ⟨j, rfl, hj⟩
      · exact .inl (h.liveU t h1)
      · exact .inr (hdiv j (jlt j hj)))
  refine ⟨hinv, ?_⟩
  -- the answers' rows are made from the callee's base on: more than the frame's
  have lower : ∀ (l : List (Option TypeId × Ty)) (x : denL l) (vs : List Value) (N' : Nat → Prop), ResL w' w.heap.size N' l x vs → ResL w' w0.heap.size N' l x vs := by
    intro l
    induction l with
    | nil => exact fun _ _ _ h => h
    | cons p l ih =>
      obtain ⟨o, t⟩ := p
      intro x vs N' hr
      cases vs with
      | nil => exact hr.elim
      | cons v vs =>
        refine ⟨?_, ih _ _ _ hr.2⟩
        have h1 := hr.1
        cases o with
        | none => cases t <;> exact h1
        | some T =>
          cases t <;> first | exact h1 | skip
          obtain ⟨inner, ho, hrr⟩ := h1
          refine ⟨inner, ⟨ho.1, ?_⟩, hrr⟩
          rcases ho.2 with h2 | ⟨g, cap, cur, c1, c2, c3⟩
          · exact .inl h2
          · exact .inr ⟨g, cap, cur, c1, by omega, c3⟩
  refine mkL_V (q := vw w0 Nin { s with live := bitsL (8 * n) s.live l } _ w') l (8 * n) x vs (lower l x vs _ hr) (hN.imp _root_.id (fun he b hb' => ?_)) (fun j hj => ?_)
  · obtain ⟨c1, c2, c3⟩ := hb'
    have old : ∀ k, k < w.heap.size → b = k → (vw w0 Nin s m w).N b := fun k hk he' => by rw [← he]; exact c2 (he' ▸ hk)
    refine ⟨c1, fun hlt => ?_, fun τ hl hG => ?_, fun i T cs hbx => ?_⟩
    · exact (old b (by omega) rfl).2.1 hlt
    · have hG' : (if τ / 8 = n then blkL l vs (τ - 8 * n) else m.G τ) = some b := hG
      split at hG'
      · exact c3 (owned_mem l vs _ b hG')
      · rename_i hne
        have hl0 : hasBit s.live τ = true := by
          rcases (bits_get l (8 * n) s.live τ).1 hl with h1 | ⟨j, rfl, hj⟩
          · exact h1
          · exact (hne (hdiv j (jlt j hj))).elim
        exact (old b (h.toks τ b hl0 hG').2 rfl).2.2.1 τ hl0 hG'
    · intro hB
      have hB' : m.B i = b := hB
      obtain ⟨_, us, hh, _⟩ := h.boxes i T cs hbx
      have hlt := (Array.getElem?_eq_some_iff.1 hh).1
      exact (old b (hB' ▸ hlt) rfl).2.2.2 i T cs hbx hB'
  · refine ⟨.inr (hdiv j (jlt j hj)), (bits_get l (8 * n) s.live _).2 (.inr ⟨j, rfl, hj⟩), ?_, ?_⟩
    · show (if (8 * n + j) / 8 = n then blkL l vs (8 * n + j - 8 * n) else m.G (8 * n + j)) = _
      rw [if_pos (hdiv j (jlt j hj)), show 8 * n + j - 8 * n = j by omega]
    · show (if (8 * n + j) / 8 = n then szL l x (8 * n + j - 8 * n) else m.E (8 * n + j)) = _
      rw [if_pos (hdiv j (jlt j hj)), show 8 * n + j - 8 * n = j by omega]
end
end Go.Eng
