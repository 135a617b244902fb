/- Rb, part 2: several texts of mine, laid together. -/
import Derived.Test.YtbnkagiikibjpaaDoorRba
import Derived.Laws.StructEq
import Derived.Scope
import Derived.Deep.Slices
import Derived.Deep.Fields
import Derived.Deep.Strs
import Derived.ChangeShapes
import Derived.WideShapes
import Derived.KernelRfl
import Derived.Test.YtbnkagiikibjpaaDoorRows
import Derived.Stop.LaidErr
import Derived.Shelf.Vars
import Derived.Lib.LaidTab
import Derived.Deep.DeepLaidRun
import Derived.Laws.Externs
import Derived.Lib.SlicesCompact
import Derived.Lib.AtoiAll
import Derived.Lib.IndexMore
import Derived.Lib.Itoa
set_option linter.unusedVariables false
set_option linter.unusedSimpArgs false
/- ENGINE, part L: the call. -/
namespace Go.Eng
open Go Go.RowKit
def isOwn (l : List (Option TypeId × Ty)) (j : Nat) : Prop := ∃ T e, l[j]? = some (some T, .sl e)
/-- The block, the size of the j-th answer's row. -/
def blkL (l : List (Option TypeId × Ty)) (vs : List Value) (j : Nat) : Option Nat := match l[j]?, vs[j]? with
  | some (some _, .sl _), some v => v.ownBlock
  | _, _ => none
def sz1 : (t : Ty) → t.den → Nat
  | .sl e, x => List.length x * e.sz
  | _, _ => 0
def szL : (l : List (Option TypeId × Ty)) → denL l → Nat → Nat
  | [], _, _ => 0
  | (_, t) :: _, x, 0 => sz1 t x.1
  | _ :: l, x, j + 1 => szL l x.2 j
theorem bits_get : ∀ (l : List (Option TypeId × Ty)) (id m t : Nat), hasBit (bitsL id m l) t = true ↔ hasBit m t = true ∨ ∃ j, t = id + j ∧ isOwn l j
  | [], id, m, t => by
    simp only [bitsL]
    exact ⟨.inl, fun h => h.elim _root_.id fun ⟨j, _, T, e, he⟩ => by simp at he⟩
  | (o, ty) :: l, id, m, t => by
    simp only [bitsL]
    rw [bits_get l (id + 1)]
    have hown : (o.isSome && ty.isSl) = true ↔ isOwn ((o, ty) :: l) 0 := by
      constructor
      · intro h
        rw [Bool.and_eq_true] at h
        cases o with
        | none => cases h.1
        | some T => cases ty <;> first | exact ⟨T, _, rfl⟩ | (cases h.2)
      · rintro ⟨T, e, he⟩
        simp only [List.getElem?_cons_zero, Option.some.injEq, Prod.mk.injEq] at he
        rw [he.1, he.2]; rfl
    have hsucc : ∀ j, isOwn ((o, ty) :: l) (j + 1) ↔ isOwn l j := fun j => by unfold isOwn; simp only [List.getElem?_cons_succ]
    constructor
    · rintro (h | ⟨j, rfl, hj⟩)
      · split at h
        · rename_i ho
          rw [bit_add, Bool.or_eq_true] at h
          rcases h with h | h
          · exact .inl h
          · exact .inr ⟨0, (of_decide_eq_true h).symm, hown.1 ho⟩
        · exact .inl h
      · exact .inr ⟨j + 1, by omega, (hsucc j).2 hj⟩
    · rintro (h | ⟨j, rfl, hj⟩)
      · refine .inl ?_
        split
        · rw [bit_add, h]; rfl
        · exact h
      · cases j with
        | zero =>
          refine .inl ?_
          rw [if_pos (hown.2 hj), bit_add]; simp
        | succ j => exact .inr ⟨j, by omega, (hsucc j).1 hj⟩
theorem blk_own1 {o : Option TypeId} {t : Ty} {l : List (Option TypeId × Ty)} {v : Value} {vs : List Value} {k : Nat} (h : blkL ((o, t) :: l) (v :: vs) 0 = some k) : k ∈ own1 (o, t) v := by
  unfold blkL at h
  simp only [List.getElem?_cons_zero] at h
  split at h
  · rename_i T e v' heq hv
    simp only [Option.some.injEq, Prod.mk.injEq] at heq hv
    obtain ⟨rfl, rfl⟩ := heq
    subst hv
    simp [own1, h]
  · cases h
theorem owned_mem : ∀ (l : List (Option TypeId × Ty)) (vs : List Value) (j k : Nat), blkL l vs j = some k → k ∈ owned l vs
  | [], _, _, _, h => by simp [blkL] at h
  | (o, t) :: l, [], j, k, h => by simp [blkL] at h
  | (o, t) :: l, v :: vs, 0, k, h => List.mem_append_left _ (blk_own1 h)
  | (o, t) :: l, v :: vs, j + 1, k, h => List.mem_append_right _ (owned_mem l vs j k (by simpa [blkL] using h))
theorem owned_inj : ∀ (l : List (Option TypeId × Ty)) (vs : List Value), (owned l vs).Nodup → ∀ (i j k : Nat), blkL l vs i = some k → blkL l vs j = some k → i = j
  | [], _, _, _, _, _, h, _ => by simp [blkL] at h
  | (o, t) :: l, [], _, _, _, _, h, _ => by simp [blkL] at h
  | (o, t) :: l, v :: vs, hn, i, j, k, hi, hj => by
    have hn' := List.nodup_append.1 (show (own1 (o, t) v ++ owned l vs).Nodup from hn)
    have head : ∀ j, blkL ((o, t) :: l) (v :: vs) 0 = some k → blkL l vs j = some k → False := fun j h0 hj =>
      hn'.2.2 k (blk_own1 h0) k (owned_mem l vs j k hj) rfl
    cases i with
    | zero =>
      cases j with
      | zero => rfl
      | succ j => exact (head j hi (by simpa [blkL] using hj)).elim
    | succ i =>
      cases j with
      | zero => exact (head i hj (by simpa [blkL] using hi)).elim
      | succ j => rw [owned_inj l vs hn'.2.1 i j k (by simpa [blkL] using hi) (by simpa [blkL] using hj)]
theorem ResL_len {w' : World} {base : Nat} {N' : Nat → Prop} : ∀ {l : List (Option TypeId × Ty)} {x : denL l} {vs : List Value}, ResL w' base N' l x vs → vs.length = l.length
  | [], _, _, h => by rw [show _ = _ from h]; rfl
  | _ :: l, _, _ :: vs, ⟨_, h⟩ => by rw [List.length_cons, List.length_cons, ResL_len h]
theorem ResL_blk {w' : World} {base : Nat} {N' : Nat → Prop} : ∀ {l : List (Option TypeId × Ty)} {x : denL l} {vs : List Value}, ResL w' base N' l x vs → ∀ j k, blkL l vs j = some k → base ≤ k ∧ k < w'.heap.size
  | [], _, _, _, j, k, hk => by simp [blkL] at hk
  | (o, t) :: l, x, v :: vs, ⟨h, _⟩, 0, k, hk => by
    unfold blkL at hk
    simp only [List.getElem?_cons_zero] at hk
    split at hk
    · rename_i T e v' heq hv
      simp only [Option.some.injEq, Prod.mk.injEq] at heq hv
      obtain ⟨rfl, rfl⟩ := heq
      subst hv
      obtain ⟨inner, ho, _⟩ := h
      exact ho.lt k hk
    · cases hk
  | (o, t) :: l, x, v :: vs, ⟨_, h⟩, j + 1, k, hk => ResL_blk h j k (by simpa [blkL] using hk)
theorem cellsT_V1 {q : Vw} {t : Ty} {x : t.den} {cs : List Value} (h : rep q.w q.N t x cs) : all2 (V1 q) (cellsT t x) cs := all2_imp (fun _ _ => V1_of_V0) _ _ (cellsT_V0 t x cs h)
/-- One answer, in the caller's view. -/
theorem mk1_V {q : Vw} {N' : Nat → Prop} {id : Nat} {o : Option TypeId} {t : Ty} {x : t.den} {v : Value} (h : Res1 q.w q.base N' o t x v)
    (hN : fresh1 (o, t) = true ∨ ∀ b, N' b → q.N b)
    (hown : ∀ T e, o = some T → t = .sl e → q.U id ∧ q.live id ∧ q.G id = v.ownBlock) (hE : ∀ T e, o = some T → t = .sl e → q.E id = sz1 t x) :
    V2 q (mk1 id o t x) v := by
  have plain : (fresh1 (none, t) = true ∨ ∀ b, N' b → q.N b) → (∃ vs, shut t vs v ∧ rep q.w N' t x vs) → V2 q (mk1 id none t x) v := by
    intro hN ⟨vs, hs, hr⟩
    have hr' : rep q.w q.N t x vs := by
      rcases hN with hN | hN
      · exact rep_noSl t (by simpa [fresh1] using hN) x vs hr
      · exact rep_step (fun b hb => ⟨hN b hb, rfl⟩) t x vs hr
    cases t with
    | pair a b => exact ⟨vs, hs, cellsT_V1 hr', rep_one _ _ _ hr'⟩
    | unit =>
      have : vs = [] := hr'
      subst this
      exact ⟨[], hs, trivial, fun u hu => by cases hu⟩
    | _ => rw [show vs = [v] from hs] at hr'; exact hr'
  cases o with
  | none => exact plain hN (by cases t <;> exact h)
  | some T =>
    cases t with
    | sl e =>
      obtain ⟨inner, ho, hr⟩ := h
      obtain ⟨h1, h2, h3⟩ := hown T e rfl rfl
      have hr' : repsOf (rep q.w q.N e) x inner := by
        rcases hN with hN | hN
        · exact repsOf_imp (rep_noSl e (by simpa [fresh1] using hN)) x inner hr
        · exact repsOf_imp (rep_step (fun b hb => ⟨hN b hb, rfl⟩) e) x inner hr
      have hO : q.Own id T e x v := ⟨inner, ho, h3.symm, hr', by rw [hE T e rfl rfl]; exact (reps_len x inner hr').symm⟩
      exact ⟨h1, own_sl hO h2, fun _ => hO⟩
    | pair a b => exact plain (hN.imp (fun h => by simpa [fresh1] using h) _root_.id) h
    | unit => exact plain (hN.imp (fun h => by simpa [fresh1] using h) _root_.id) h
    | int k => exact plain (hN.imp (fun h => by simpa [fresh1] using h) _root_.id) h
    | bool => exact plain (hN.imp (fun h => by simpa [fresh1] using h) _root_.id) h
    | str => exact plain (hN.imp (fun h => by simpa [fresh1] using h) _root_.id) h
    | flt k => exact plain (hN.imp (fun h => by simpa [fresh1] using h) _root_.id) h
theorem mkL_V {q : Vw} {N' : Nat → Prop} : ∀ (l : List (Option TypeId × Ty)) (id : Nat) (x : denL l) (vs : List Value), ResL q.w q.base N' l x vs → (l.all fresh1 = true ∨ ∀ b, N' b → q.N b) →
    (∀ j, isOwn l j → q.U (id + j) ∧ q.live (id + j) ∧ q.G (id + j) = blkL l vs j ∧ q.E (id + j) = szL l x j) → all2 (V2 q) (mkL id l x) vs
  | [], _, _, vs, h, _, _ => by rw [show vs = [] from h]; trivial
  | (o, t) :: l, id, x, v :: vs, ⟨h, hl⟩, hN, ho => by
    refine ⟨mk1_V h (hN.imp (fun h => by rw [List.all_cons, Bool.and_eq_true] at h; exact h.1) _root_.id) (fun T e h1 h2 => ?_) (fun T e h1 h2 => ?_), mkL_V l (id + 1) x.2 vs hl (hN.imp (fun h => by rw [List.all_cons, Bool.and_eq_true] at h; exact h.2) _root_.id) (fun j hj => ?_)⟩
    · subst h1 h2
      obtain ⟨c1, c2, c3, _⟩ := ho 0 ⟨T, e, rfl⟩
      exact ⟨c1, c2, by simpa [blkL] using c3⟩
    · subst h1 h2
      obtain ⟨_, _, _, c4⟩ := ho 0 ⟨T, e, rfl⟩
      exact c4
    · obtain ⟨c1, c2, c3, c4⟩ := ho (j + 1) (by obtain ⟨T, e, he⟩ := hj; exact ⟨T, e, by simpa using he⟩)
      rw [show id + 1 + j = id + (j + 1) by omega]
      exact ⟨c1, c2, by rw [c3]; simp [blkL], by rw [c4]; cases t <;> rfl⟩
section
variable {w0 : World} {Nin : Env} {D : Nat → Prop} {s : St} {m : Mp} {a : Act} {w w' : World}
theorem resL_step (h : Inv w0 Nin D s m a w) {n : Nat} (hn : ¬ D n) (hb : Below w.heap.size w w') {l : List (Option TypeId × Ty)} (hlen : l.length ≤ 8) {N : Nat → Prop} (hN : l.all fresh1 = true ∨ ∀ b, N b → (vw w0 Nin s m w).N b) {x : denL l} {vs : List Value}
    (hr : ResL w' w.heap.size (fun b => b < w'.heap.size ∧ (b < w.heap.size → N b) ∧ b ∉ owned l vs) l x vs) (hnd : (owned l vs).Nodup) :
    ∃ m', Inv w0 Nin (fun k => D k ∨ k = n) { s with live := bitsL (8 * n) s.live l } m' a w' ∧ all2 (V2 (vw w0 Nin { s with live := bitsL (8 * n) s.live l } m' w')) (mkL (8 * n) l x) vs := by
  have hid : ∀ t, m.U t → t / 8 ≠ n := fun t ht he => hn (he ▸ h.uD t ht)
  have hlv := ResL_len hr
  have jlt : ∀ j, isOwn l j → j < 8 := by
    rintro j ⟨T, e, he⟩
    have := (List.getElem?_eq_some_iff.1 he).1
    omega
  have newU : ∀ t, ¬ m.U t → hasBit (bitsL (8 * n) s.live l) t = true → ∃ j, t = 8 * n + j ∧ isOwn l j := by
    intro t ht hl
    rcases (bits_get l (8 * n) s.live t).1 hl with h1 | h1
    · exact (ht (h.liveU t h1)).elim
    · exact h1
  have hdiv : ∀ j, j < 8 → (8 * n + j) / 8 = n := fun j hj => by omega
  have hsz : w0.heap.size ≤ w.heap.size := h.below.size
  refine ⟨{ G := fun t => if t / 8 = n then blkL l vs (t - 8 * n) else m.G t, E := fun t => if t / 8 = n then szL l x (t - 8 * n) else m.E t, U := fun t => m.U t ∨ t / 8 = n, B := m.B }, ?_⟩
  obtain ⟨hto, hinv⟩ := grow_step (w' := w') (s' := { s with live := bitsL (8 * n) s.live l }) (D' := fun k => D k ∨ k = n)
    (m' := { G := fun t => if t / 8 = n then blkL l vs (t - 8 * n) else m.G t, E := fun t => if t / 8 = n then szL l x (t - 8 * n) else m.E t, U := fun t => m.U t ∨ t / 8 = n, B := m.B }) h rfl rfl rfl none (fun τ hτ => by cases hτ)
    ⟨hb.os, hb.tape, hb.output, hb.size, fun k hk _ => hb.block k hk⟩
    (h.below.trans (hb.mono hsz)) (fun _ ht => .inl ht) (fun t ht => ⟨if_neg (hid t ht), if_neg (hid t ht)⟩)
    (fun t ht hl => by
      rcases (bits_get l (8 * n) s.live t).1 hl with h1 | ⟨j, rfl, hj⟩
      · exact ⟨h1, by simp⟩
      · exact (hid _ ht (hdiv j (jlt j hj))).elim)
    (fun t hl _ => (bits_get l (8 * n) s.live t).2 (.inl hl))
    (fun t k ht hl hG => by
      obtain ⟨j, rfl, hj⟩ := newU t ht hl
      have hG' : blkL l vs j = some k := by
        have : (if (8 * n + j) / 8 = n then blkL l vs (8 * n + j - 8 * n) else m.G (8 * n + j)) = some k := hG
        rw [if_pos (hdiv j (jlt j hj)), show 8 * n + j - 8 * n = j by omega] at this
        exact this
      obtain ⟨c1, c2⟩ := ResL_blk hr j k hG'
      exact ⟨by omega, c2, .inl c1⟩)
    (fun t t' k ht ht' hl hl' hG hG' => by
      obtain ⟨j, rfl, hj⟩ := newU t ht hl
      obtain ⟨j', rfl, hj'⟩ := newU t' ht' hl'
      have e1 : (if (8 * n + j) / 8 = n then blkL l vs (8 * n + j - 8 * n) else m.G (8 * n + j)) = some k := hG
      have e2 : (if (8 * n + j') / 8 = n then blkL l vs (8 * n + j' - 8 * n) else m.G (8 * n + j')) = some k := hG'
      rw [if_pos (hdiv j (jlt j hj)), show 8 * n + j - 8 * n = j by omega] at e1
      rw [if_pos (hdiv j' (jlt j' hj')), show 8 * n + j' - 8 * n = j' by omega] at e2
      rw [owned_inj l vs hnd j j' k e1 e2])
    (fun τ k hτ => by cases hτ)
    (fun t ht => ht.elim (fun ht => .inl (h.uD t ht)) (fun he => .inr he)) (fun k hk => .inl hk)
    (fun t hl => by
      rcases (bits_get l (8 * n) s.live t).1 hl with h1 | ⟨j, rfl, hj⟩
      · exact .inl (h.liveU t h1)
      · exact .inr (hdiv j (jlt j hj)))
  refine ⟨hinv, ?_⟩
  -- the answers' rows are made from the callee's base on: more than the frame's
  have lower : ∀ (l : List (Option TypeId × Ty)) (x : denL l) (vs : List Value) (N' : Nat → Prop), ResL w' w.heap.size N' l x vs → ResL w' w0.heap.size N' l x vs := by
    intro l
    induction l with
    | nil => exact fun _ _ _ h => h
    | cons p l ih =>
      obtain ⟨o, t⟩ := p
      intro x vs N' hr
      cases vs with
      | nil => exact hr.elim
      | cons v vs =>
        refine ⟨?_, ih _ _ _ hr.2⟩
        have h1 := hr.1
        cases o with
        | none => cases t <;> exact h1
        | some T =>
          cases t <;> first | exact h1 | skip
          obtain ⟨inner, ho, hrr⟩ := h1
          refine ⟨inner, ⟨ho.1, ?_⟩, hrr⟩
          rcases ho.2 with h2 | ⟨g, cap, cur, c1, c2, c3⟩
          · exact .inl h2
          · exact .inr ⟨g, cap, cur, c1, by omega, c3⟩
  refine mkL_V (q := vw w0 Nin { s with live := bitsL (8 * n) s.live l } _ w') l (8 * n) x vs (lower l x vs _ hr) (hN.imp _root_.id (fun he b hb' => ?_)) (fun j hj => ?_)
  · obtain ⟨c1, c2, c3⟩ := hb'
    have old : ∀ k, k < w.heap.size → b = k → (vw w0 Nin s m w).N b := fun k hk he' => he b (c2 (he' ▸ hk))
    refine ⟨c1, fun hlt => ?_, fun τ hl hG => ?_, fun i T cs hbx => ?_⟩
    · exact (old b (by omega) rfl).2.1 hlt
    · have hG' : (if τ / 8 = n then blkL l vs (τ - 8 * n) else m.G τ) = some b := hG
      split at hG'
      · exact c3 (owned_mem l vs _ b hG')
      · rename_i hne
        have hl0 : hasBit s.live τ = true := by
          rcases (bits_get l (8 * n) s.live τ).1 hl with h1 | ⟨j, rfl, hj⟩
          · exact h1
          · exact (hne (hdiv j (jlt j hj))).elim
        exact (old b (h.toks τ b hl0 hG').2 rfl).2.2.1 τ hl0 hG'
    · intro hB
      have hB' : m.B i = b := hB
      obtain ⟨_, us, hh, _⟩ := h.boxes i T cs hbx
      have hlt := (Array.getElem?_eq_some_iff.1 hh).1
      exact (old b (hB' ▸ hlt) rfl).2.2.2 i T cs hbx hB'
  · refine ⟨.inr (hdiv j (jlt j hj)), (bits_get l (8 * n) s.live _).2 (.inr ⟨j, rfl, hj⟩), ?_, ?_⟩
    · show (if (8 * n + j) / 8 = n then blkL l vs (8 * n + j - 8 * n) else m.G (8 * n + j)) = _
      rw [if_pos (hdiv j (jlt j hj)), show 8 * n + j - 8 * n = j by omega]
    · show (if (8 * n + j) / 8 = n then szL l x (8 * n + j - 8 * n) else m.E (8 * n + j)) = _
      rw [if_pos (hdiv j (jlt j hj)), show 8 * n + j - 8 * n = j by omega]
end
end Go.Eng
/- ENGINE, part M: equality of structs; the call; every operation. -/
namespace Go.Eng
open Go Go.RowKit
/-! ### equality of structs -/
def eqVal : Ty → Value → Value → Option Bool
  | .int _, .int j a, .int k b => if j = k then some (a == b) else none
  | .bool, .bool a, .bool b => some (a == b)
  | .str, .string a, .string b => some (a.toList == b.toList)
  | _, _, _ => none
def eqVals : List Ty → List Value → List Value → Option Bool
  | [], [], [] => some true
  | k :: ks, u :: us, v :: vs => match eqVal k u v, eqVals ks us vs with
    | some a, some b => some (a && b)
    | _, _ => none
  | _, _, _ => none
theorem eqVals_len : ∀ {ks : List Ty} {us vs : List Value} {b : Bool}, eqVals ks us vs = some b → us.length = ks.length ∧ vs.length = ks.length
  | [], [], [], _, _ => ⟨rfl, rfl⟩
  | k :: ks, u :: us, v :: vs, b, h => by
    simp only [eqVals] at h
    split at h
    · rename_i a c h1 h2
      obtain ⟨e1, e2⟩ := eqVals_len h2
      exact ⟨by rw [List.length_cons, List.length_cons, e1], by rw [List.length_cons, List.length_cons, e2]⟩
    · cases h
  | [], _ :: _, _, _, h => by simp [eqVals] at h
  | [], [], _ :: _, _, h => by simp [eqVals] at h
  | _ :: _, [], _, _, h => by simp [eqVals] at h
  | _ :: _, _ :: _, [], _, h => by simp [eqVals] at h
theorem eqVals_append : ∀ {ks ks' : List Ty} {us vs : List Value} {b : Bool}, eqVals (ks ++ ks') us vs = some b →
    ∃ b1 b2, eqVals ks (us.take ks.length) (vs.take ks.length) = some b1 ∧ eqVals ks' (us.drop ks.length) (vs.drop ks.length) = some b2 ∧ b = (b1 && b2)
  | [], ks', us, vs, b, h => ⟨true, b, rfl, h, rfl⟩
  | k :: ks, ks', u :: us, v :: vs, b, h => by
    simp only [List.cons_append, eqVals] at h
    split at h
    · rename_i a c h1 h2
      simp only [Option.some.injEq] at h
      obtain ⟨b1, b2, h3, h4, h5⟩ := eqVals_append h2
      refine ⟨a && b1, b2, by simp [eqVals, h1, h3], h4, ?_⟩
      rw [← h, h5, Bool.and_assoc]
    · cases h
  | _ :: _, _, [], _, _, h => by simp [eqVals] at h
  | _ :: _, _, _ :: _, [], _, h => by simp [eqVals] at h
theorem eqCell_val {q : Vw} {k : Ty} {x y : AV} {u v : Value} {a : Bool} (h : eqCell k x y = some a) (e1 : V1 q x u) (e2 : V1 q y v) : eqVal k u v = some a := by
  unfold eqCell at h
  split at h
  · rename_i _ j p k' q'
    split at h
    · rename_i hk
      have hk' := Ty.kindNo_inj hk
      subst hk'
      have c1 : u = .int j p := (List.cons.inj (show [u] = [.int j p] from e1)).1
      have c2 : v = .int j q' := (List.cons.inj (show [v] = [.int j q'] from e2)).1
      rw [c1, c2]
      simp only [eqVal, if_true]
      exact h
    · cases h
  · rename_i p q'
    have c1 : u = .bool p := (List.cons.inj (show [u] = [.bool p] from e1)).1
    have c2 : v = .bool q' := (List.cons.inj (show [v] = [.bool q'] from e2)).1
    rw [c1, c2]; exact h
  · rename_i p q'
    have c1 : u = .string p := (List.cons.inj (show [u] = [.string p] from e1)).1
    have c2 : v = .string q' := (List.cons.inj (show [v] = [.string q'] from e2)).1
    rw [c1, c2]; exact h
  · cases h
theorem eqCells_vals {q : Vw} : ∀ {ks : List Ty} {xs ys : List AV} {us vs : List Value} {b : Bool}, eqCells ks xs ys = some b → all2 (V1 q) xs us → all2 (V1 q) ys vs → eqVals ks us vs = some b
  | [], [], [], [], [], b, h, _, _ => h
  | k :: ks, x :: xs, y :: ys, u :: us, v :: vs, b, h, h1, h2 => by
    unfold eqCells at h
    split at h
    · rename_i heq; cases heq
    · rename_i heq1 heq2 heq3
      cases heq1; cases heq2; cases heq3
      have := h1.2; have := h2.2
      cases us <;> cases vs <;> first | (exact (h1.2).elim) | (exact (h2.2).elim) | skip
      simp [eqVals, eqCell_val h h1.1 h2.1]
    · rename_i heq1 heq2 heq3
      cases heq1; cases heq2; cases heq3
      split at h
      · rename_i a c h3 h4
        simp only [Option.some.injEq] at h
        simp [eqVals, eqCell_val h3 h1.1 h2.1, eqCells_vals h4 h1.2 h2.2, h]
      · cases h
    · cases h
  | [], [], [], _ :: _, _, _, _, h, _ => h.elim
  | [], [], [], [], _ :: _, _, _, _, h => h.elim
  | _ :: _, _ :: _, _ :: _, [], _, _, _, h, _ => h.elim
  | _ :: _, _ :: _, _ :: _, _ :: _, [], _, _, _, h => h.elim
  | [], [], _ :: _, _, _, _, h, _, _ => by simp [eqCells] at h
  | [], _ :: _, _, _, _, _, h, _, _ => by simp [eqCells] at h
  | [_], [], _, _, _, _, h, _, _ => by simp [eqCells] at h
  | _ :: _ :: _, [], _, _, _, _, h, _, _ => by simp [eqCells] at h
  | [_], [_], [], _, _, _, h, _, _ => by simp [eqCells] at h
  | [_], _ :: _ :: _, [], _, _, _, h, _, _ => by simp [eqCells] at h
  | _ :: _ :: _, _ :: _, [], _, _, _, h, _, _ => by simp [eqCells] at h
section
variable {P : Program}
def shapeV (P : Program) (t : TypeId) (us : List Value) : Value := if isAggT P t then .agg us.toArray else us.headD undef
def eqStep (P : Program) (n : Nat) : Option (List Ty) → Field → Option (List Ty) := fun a f => match a, plainEq P n f.type with
  | some l, some m => if Nat.beq f.offset l.length && f.name != "_" && Nat.beq (szOf P f.type) m.length && Nat.blt 0 m.length then some (l ++ m) else none
  | _, _ => none
theorem eqStep_none (n : Nat) : ∀ fs : List Field, fs.foldl (eqStep P n) none = none
  | [] => rfl
  | f :: fs => eqStep_none n fs
theorem plainEq_one {k : Nat} {t : TypeId} {m : List Ty} (h : plainEq P k t = some m) (hA : isAggT P t = false) : m.length = 1 ∧ isOneT P t = true := by
  cases k with
  | zero => cases h
  | succ k =>
    simp only [plainEq] at h
    unfold isAggT at hA
    unfold isOneT
    split at h
    · rename_i hu; rw [hu]; simp only [Option.some.injEq] at h; subst h; exact ⟨rfl, rfl⟩
    · rename_i hu; rw [hu]; simp only [Option.some.injEq] at h; subst h; exact ⟨rfl, rfl⟩
    · rename_i hu; rw [hu]; simp only [Option.some.injEq] at h; subst h; exact ⟨rfl, rfl⟩
    · rename_i fs hu; rw [hu] at hA; cases hA
    · cases h
theorem run_part {t : TypeId} {m off : Nat} {us : List Value} (hA : isAggT P t = false → isOneT P t = true ∧ m = 1) (hs : szOf P t = m) (hle : off + m ≤ us.length) (h0 : 0 < m) (w : World) :
    (part t us.toArray off).run P w = .ok (shapeV P t ((us.drop off).take m)) w := by
  cases hAg : isAggT P t with
  | true =>
    have hb : Nat.blt 0 (szOf P t) = true := by rw [hs]; exact Nat.ble_eq_true_of_le h0
    simp only [part, Sem.run_bind, run_isAgg_yes hAg, Result.andThen_ok, if_true, run_sizeOf hb, Sem.run_pure, shapeV, hAg, hs]
    congr 2
    rw [List.extract_toArray, List.extract_eq_take_drop]
    congr 1
    congr 1
    omega
  | false =>
    obtain ⟨h1, rfl⟩ := hA hAg
    have hlt : off < us.length := by omega
    simp only [part, Sem.run_bind, run_isAgg_no h1, Result.andThen_ok, Bool.false_eq_true, if_false, List.getElem?_toArray, List.getElem?_eq_getElem hlt, Sem.run_pure, shapeV, hAg]
    rw [List.drop_eq_getElem_cons hlt]
    rfl
theorem equal_plain : ∀ (k : Nat) (t : TypeId) (m : List Ty), plainEq P k t = some m → ∀ d, k ≤ d → ∀ (us vs : List Value) (b : Bool), eqVals m us vs = some b → ∀ w, (Op.equalIn d t (shapeV P t us) (shapeV P t vs)).run P w = .ok b w := by
  intro k
  induction k with
  | zero => intro t m h; cases h
  | succ k ih =>
    intro t m h d hd us vs b he w
    obtain ⟨d, rfl⟩ : ∃ e, d = e + 1 := ⟨d - 1, by omega⟩
    simp only [plainEq] at h
    have scalar : ∀ κ : Ty, isAggT P t = false → m = [κ] → (∀ u v, eqVal κ u v = some b → (Op.equalIn (d + 1) t u v).run P w = .ok b w) → (Op.equalIn (d + 1) t (shapeV P t us) (shapeV P t vs)).run P w = .ok b w := by
      intro κ hA hm hrun
      subst hm
      obtain ⟨hu, hv⟩ := eqVals_len he
      match us, vs, hu, hv with
      | [u], [v], _, _ =>
        simp only [shapeV, hA, Bool.false_eq_true, if_false, List.headD_cons]
        simp only [eqVals] at he
        split at he
        · rename_i x y h1 h2
          simp only [Option.some.injEq] at he h2
          subst h2
          rw [Bool.and_true] at he
          subst he
          exact hrun u v h1
        · cases he
    split at h
    · rename_i kk hut
      simp only [Option.some.injEq] at h
      refine scalar _ (by simp [isAggT, hut]) h.symm (fun u v h1 => ?_)
      cases u <;> cases v <;> simp only [eqVal, reduceCtorEq] at h1
      split at h1
      · rename_i hk; subst hk
        simp only [Option.some.injEq] at h1
        rw [run_equalIn_int w d t _ kk _ _ hut, h1]
      · cases h1
    · rename_i hut
      simp only [Option.some.injEq] at h
      refine scalar _ (by simp [isAggT, hut]) h.symm (fun u v h1 => ?_)
      cases u <;> cases v <;> simp only [eqVal, reduceCtorEq, Option.some.injEq] at h1
      rw [run_equalIn_bool' w d t _ _ hut, h1]
    · rename_i hut
      simp only [Option.some.injEq] at h
      refine scalar _ (by simp [isAggT, hut]) h.symm (fun u v h1 => ?_)
      cases u <;> cases v <;> simp only [eqVal, reduceCtorEq, Option.some.injEq] at h1
      rw [run_equalIn_string w d t _ _ hut, h1]
    · rename_i fs hut
      split at h
      · cases h
      · rename_i hst
        have hA : isAggT P t = true := by simp [isAggT, hut]
        have hfo : P.fieldsOf t = fs := by simp [Program.fieldsOf, hut]
        simp only [shapeV, hA, if_true]
        rw [run_equalIn_struct w d t us.toArray vs.toArray (by rw [hfo]; exact hut) (by simpa using hst), hfo]
        obtain ⟨hul, hvl⟩ := eqVals_len he
        -- the fields, one by one
        have key : ∀ (l : List Field) (done rest : List Ty), l.foldl (eqStep P k) (some done) = some (done ++ rest) → ∀ b, eqVals rest (us.drop done.length) (vs.drop done.length) = some b →
            (done ++ rest).length = m.length → (Op.eqFields d us.toArray vs.toArray l).run P w = .ok b w := by
          intro l
          induction l with
          | nil =>
            intro done rest hf b hb _
            simp only [List.foldl_nil, Option.some.injEq] at hf
            have : rest = [] := by simpa using hf.symm
            subst this
            obtain ⟨e1, e2⟩ := eqVals_len hb
            rw [List.eq_nil_of_length_eq_zero e1, List.eq_nil_of_length_eq_zero e2] at hb
            have hb' : true = b := by simpa [eqVals] using hb
            subst hb'
            rfl
          | cons f l ihl =>
            intro done rest hf b hb hlen
            rw [List.foldl_cons] at hf
            cases hs : eqStep P k (some done) f with
            | none => rw [hs, eqStep_none] at hf; cases hf
            | some done' =>
              rw [hs] at hf
              unfold eqStep at hs
              split at hs
              · rename_i l' mf hl' hmf
                simp only [Option.some.injEq] at hl'
                subst hl'
                split at hs
                · rename_i hc
                  simp only [Option.some.injEq] at hs
                  subst hs
                  simp only [Bool.and_eq_true] at hc
                  obtain ⟨⟨⟨c1, c2⟩, c3⟩, c4⟩ := hc
                  have hoff := Nat.eq_of_beq_eq_true c1
                  have hsz := Nat.eq_of_beq_eq_true c3
                  have hpos : 0 < mf.length := Nat.le_of_ble_eq_true c4
                  -- what is left begins with this field's cells
                  have hpre : ∀ (l : List Field) (x y : List Ty), l.foldl (eqStep P k) (some x) = some y → ∃ z, y = x ++ z := by
                    intro l
                    induction l with
                    | nil => intro x y h; simp only [List.foldl_nil, Option.some.injEq] at h; exact ⟨[], by simp [h]⟩
                    | cons g l ih2 =>
                      intro x y h
                      rw [List.foldl_cons] at h
                      cases hg : eqStep P k (some x) g with
                      | none => rw [hg, eqStep_none] at h; cases h
                      | some x' =>
                        rw [hg] at h
                        obtain ⟨z, rfl⟩ := ih2 x' y h
                        unfold eqStep at hg
                        split at hg
                        · rename_i l1 m1 hl1 _
                          simp only [Option.some.injEq] at hl1
                          subst hl1
                          split at hg
                          · simp only [Option.some.injEq] at hg
                            subst hg
                            exact ⟨m1 ++ z, by rw [List.append_assoc]⟩
                          · cases hg
                        · cases hg
                  obtain ⟨rest', hrest⟩ := hpre l _ _ hf
                  have hrest' : rest = mf ++ rest' := by
                    rw [List.append_assoc] at hrest
                    exact List.append_cancel_left hrest
                  subst hrest'
                  obtain ⟨b1, b2, h3, h4, h5⟩ := eqVals_append hb
                  rw [List.drop_drop] at h4
                  rw [List.drop_drop] at h4
                  have hle : done.length + mf.length ≤ m.length := by rw [← hlen]; simp only [List.length_append]; omega
                  have hAf : isAggT P f.type = false → isOneT P f.type = true ∧ mf.length = 1 := fun hAf => ⟨(plainEq_one hmf hAf).2, (plainEq_one hmf hAf).1⟩
                  have p1 := run_part (P := P) (t := f.type) (us := us) (off := f.offset) hAf hsz (by omega) hpos w
                  have p2 := run_part (P := P) (t := f.type) (us := vs) (off := f.offset) hAf hsz (by omega) hpos w
                  rw [hoff] at p1 p2
                  have p3 := ih f.type mf hmf d (by omega) _ _ b1 h3 w
                  simp only [Op.eqFields]
                  rw [if_pos (by simpa using c2), Sem.run_bind, hoff, p1, Result.andThen_ok, Sem.run_bind, p2, Result.andThen_ok, Sem.run_bind, p3, Result.andThen_ok]
                  cases b1 with
                  | false => rw [h5]; rfl
                  | true =>
                    rw [h5]
                    simp only [Bool.not_true, Bool.false_eq_true, if_false, Bool.true_and]
                    exact ihl (done ++ mf) rest' (by rw [hf, List.append_assoc]) b2 (by rw [List.length_append]; exact h4) (by rw [← hlen, List.append_assoc])
                · cases hs
              · cases hs
        exact key fs.toList [] m h b (by simpa using he) rfl
    · cases h
end
section
variable {R : Type} {P : Program} {w0 : World} {Nin : Env} {D : Nat → Prop} {s : St} {m : Mp} {a : Act} {w : World} {o : Oper} {K : St → Option R} {r : R} {Q : Exit → Act → World → Prop}
theorem snd_aggEq {op : BinOp} {t yt : TypeId} {x y : Operand} (hop : o.op = .binOp op t x y yt) (neg : Bool) (xs ys : List AV) (hx0 : s.ev x = .agg xs) (hy0 : s.ev y = .agg ys) (hneg : op = if neg then .neq else .eql)
    (h : aggEq P neg t xs ys s o.dst K = some r) (hi : Inv w0 Nin D s m a w) : o.wp P a w (Post K r w0 Nin D) Q := by
  have hx := hi.ev x
  have hy := hi.ev y
  rw [hx0] at hx
  rw [hy0] at hy
  obtain ⟨us, hux, hu2, _⟩ := (show ∃ vs, _ ∧ _ ∧ _ from hx)
  obtain ⟨vs, hvy, hv2, _⟩ := (show ∃ vs, _ ∧ _ ∧ _ from hy)
  unfold aggEq at h
  split at h
  · rename_i ks hks
    split at h
    · rename_i b hb
      split at h
      · rename_i hc
        rw [Bool.and_eq_true] at hc
        have hrun := equal_plain 8 t ks hks 10000 (by omega) us vs b (eqCells_vals hb hu2 hv2) w
        simp only [shapeV, hc.1, if_true] at hrun
        refine quiet_fin (x := .v .bool (bif neg then !b else b)) (v := .bool (bif neg then !b else b)) ?_ rfl h hi
        simp only [execOp, hop]
        refine run_v ?_
        rw [hux, hvy, Sem.run_bind, run_eqGuard_agg w op t x y us.toArray vs.toArray (by simpa using hc.2), Result.andThen_ok]
        subst hneg
        cases neg with
        | true => rw [if_pos rfl, run_neq_struct, hrun]; rfl
        | false => rw [if_neg (by decide), run_eql_struct, hrun]; rfl
      · cases h
    · cases h
  · cases h
end
end Go.Eng
/- ENGINE, part N: the call; every operation under one roof. -/
namespace Go.Eng
open Go Go.RowKit
theorem V_of_V2 {q : Vw} {x : AV} {v : Value} (h : V2 q x v) : V q x v := by
  cases x with
  | tup _ => exact h.elim
  | _ => exact h
section
variable {R : Type} {Γ : Ctx} {w0 : World} {Nin : Env} {D : Nat → Prop} {s : St} {m : Mp} {a : Act} {w : World} {o : Oper} {K : St → Option R} {r : R} {Q : Exit → Act → World → Prop}
theorem res_step (h : Inv w0 Nin D s m a w) {n : Nat} (hn : ¬ D n) {w' : World} (hb : Below w.heap.size w w') (sh : Sh) (hsm : sh.small = true) {N : Nat → Prop} (hN : sh.fresh = true ∨ ∀ b, N b → (vw w0 Nin s m w).N b) {x : sh.den} {v : Value}
    (hr : ResV w w' N sh x v) : ∃ m', Inv w0 Nin (fun k => D k ∨ k = n) { s with live := sh.bits (8 * n) s.live } m' a w' ∧ V (vw w0 Nin { s with live := sh.bits (8 * n) s.live } m' w') (mkAV (8 * n) sh x) v := by
  cases sh with
  | one ow t =>
    obtain ⟨h1, h2⟩ := hr
    obtain ⟨m', hI, hV⟩ := resL_step (l := [(ow, t)]) (x := (x, ())) (vs := [v]) h hn hb (by simp) (hN.imp (fun h => by simpa [Sh.fresh] using h) id) h1 h2
    exact ⟨m', hI, V_of_V2 hV.1⟩
  | tup l =>
    obtain ⟨vs, hv, h1, h2⟩ := hr
    obtain ⟨m', hI, hV⟩ := resL_step (l := l) (x := x) (vs := vs) h hn hb (Nat.le_of_ble_eq_true hsm) (hN.imp (fun h => by simpa [Sh.fresh] using h) id) h1 h2
    exact ⟨m', hI, vs, hv, hV⟩
theorem bind_some {α β : Type} {x : Option α} {f : α → Option β} {b : β} (h : x.bind f = some b) : ∃ y, x = some y ∧ f y = some b := by
  cases x with
  | none => cases h
  | some y => exact ⟨y, rfl, h⟩
theorem resN_ok (sh : Sh) (N : Nat → Prop) : sh.fresh = true ∨ ∀ b, resN sh (if sh.freshA = true then fun _ => True else N) b → N b := by
  unfold resN Sh.freshA
  cases sh.frs with
  | true => exact .inr fun b h => by rw [if_pos rfl] at h; exact h.elim
  | false =>
    cases sh.fresh with
    | true => exact .inl rfl
    | false => exact .inr fun b h => by simpa using h
theorem snd_call {n : Nat} (hn : ¬ D n) (hΓ : CallsOk Γ) {c : Call} {fo : Operand} {f : FuncId} (hop : o.op = .call c) (hc : c.callee = .value fo) (hf : s.ev fo = .fn f [])
    (h : callA Γ (8 * n) f ((c.args.toList).map s.ev) c.argTypes.toList s o.dst K = some r) (hi : Inv w0 Nin D s m a w) : o.wp Γ.P a w (Post K r w0 Nin (fun k => D k ∨ k = n)) Q := by
  unfold callA at h
  split at h
  · rename_i vs hvs
    split at h
    · rename_i hcond
      rw [Bool.and_eq_true] at hcond
      obtain ⟨res, hcall, hK⟩ := bind_some h
      have hargs := byVals_V hi c.args.toList c.argTypes.toList vs hvs hcond.1
      have hfv : a.eval fo = .func (.func f) #[] #[] := by
        have := hi.ev fo
        rw [hf] at this
        obtain ⟨vs, he, h2⟩ := (show ∃ vs : List Value, _ ∧ _ from this)
        cases vs with
        | nil => exact he
        | cons _ _ => exact h2.elim
      rcases hΓ.ok f vs res hcall with ⟨⟨fn, hfn, hname, hbody⟩, hcon⟩ | ⟨_, hext⟩
      case inr =>
        obtain ⟨v, hv, hres⟩ := hext w (if (Γ.sh f).freshA = true then fun _ => True else (vw w0 Nin s m w).N) (c.args.toList.map a.eval) hi.okNow hargs
        have hrun : (execOp a.eval o).run Γ.P w = .ok (.value v) w := by
          simp only [execOp, hop, resolve, hc, hfv, Deferred.ofValue, Sem.run_bind, Sem.run_pure, Result.andThen_ok, invoke]
          have e : (c.args.toList.map a.eval).toArray = c.args.map a.eval := by rw [← Array.toList_inj]; simp
          rw [e] at hv
          simpa using hv
        obtain ⟨m', hI, hV⟩ := res_step hi hn (Below.refl _ _) (Γ.sh f) hcond.2 (resN_ok _ _) hres
        exact wp_value hrun ⟨_, m', hK, hI.put o.dst hV⟩
      have hcalls := hcon w (if (Γ.sh f).freshA = true then fun _ => True else (vw w0 Nin s m w).N) (c.args.toList.map a.eval) hi.okNow hargs
      have hname' : ¬ fn.name = "runtime.NumGoroutine" := by simpa using hname
      have hbody' : fn.body.isNone = false := by cases hb : fn.body with
        | none => rw [hb] at hbody; cases hbody
        | some _ => rfl
      have hrun : (execOp a.eval o).run Γ.P w = .ok (.enter f (c.args.toList.map a.eval).toArray) w := by
        simp only [execOp, hop, resolve, hc, hfv, Deferred.ofValue, Sem.run_bind, Sem.run_pure, Result.andThen_ok, invoke, callFunc, run_program]
        rw [hfn]
        simp only
        rw [if_neg (by simpa using hname'), if_neg (by simp [hbody'])]
        simp
        rw [← Array.toList_inj]
        simp
      unfold Oper.wp
      rw [hrun]
      show Calls Γ.P f _ w _
      refine hcalls.mono ?_
      rintro e w' ⟨v, rfl, hbelow, hres⟩
      obtain ⟨m', hI, hV⟩ := res_step hi hn hbelow (Γ.sh f) hcond.2 (resN_ok _ _) hres
      exact ⟨_, m', hK, hI.put o.dst hV⟩
    · cases h
  · cases h
theorem Post.wider {D' : Nat → Prop} (h : ∀ k, D k → D' k) {a : Act} {w : World} (hp : Post K r w0 Nin D a w) : Post K r w0 Nin D' a w := by
  obtain ⟨s', m', h1, h2⟩ := hp
  exact ⟨s', m', h1, h2.wider h⟩
theorem aOp_sound {n : Nat} (hn : ¬ D n) (hΓ : CallsOk Γ) (h : aOp Γ n o s K = some r) (hi : Inv w0 Nin D s m a w) : o.wp Γ.P a w (Post K r w0 Nin (fun k => D k ∨ k = n)) Q := by
  have up : o.wp Γ.P a w (Post K r w0 Nin D) Q → o.wp Γ.P a w (Post K r w0 Nin (fun k => D k ∨ k = n)) Q :=
    Oper.wp_mono (fun _ _ hp => hp.wider (fun _ hk => .inl hk))
  cases hop : o.op with
  | move x => simp only [aOp, hop] at h; exact up (quiet_fin (v := a.eval x) (by simp [execOp, hop]) (hi.ev x) h hi)
  | assign x => simp only [aOp, hop] at h; exact up (quiet_fin (v := a.eval x) (by simp [execOp, hop]) (hi.ev x) h hi)
  | pick c x y => simp only [aOp, hop] at h; exact up (snd_pick hop h hi)
  | box T x => simp only [aOp, hop] at h; exact snd_box hn hop h hi
  | alloc T => simp only [aOp, hop] at h; exact snd_alloc hn hop h hi
  | load T x => simp only [aOp, hop] at h; exact up (snd_load hop h hi)
  | store T x y => simp only [aOp, hop] at h; exact up (snd_store hop h hi)
  | nilCheck x => simp only [aOp, hop] at h; exact up (snd_nilCheck hop h hi)
  | fieldAddr S x f => simp only [aOp, hop] at h; exact up (snd_fieldAddr hop h hi)
  | field S x f => simp only [aOp, hop] at h; exact up (snd_field hop h hi)
  | indexAddr t x ix => simp only [aOp, hop] at h; exact up (snd_indexAddr hop h hi)
  | index t x ix => simp only [aOp, hop] at h; exact up (snd_index hop h hi)
  | slice t x lo hi' mx =>
    simp only [aOp, hop] at h
    refine up ?_
    split at h
    · rename_i l h' hl hh hu
      split at h
      · rename_i b hb
        exact snd_sliceStr hop hu hb hl hh h hi
      · cases h
    · rename_i l h' et hl hh hu
      split at h
      · rename_i e ys hsl
        split at h
        · rename_i hok
          exact snd_sliceSl hop hu hsl hok hl hh h hi
        · cases h
      · split at h
        · rename_i hn
          rw [Bool.and_eq_true] at hn
          have hx : s.ev x = .nilS := by
            have := hn.1
            revert this
            generalize s.ev x = X
            cases X <;> simp [isNil]
          exact snd_sliceNil hop hu hx hn.2 hl hh h hi
        · cases h
    · cases h
  | makeSlice t l c => simp only [aOp, hop] at h; exact snd_makeSlice hn hop h hi
  | buildSlice t len parts => simp only [aOp, hop] at h; exact snd_buildSlice hn hop h hi
  | build t parts => simp only [aOp, hop] at h; exact up (snd_build hop h hi)
  | extract x i => simp only [aOp, hop] at h; exact up (snd_extract hop h hi)
  | makeFunc fn first caps => simp only [aOp, hop] at h; exact up (snd_makeFunc hop h hi)
  | binOp op t x y yt => simp only [aOp, hop] at h; exact up (snd_bin hop h (fun neg xs ys h1 h2 h3 h4 => snd_aggEq hop neg xs ys h1 h2 h3 h4 hi) hi)
  | unOp op t x => simp only [aOp, hop] at h; exact up (snd_un hop h hi)
  | convert src dst x =>
    cases hss : sameSl Γ.P src dst with
    | true =>
      simp only [aOp, hop, hss, cond_true] at h
      exact up (snd_convS hop hss h hi)
    | false =>
    by_cases hsb : ∃ b et, s.ev x = .v .str b ∧ Γ.P.underlying src = some .string ∧ Γ.P.underlying dst = some (.slice et)
    · obtain ⟨b, et, h1, h2, h3⟩ := hsb
      simp only [aOp, hop, hss, cond_false, h1, h2, h3] at h
      exact up (snd_strBytes hop h1 h2 h3 h hi)
    · exact up (snd_conv hop (by simp only [aOp, hop, hss, cond_false] at h ⊢; exact h) hss (fun b et h1 h2 h3 => hsb ⟨b, et, h1, h2, h3⟩) hi)
  | call c =>
    simp only [aOp, hop] at h
    split at h
    · rename_i f hc
      split at h
      · rename_i f' hf
        exact snd_call hn hΓ hop hc hf h hi
      · cases h
    · rename_i hc
      split at h
      · rename_i x t ha ht
        exact up (snd_len hop hc ha ht h hi)
      · cases h
    · rename_i hc
      split at h
      · rename_i x y ha
        exact up (snd_mm false hop hc ha h hi)
      · cases h
    · rename_i hc
      split at h
      · rename_i x y ha
        exact up (snd_mm true hop hc ha h hi)
      · cases h
    · rename_i hc
      split at h
      · rename_i x y t tx ha ht
        exact snd_append hn hop hc ha ht h hi
      · cases h
    · cases h
  | _ => simp [aOp, hop] at h
theorem args_V (hi : Inv w0 Nin D s m a w) : ∀ l : List Operand, all2 (V (vw w0 Nin s m w)) (l.map s.ev) (l.map a.eval)
  | [] => trivial
  | x :: l => ⟨hi.ev x, args_V hi l⟩
/-- A call that is reckoned inside. -/
theorem caps_V : ∀ {caps : List AV} {vs : List Value}, all2 (Vp (vw w0 Nin s m w)) caps vs → all2 (V (vw w0 Nin s m w)) caps vs
  | [], [], _ => trivial
  | x :: caps, v :: vs, ⟨h0, h1⟩ => ⟨by cases x <;> first | exact h0 | exact h0.elim, caps_V h1⟩
theorem inlOf_spec {f : FuncId} {caps : List AV} {c : Call} (h : inlOf s o = some (f, caps, c)) (hi : Inv w0 Nin D s m a w) :
    ∃ fo vs, o.op = .call c ∧ c.callee = .value fo ∧ a.eval fo = .func (.func f) #[] vs.toArray ∧ all2 (V (vw w0 Nin s m w)) caps vs := by
  unfold inlOf at h
  split at h
  · rename_i c' hop
    split at h
    · rename_i f' hc
      simp only [Option.some.injEq, Prod.mk.injEq] at h
      obtain ⟨rfl, rfl, rfl⟩ := h
      exact ⟨.func f', [], hop, hc, rfl, trivial⟩
    · rename_i t hc
      split at h
      · rename_i f' caps' ht
        simp only [Option.some.injEq, Prod.mk.injEq] at h
        obtain ⟨rfl, rfl, rfl⟩ := h
        have hv := hi.ev (.tmp t)
        have hv' : V (vw w0 Nin s m w) (s.t.getD t .bad) (a.eval (.tmp t)) := hv
        rw [ht] at hv'
        obtain ⟨vs, he, h2⟩ := (show ∃ vs : List Value, _ ∧ _ from hv')
        exact ⟨.tmp t, vs, hop, hc, he, caps_V h2⟩
      · cases h
    · cases h
  · cases h
theorem snd_inl (hΓ : CallsOk Γ) {f : FuncId} {caps : List AV} {c : Call} (hI : inlOf s o = some (f, caps, c)) {x : AV} {s' : St} (h : Γ.inl (AV × St) f (c.args.toList.map s.ev ++ caps) s (fun v s' => some (v, s')) = some (x, s'))
    (hi : Inv w0 Nin (fun k => k < s.bx.length) s m a w) {Kp : Act → World → Prop} (hK : ∀ a' w', (∃ m', Inv w0 Nin (fun k => k < s'.bx.length) (s'.put o.dst x) m' a' w') → Kp a' w') : o.wp Γ.P a w Kp Q := by
  obtain ⟨fo, vs, hop, hc, hfv, hcv⟩ := inlOf_spec hI hi
  obtain ⟨⟨fn, hfn, hname, hbody⟩, hcon⟩ := hΓ.inl f _ s x s' h
  have hcalls := hcon w0 Nin m a w hi (c.args.toList.map a.eval ++ vs) (all2_append (args_V hi c.args.toList) hcv)
  have hname' : ¬ fn.name = "runtime.NumGoroutine" := by simpa using hname
  have hbody' : fn.body.isNone = false := by cases hb : fn.body with
    | none => rw [hb] at hbody; cases hbody
    | some _ => rfl
  have hrun : (execOp a.eval o).run Γ.P w = .ok (.enter f (c.args.toList.map a.eval ++ vs).toArray) w := by
    simp only [execOp, hop, resolve, hc, hfv, Deferred.ofValue, Sem.run_bind, Sem.run_pure, Result.andThen_ok, invoke, callFunc, run_program]
    rw [hfn]
    simp only
    rw [if_neg (by simpa using hname'), if_neg (by simp [hbody'])]
    simp
  unfold Oper.wp
  rw [hrun]
  show Calls Γ.P f _ w _
  refine hcalls.mono ?_
  rintro e w' ⟨v, rfl, m', hI', hV⟩
  exact hK _ _ ⟨m', hI'.put o.dst hV⟩
theorem goInl_nat {R : Type} (hΓ : CallsOk Γ) {s : St} {K : St → Option R} : goInl Γ o s K = (goInl Γ o s some).bind K := by
  unfold goInl
  split
  · rw [hΓ.nat R, hΓ.nat St, Option.bind_assoc]
    rfl
  · rfl
theorem aInl_nat {R : Type} (hΓ : CallsOk Γ) {ops : Array Oper} {K : St → Option R} : aInl Γ ops o s K = (aInl Γ ops o s some).bind K := by
  unfold aInl
  split
  · exact goInl_nat hΓ
  · split
    · rfl
    · split
      · rename_i b _
        cases (b : Bool) == _ with
        | true => exact goInl_nat hΓ
        | false => rfl
      · rfl
      · rfl
end
end Go.Eng
/- ENGINE, part O: on what an operation hangs, and what it turns. -/
namespace Go.Eng
open Go Go.RowKit
section
variable {R : Type} {Γ : Ctx} {n : Nat} {o : Oper} {s : St} {K : St → Option R}
theorem fin1_nat (d : Option Tmp) (v : Option Value) : fin1 s d v K = (fin1 s d v some).bind K := by
  unfold fin1; repeat' split
  all_goals rfl
theorem binA_nat (P : Program) (op : BinOp) (t : TypeId) (x y : AV) (d : Option Tmp) : binA P op t x y s d K = (binA P op t x y s d some).bind K := by
  unfold binA binPlain aggEq
  split <;> (repeat' split) <;> first | rfl | exact fin1_nat _ _ | (rw [Option.bind_assoc]; rfl)
theorem cutA_nat {n : Nat} {lo hi : Option Int} {k : Nat → Nat → St} : cutA n lo hi (fun l h => K (k l h)) = (cutA n lo hi (fun l h => some (k l h))).bind K := by
  unfold cutA; repeat' split
  all_goals rfl
theorem sliceA_nat (x : AV) (lo hi : Option Int) (d : Option Tmp) : sliceA x lo hi s d K = (sliceA x lo hi s d some).bind K := by
  unfold sliceA; split <;> first | rfl | exact cutA_nat
theorem mmA_nat (mx : Bool) (x y : AV) (d : Option Tmp) : mmA mx x y s d K = (mmA mx x y s d some).bind K := by
  unfold mmA; repeat' split
  all_goals first | rfl | (rw [Option.bind_assoc]; rfl)
theorem convS_nat {P : Program} (dst : TypeId) (x : AV) (d : Option Tmp) : convS P dst x s d K = (convS P dst x s d some).bind K := by
  unfold convS; repeat' split
  all_goals rfl
theorem aOp_nat : aOp Γ n o s K = (aOp Γ n o s some).bind K := by
  cases hop : o.op with
  | binOp op t x y yt => simp only [aOp, hop]; exact binA_nat _ _ _ _ _ _
  | unOp op t x => simp only [aOp, hop]; repeat' split
                   all_goals first | rfl | exact fin1_nat _ _
  | convert a b x =>
    cases hss : sameSl Γ.P a b with
    | true => simp only [aOp, hop, hss, cond_true]; exact convS_nat _ _ _
    | false =>
      simp only [aOp, hop, hss, cond_false]
      repeat' split
      all_goals first | rfl | exact fin1_nat _ _ | (rw [Option.bind_assoc]; rfl)
  | slice t x lo hi mx => simp only [aOp, hop]; repeat' split
                          all_goals first | rfl | exact sliceA_nat _ _ _ _ | exact cutA_nat
  | indexAddr t x ix => simp only [aOp, hop, indexA]; repeat' split
                        all_goals rfl
  | pick c x y =>
    simp only [aOp, hop]
    split
    · rename_i b _; cases b <;> rfl
    · rfl
  | extract x i =>
    simp only [aOp, hop]
    split
    · split
      · rename_i y _; cases isTup y <;> rfl
      · rfl
    · rfl
  | call c =>
    simp only [aOp, hop, callA, appendA]
    repeat' split
    all_goals first | rfl | exact mmA_nat _ _ _ _ | (rw [Option.bind_assoc]; rfl)
  | _ => simp only [aOp, hop] <;> (repeat' split) <;> rfl
end
section
variable {Γ : Ctx} {n : Nat} {o : Oper} {s s1 : St}
theorem fin1_eff {d : Option Tmp} {v : Option Value} (h : fin1 s d v some = some s1) : ∃ z, s1 = s.put d z ∧ ∀ s' : St, fin1 s' d v some = some (s'.put d z) := by
  unfold fin1 at h ⊢
  split at h
  · split at h
    · rename_i hx
      exact ⟨_, (Option.some.inj h).symm, fun s' => by simp only [hx]⟩
    · cases h
  · cases h
theorem binA_eff {P : Program} {op : BinOp} {t : TypeId} {x y : AV} {d : Option Tmp} (h : binA P op t x y s d some = some s1) : ∃ z, s1 = s.put d z ∧ ∀ s' : St, binA P op t x y s' d some = some (s'.put d z) := by
  have plain : ∀ op, binPlain P op t x y s d some = some s1 → ∃ z, s1 = s.put d z ∧ ∀ s' : St, binPlain P op t x y s' d some = some (s'.put d z) := by
    intro op h
    unfold binPlain at h ⊢
    split at h
    · rename_i a b ha hb
      split at h
      · rename_i hc
        obtain ⟨z, h1, h2⟩ := fin1_eff h
        exact ⟨z, h1, fun s' => by simp only [ha, hb, if_pos hc]; exact h2 s'⟩
      · cases h
    · cases h
  have agg : ∀ neg xs ys, aggEq P neg t xs ys s d some = some s1 → ∃ z, s1 = s.put d z ∧ ∀ s' : St, aggEq P neg t xs ys s' d some = some (s'.put d z) := by
    intro neg xs ys h
    unfold aggEq at h ⊢
    split at h
    · rename_i ks hk
      split at h
      · rename_i b hb
        split at h
        · rename_i hc
          exact ⟨_, (Option.some.inj h).symm, fun s' => by simp only [hk, hb, if_pos hc]⟩
        · cases h
      · cases h
    · cases h
  have flt : ∀ {k j : FloatKind} {res : Option Nat}, (if Ty.fkNo k == Ty.fkNo j then res.bind fun r => some (s.put d (.v (.flt k) r)) else none) = some s1 → ∃ z, s1 = s.put d z ∧ ∀ s' : St, (if Ty.fkNo k == Ty.fkNo j then res.bind fun r => some (s'.put d (.v (.flt k) r)) else none) = some (s'.put d z) := by
    intro k j res h
    split at h
    · rename_i hk
      obtain ⟨n, hn, h2⟩ := obind_some h
      exact ⟨_, (Option.some.inj h2).symm, fun s' => by rw [if_pos hk, hn]; rfl⟩
    · cases h
  unfold binA at h ⊢
  split at h
  · exact flt h
  · exact flt h
  · exact flt h
  · exact flt h
  · split at h
    · split at h
      · cases h
      · rename_i h1 h2; exact ⟨_, (Option.some.inj h).symm, fun s' => by simp only [if_pos h1, if_neg h2]⟩
    · cases h
  · split at h
    · split at h
      · cases h
      · rename_i h1 h2; exact ⟨_, (Option.some.inj h).symm, fun s' => by simp only [if_pos h1, if_neg h2]⟩
    · cases h
  · split at h
    · cases h
    · rename_i h2; exact ⟨_, (Option.some.inj h).symm, fun s' => by simp only [if_neg h2]⟩
  · split at h
    · cases h
    · rename_i h2; exact ⟨_, (Option.some.inj h).symm, fun s' => by simp only [if_neg h2]⟩
  · split at h
    · cases h
    · rename_i h2; exact ⟨_, (Option.some.inj h).symm, fun s' => by simp only [if_neg h2]⟩
  · exact agg _ _ _ h
  · exact agg _ _ _ h
  · cases h
  · cases h
  · cases h
  · cases h
  · exact plain _ h
theorem cutA_eff {n : Nat} {lo hi : Option Int} {k : St → Nat → Nat → St} (h : cutA n lo hi (fun l h => some (k s l h)) = some s1) : ∃ l h', s1 = k s l h' ∧ ∀ s' : St, cutA n lo hi (fun l h => some (k s' l h)) = some (k s' l h') := by
  unfold cutA at h ⊢
  split at h
  · exact ⟨_, _, (Option.some.inj h).symm, fun s' => rfl⟩
  · split at h
    · rename_i hc; exact ⟨_, _, (Option.some.inj h).symm, fun s' => by simp only [if_pos hc]⟩
    · cases h
  · split at h
    · rename_i hc; exact ⟨_, _, (Option.some.inj h).symm, fun s' => by simp only [if_pos hc]⟩
    · cases h
  · split at h
    · rename_i hc; exact ⟨_, _, (Option.some.inj h).symm, fun s' => by simp only [if_pos hc]⟩
    · cases h
theorem sliceA_eff {x : AV} {lo hi : Option Int} {d : Option Tmp} (h : sliceA x lo hi s d some = some s1) : ∃ z, s1 = s.put d z ∧ ∀ s' : St, sliceA x lo hi s' d some = some (s'.put d z) := by
  unfold sliceA at h ⊢
  split at h
  · rename_i b
    obtain ⟨l, h', h1, h2⟩ := cutA_eff (k := fun s l h => s.put d (.v .str (b.extract l h))) h
    exact ⟨_, h1, h2⟩
  · rename_i e xs
    obtain ⟨l, h', h1, h2⟩ := cutA_eff (k := fun s l h => s.put d (.v (.sl e) ((List.take h xs).drop l))) h
    exact ⟨_, h1, h2⟩
  · rename_i e xs
    obtain ⟨l, h', h1, h2⟩ := cutA_eff (k := fun s l h => s.put d (.al e ((xs.take h).drop l))) h
    exact ⟨_, h1, h2⟩
  · rename_i _ _ e xs
    obtain ⟨l, h', h1, h2⟩ := cutA_eff (k := fun s l h => s.put d (.al e ((xs.take h).drop l))) h
    exact ⟨_, h1, h2⟩
  · cases h
theorem mmA_eff {mx : Bool} {x y : AV} {d : Option Tmp} (h : mmA mx x y s d some = some s1) : ∃ z, s1 = s.put d z ∧ ∀ s' : St, mmA mx x y s' d some = some (s'.put d z) := by
  unfold mmA at h ⊢
  split at h
  · split at h
    · split at h
      · rename_i hk
        obtain ⟨p, hp, h2⟩ := obind_some h
        exact ⟨_, (Option.some.inj h2).symm, fun s' => by rw [if_pos hk, hp]; rfl⟩
      · cases h
    · cases h
  · split at h
    · rename_i z hz
      exact ⟨_, (Option.some.inj h).symm, fun _ => rfl⟩
    · cases h
theorem indexA_eff {P : Program} {t : TypeId} {x ix : AV} {d : Option Tmp} (h : indexA P t x ix s d some = some s1) : ∃ z, s1 = s.put d z ∧ ∀ s' : St, indexA P t x ix s' d some = some (s'.put d z) := by
  unfold indexA at h ⊢
  split at h
  · rename_i h1 h2
    split at h
    · rename_i h3
      split at h
      · rename_i h4
        exact ⟨_, (Option.some.inj h).symm, fun s' => by simp only [h1, h2, if_pos h3]; rw [if_pos h4]⟩
      · cases h
    · cases h
  · cases h
theorem bitsL_or : ∀ (l : List (Option TypeId × Ty)) (id m : Nat), bitsL id m l = m ||| bitsL id 0 l
  | [], _, m => by simp [bitsL]
  | (o, t) :: l, id, m => by
    simp only [bitsL]
    split
    · rw [bitsL_or l (id + 1) (addBit m id), bitsL_or l (id + 1) (addBit 0 id)]
      simp [addBit, Nat.or_assoc]
    · exact bitsL_or l (id + 1) m
theorem bits_or (sh : Sh) (id m : Nat) : sh.bits id m = m ||| sh.bits id 0 := by
  cases sh with
  | one o t => simp only [Sh.bits]; split <;> simp [addBit]
  | tup l => exact bitsL_or l id m
/-- The bits that an operation sets, of those that make slices and use up none. -/
def maskOf (Γ : Ctx) (n : Nat) (o : Oper) : Nat := match o.op with
  | .makeSlice .. => 2 ^ (8 * n)
  | .buildSlice .. => 2 ^ (8 * n)
  | .call c => match c.callee with
    | .value (.func f) => (Γ.sh f).bits (8 * n) 0
    | _ => 0
  | _ => 0
theorem callA_eff {id : Nat} {f : FuncId} {args : List AV} {ts : List TypeId} {d : Option Tmp} (h : callA Γ id f args ts s d some = some s1) :
    ∃ z, s1 = St.put { s with live := s.live ||| (Γ.sh f).bits id 0 } d z ∧ ∀ s' : St, callA Γ id f args ts s' d some = some (St.put { s' with live := s'.live ||| (Γ.sh f).bits id 0 } d z) := by
  unfold callA at h ⊢
  split at h
  · rename_i vs h1
    split at h
    · rename_i h2
      obtain ⟨r, h3, h4⟩ := bind_some h
      refine ⟨mkAV id (Γ.sh f) r, ?_, fun s' => ?_⟩
      · rw [← bits_or]; exact (Option.some.inj h4).symm
      · rw [← bits_or]; simp only [h1, if_pos h2, h3]; rfl
    · cases h
  · cases h
def convF (P : Program) (src dst : TypeId) (X : AV) : Option AV := match X with
  | .v (.flt k) b => (match P.underlying dst with
    | some (.int j) => (match P.underlying src with
      | some (.float _) => (fToI k b j).map fun n => .v (.int j) n
      | _ => none)
    | _ => if scalarV (.float k b) then (evS P (convert src dst (.float k b))).bind ofV1 else none)
  | .v .str b => (match P.underlying src, P.underlying dst with
    | some .string, some (.slice et) => (match P.underlying et with | some (.int .u8) => some (.v (.sl (.int .u8)) (bytesL b)) | _ => none)
    | _, _ => if scalarV (.string b) then (evS P (convert src dst (.string b))).bind ofV1 else none)
  | .v (.sl (.int .u8)) xs => (match P.underlying src, P.underlying dst with
    | some (.slice et), some .string => (match P.underlying et with | some (.int .u8) => some (.v .str (strOf xs)) | _ => none)
    | _, _ => none)
  | .al (.int .u8) xs => (match P.underlying src, P.underlying dst with
    | some (.slice et), some .string => (match P.underlying et with | some (.int .u8) => some (.v .str (strOf xs)) | _ => none)
    | _, _ => none)
  | .own _ _ (.int .u8) xs => (match P.underlying src, P.underlying dst with
    | some (.slice et), some .string => (match P.underlying et with | some (.int .u8) => some (.v .str (strOf xs)) | _ => none)
    | _, _ => none)
  | .nilS => (match P.underlying src, P.underlying dst with
    | some (.slice et), some .string => (match P.underlying et with | some (.int .u8) => some (.v .str ByteArray.empty) | _ => none)
    | _, _ => none)
  | x => match cellV x with
    | some a => if scalarV a then (evS P (convert src dst a)).bind ofV1 else none
    | none => none
theorem fin1_map (d : Option Tmp) (v : Option Value) : fin1 s d v some = (v.bind ofV1).map (s.put d) := by
  unfold fin1
  cases v with
  | none => rfl
  | some v => simp only [Option.bind_some]; split <;> simp_all
theorem conv_map {src dst : TypeId} {x : Operand} (hop : o.op = .convert src dst x) (hss : sameSl Γ.P src dst = false) : aOp Γ n o s some = (convF Γ.P src dst (s.ev x)).map (s.put o.dst) := by
  simp only [aOp, hop, hss, cond_false, convF, fin1_map]
  generalize s.ev x = X
  generalize Γ.P.underlying src = u1
  generalize Γ.P.underlying dst = u2
  split <;> (repeat' split) <;> simp_all
  · rename_i h1 h2 h3
    obtain ⟨rfl, rfl⟩ := h3
    subst h2
    cases fToI _ _ _ <;> rfl
/-- An operation that hangs on its operands alone (a load: on the boxes too), and turns its own temporary, and sets bits of its own. -/
theorem free_eff (hc : clsOf Γ o ≠ .other) (hw : clsOf Γ o ≠ .wr) (ha_ : clsOf Γ o ≠ .app) (h : aOp Γ n o s some = some s1) : ∃ z, s1 = St.put { s with live := s.live ||| maskOf Γ n o } o.dst z ∧
    ∀ s' : St, (∀ x ∈ o.op.operands, s'.ev x = s.ev x) → (∀ T a, o.op = .load T a → s'.bx = s.bx) → aOp Γ n o s' some = some (St.put { s' with live := s'.live ||| maskOf Γ n o } o.dst z) := by
  have zero : maskOf Γ n o = 0 → (∃ z, s1 = s.put o.dst z ∧ ∀ s' : St, (∀ x ∈ o.op.operands, s'.ev x = s.ev x) → (∀ T a, o.op = .load T a → s'.bx = s.bx) → aOp Γ n o s' some = some (s'.put o.dst z)) →
      ∃ z, s1 = St.put { s with live := s.live ||| maskOf Γ n o } o.dst z ∧ ∀ s' : St, (∀ x ∈ o.op.operands, s'.ev x = s.ev x) → (∀ T a, o.op = .load T a → s'.bx = s.bx) → aOp Γ n o s' some = some (St.put { s' with live := s'.live ||| maskOf Γ n o } o.dst z) := by
    intro hm hz
    rw [hm]
    simpa using hz
  obtain ⟨op, hop⟩ : ∃ op, o.op = op := ⟨_, rfl⟩
  cases op with
  | move x =>
    simp only [aOp, hop] at h
    exact zero (by simp [maskOf, hop]) ⟨_, (Option.some.inj h).symm, fun s' he _ => by simp only [aOp, hop]; rw [he x (by simp [hop, Op.operands])]⟩
  | assign x =>
    simp only [aOp, hop] at h
    exact zero (by simp [maskOf, hop]) ⟨_, (Option.some.inj h).symm, fun s' he _ => by simp only [aOp, hop]; rw [he x (by simp [hop, Op.operands])]⟩
  | pick c x y =>
    simp only [aOp, hop] at h
    split at h
    · rename_i b hb
      refine zero (by simp [maskOf, hop]) ?_
      cases b with
      | true => exact ⟨_, (Option.some.inj h).symm, fun s' he _ => by simp only [aOp, hop]; rw [he c (by simp [hop, Op.operands]), hb, he x (by simp [hop, Op.operands])]; rfl⟩
      | false => exact ⟨_, (Option.some.inj h).symm, fun s' he _ => by simp only [aOp, hop]; rw [he c (by simp [hop, Op.operands]), hb, he y (by simp [hop, Op.operands])]; rfl⟩
    · cases h
  | load T x =>
    simp only [aOp, hop] at h
    refine zero (by simp [maskOf, hop]) ?_
    split at h
    · rename_i b off hb
      split at h
      · rename_i T' cs hbx
        split at h
        · rename_i y hy
          exact ⟨_, (Option.some.inj h).symm, fun s' he hbx' => by simp only [aOp, hop]; rw [he x (by simp [hop, Op.operands]), hb, hbx' T x hop]; simp only [hbx, hy]⟩
        · cases h
      · cases h
    · rename_i cs hb
      split at h
      · rename_i y hy
        exact ⟨_, (Option.some.inj h).symm, fun s' he _ => by simp only [aOp, hop]; rw [he x (by simp [hop, Op.operands]), hb]; simp only [hy]⟩
      · cases h
    · rename_i hb
      split at h
      · rename_i y hy
        exact ⟨_, (Option.some.inj h).symm, fun s' he _ => by simp only [aOp, hop]; rw [he x (by simp [hop, Op.operands]), hb]; simp only [hy]⟩
      · cases h
    · cases h
  | nilCheck x =>
    simp only [aOp, hop] at h
    refine zero (by simp [maskOf, hop]) ?_
    split at h
    · rename_i b off hb
      exact ⟨_, (Option.some.inj h).symm, fun s' he _ => by simp only [aOp, hop]; rw [he x (by simp [hop, Op.operands]), hb]⟩
    · rename_i cs hb
      exact ⟨_, (Option.some.inj h).symm, fun s' he _ => by simp only [aOp, hop]; rw [he x (by simp [hop, Op.operands]), hb]⟩
    · rename_i hb
      exact ⟨_, (Option.some.inj h).symm, fun s' he _ => by simp only [aOp, hop]; rw [he x (by simp [hop, Op.operands]), hb]⟩
    · cases h
  | fieldAddr S x f =>
    simp only [aOp, hop] at h
    refine zero (by simp [maskOf, hop]) ?_
    split at h
    · rename_i hb hf
      exact ⟨_, (Option.some.inj h).symm, fun s' he _ => by simp only [aOp, hop]; rw [he x (by simp [hop, Op.operands]), hb, hf]⟩
    · rename_i hb hf
      exact ⟨_, (Option.some.inj h).symm, fun s' he _ => by simp only [aOp, hop]; rw [he x (by simp [hop, Op.operands]), hb, hf]⟩
    · rename_i hb hf
      exact ⟨_, (Option.some.inj h).symm, fun s' he _ => by simp only [aOp, hop]; rw [he x (by simp [hop, Op.operands]), hb, hf]⟩
    · cases h
  | field S x f =>
    simp only [aOp, hop] at h
    refine zero (by simp [maskOf, hop]) ?_
    split at h
    · rename_i hb hf
      split at h
      · rename_i hy
        exact ⟨_, (Option.some.inj h).symm, fun s' he _ => by simp only [aOp, hop]; rw [he x (by simp [hop, Op.operands]), hb, hf]; simp only [hy]⟩
      · cases h
    · cases h
  | indexAddr t x ix =>
    simp only [aOp, hop] at h
    obtain ⟨z, h1, h2⟩ := indexA_eff h
    exact zero (by simp [maskOf, hop]) ⟨z, h1, fun s' he _ => by simp only [aOp, hop]; rw [he x (by simp [hop, Op.operands]), he ix (by simp [hop, Op.operands])]; exact h2 s'⟩
  | index t x ix =>
    simp only [aOp, hop] at h
    refine zero (by simp [maskOf, hop]) ?_
    split at h
    · rename_i hu hb hix
      split at h
      · rename_i hc
        exact ⟨_, (Option.some.inj h).symm, fun s' he _ => by simp only [aOp, hop]; rw [he x (by simp [hop, Op.operands]), he ix (by simp [hop, Op.operands]), hu, hb, hix]; simp only; rw [if_pos hc]⟩
      · cases h
    · cases h
  | slice t x lo hi mx =>
    simp only [aOp, hop] at h
    have hlo : ∀ s' : St, (∀ x ∈ o.op.operands, s'.ev x = s.ev x) → lo.map s'.ev = lo.map s.ev := fun s' he => by
      cases lo with
      | none => rfl
      | some l => exact congrArg some (he l (by simp [hop, Op.operands]))
    have hhi : ∀ s' : St, (∀ x ∈ o.op.operands, s'.ev x = s.ev x) → hi.map s'.ev = hi.map s.ev := fun s' he => by
      cases hi with
      | none => rfl
      | some l => exact congrArg some (he l (by simp [hop, Op.operands]))
    refine zero (by simp [maskOf, hop]) ?_
    split at h
    · rename_i l h' hl hh hu
      split at h
      · rename_i b hb
        obtain ⟨z, h1, h2⟩ := sliceA_eff h
        exact ⟨z, h1, fun s' he _ => by simp only [aOp, hop]; rw [he x (by simp [hop, Op.operands]), hlo s' he, hhi s' he, hl, hh, hu, hb]; exact h2 s'⟩
      · cases h
    · rename_i l h' et hl hh hu
      split at h
      · rename_i e ys hb
        split at h
        · rename_i hc
          obtain ⟨z, h1, h2⟩ := sliceA_eff h
          exact ⟨z, h1, fun s' he _ => by simp only [aOp, hop]; rw [he x (by simp [hop, Op.operands]), hlo s' he, hhi s' he, hl, hh, hu]; simp only [hb, if_pos hc]; exact h2 s'⟩
        · cases h
      · rename_i hb
        split at h
        · rename_i hc
          obtain ⟨l1, h1', h1, h2⟩ := cutA_eff (k := fun s _ _ => s.put o.dst .nilS) h
          exact ⟨_, h1, fun s' he _ => by simp only [aOp, hop]; rw [he x (by simp [hop, Op.operands]), hlo s' he, hhi s' he, hl, hh, hu]; simp only [hb, if_pos hc]; exact h2 s'⟩
        · cases h
    · cases h
  | makeSlice t l c =>
    simp only [aOp, hop] at h
    split at h
    · rename_i hel h1 h2
      split at h
      · rename_i z hz
        split at h
        · rename_i x hx
          split at h
          · rename_i hc
            refine ⟨_, by simp only [maskOf, hop]; exact (Option.some.inj h).symm, fun s' he _ => ?_⟩
            simp only [aOp, hop, maskOf]
            rw [he l (by simp [hop, Op.operands]), he c (by simp [hop, Op.operands]), hel, h1, h2]
            simp only [hz, hx]
            rw [if_pos hc]
            rfl
          · cases h
        · cases h
      · cases h
    · cases h
  | buildSlice t len parts =>
    simp only [aOp, hop] at h
    have hparts : ∀ s' : St, (∀ x ∈ o.op.operands, s'.ev x = s.ev x) → (parts.toList.map fun (i, x) => (i, s'.ev x)) = (parts.toList.map fun (i, x) => (i, s.ev x)) := fun s' he =>
      List.map_congr_left fun ⟨i, x⟩ hx => by
        show (i, s'.ev x) = (i, s.ev x)
        rw [he x (by simp only [hop, Op.operands, List.mem_toArray]; exact List.mem_map.2 ⟨(i, x), hx, rfl⟩)]
    split at h
    · rename_i et e hel
      have hsl : e.isSl = false := by
        cases e with
        | sl e' => exact absurd (show clsOf Γ o = .app by simp [clsOf, hop, hel]) ha_
        | _ => rfl
      have hfz : ∀ lv l, frzP e lv l = (l, lv) := fun lv l => by unfold frzP; rw [hsl]; rfl
      rw [hfz] at h
      split at h
      · rename_i xs hxs
        split at h
        · rename_i hc
          refine ⟨_, by simp only [maskOf, hop]; exact (Option.some.inj h).symm, fun s' he _ => ?_⟩
          simp only [aOp, hop, maskOf]
          rw [hel]
          simp only
          rw [hfz, hparts s' he]
          simp only [hxs, if_pos hc]
          rfl
        · cases h
      · cases h
    · cases h
  | build t parts =>
    simp only [aOp, hop] at h
    have hparts : ∀ s' : St, (∀ x ∈ o.op.operands, s'.ev x = s.ev x) → (parts.toList.map fun (i, x) => (i, s'.ev x)) = (parts.toList.map fun (i, x) => (i, s.ev x)) := fun s' he =>
      List.map_congr_left fun ⟨i, x⟩ hx => by
        show (i, s'.ev x) = (i, s.ev x)
        rw [he x (by simp only [hop, Op.operands, List.mem_toArray]; exact List.mem_map.2 ⟨(i, x), hx, rfl⟩)]
    refine zero (by simp [maskOf, hop]) ?_
    split at h
    · rename_i hu hz
      split at h
      · rename_i cs hcs
        split at h
        · rename_i cs' hf
          exact ⟨_, (Option.some.inj h).symm, fun s' he _ => by simp only [aOp, hop]; rw [hparts s' he, hu, hz]; simp only [hcs, hf]⟩
        · cases h
      · cases h
    · cases h
  | makeFunc fn first caps =>
    simp only [aOp, hop] at h
    have hcaps : ∀ s' : St, (∀ x ∈ o.op.operands, s'.ev x = s.ev x) → caps.toList.map s'.ev = caps.toList.map s.ev := fun s' he =>
      List.map_congr_left fun x hx => he x (by
        simp only [hop, Op.operands, Array.mem_append]
        exact .inr (by simpa using hx))
    refine zero (by simp [maskOf, hop]) ?_
    cases fn <;> first | (cases h; done) | skip
    · rename_i f
      cases hf : first.toList with
      | cons _ _ => rw [hf] at h; cases h
      | nil =>
      rw [hf] at h
      simp only at h
      split at h
      · rename_i hall
        exact ⟨_, (Option.some.inj h).symm, fun s' he _ => by simp only [aOp, hop, hf]; rw [hcaps s' he, if_pos hall]⟩
      · cases h
  | extract x i =>
    simp only [aOp, hop] at h
    refine zero (by simp [maskOf, hop]) ?_
    split at h
    · rename_i vs hb
      split at h
      · rename_i y hy
        cases ht : isTup y with
        | true => rw [ht] at h; cases h
        | false =>
          rw [ht] at h
          exact ⟨_, (Option.some.inj h).symm, fun s' he _ => by simp only [aOp, hop]; rw [he x (by simp [hop, Op.operands]), hb]; simp only [hy, ht, cond_false]⟩
      · cases h
    · cases h
  | binOp op t x y yt =>
    simp only [aOp, hop] at h
    obtain ⟨z, h1, h2⟩ := binA_eff h
    exact zero (by simp [maskOf, hop]) ⟨z, h1, fun s' he _ => by simp only [aOp, hop]; rw [he x (by simp [hop, Op.operands]), he y (by simp [hop, Op.operands])]; exact h2 s'⟩
  | unOp op t x =>
    simp only [aOp, hop] at h
    refine zero (by simp [maskOf, hop]) ?_
    split at h
    · rename_i u hu
      split at h
      · rename_i hc
        obtain ⟨z, h1, h2⟩ := fin1_eff h
        exact ⟨z, h1, fun s' he _ => by simp only [aOp, hop]; rw [he x (by simp [hop, Op.operands])]; simp only [hu, if_pos hc]; exact h2 s'⟩
      · cases h
    · cases h
  | convert src dst x =>
    have hss : sameSl Γ.P src dst = false := by
      cases hs : sameSl Γ.P src dst with
      | false => rfl
      | true => exact absurd (show clsOf Γ o = .app by simp [clsOf, hop, hs]) ha_
    rw [conv_map hop hss] at h
    cases hz : convF Γ.P src dst (s.ev x) with
    | none => rw [hz] at h; cases h
    | some z =>
      rw [hz] at h
      exact zero (by simp [maskOf, hop]) ⟨z, (Option.some.inj h).symm, fun s' he _ => by rw [conv_map hop hss, he x (by simp [hop, Op.operands]), hz]; rfl⟩
  | call c =>
    simp only [aOp, hop] at h
    have hargs : ∀ s' : St, (∀ x ∈ o.op.operands, s'.ev x = s.ev x) → c.args.toList.map s'.ev = c.args.toList.map s.ev := fun s' he =>
      List.map_congr_left fun x hx => he x (by
        simp only [hop, Op.operands, Call.operands, Array.mem_append]
        exact .inr (by simpa using hx))
    split at h
    · rename_i f hcal
      have hfo : ∀ s' : St, (∀ x ∈ o.op.operands, s'.ev x = s.ev x) → s'.ev f = s.ev f := fun s' he => he f (by simp [hop, Op.operands, Call.operands, hcal])
      split at h
      · rename_i f' hf
        obtain ⟨z, h1, h2⟩ := callA_eff h
        have hm : maskOf Γ n o = (Γ.sh f').bits (8 * n) 0 := by
          cases f with
          | func g =>
            have : g = f' := by simpa [St.ev] using hf
            subst this
            simp [maskOf, hop, hcal]
          | _ => exact absurd (by simp [clsOf, hop, hcal]) hc
        rw [hm]
        exact ⟨z, h1, fun s' he _ => by simp only [aOp, hop]; rw [hcal]; simp only; rw [hfo s' he, hf, hargs s' he]; exact h2 s'⟩
      · cases h
    · rename_i hcal
      refine zero (by simp [maskOf, hop, hcal]) ?_
      split at h
      · rename_i x t ha ht
        have hx : ∀ s' : St, (∀ x ∈ o.op.operands, s'.ev x = s.ev x) → s'.ev x = s.ev x := fun s' he => by
          have := hargs s' he
          rw [ha] at this
          simpa using this
        split at h
        · rename_i hu
          split at h
          · rename_i b hb
            exact ⟨_, (Option.some.inj h).symm, fun s' he _ => by simp only [aOp, hop]; rw [hcal, ha, ht]; simp only; rw [hu, hx s' he, hb]⟩
          · cases h
        · rename_i et hu
          split at h
          · rename_i hsl
            exact ⟨_, (Option.some.inj h).symm, fun s' he _ => by simp only [aOp, hop]; rw [hcal, ha, ht]; simp only; rw [hu, hx s' he]; simp only [hsl]⟩
          · rename_i hsl hb
            exact ⟨_, (Option.some.inj h).symm, fun s' he _ => by simp only [aOp, hop]; rw [hcal, ha, ht]; simp only; rw [hu, hx s' he, hb]; rfl⟩
          · cases h
        · cases h
      · cases h
    · rename_i hcal
      refine zero (by simp [maskOf, hop, hcal]) ?_
      split at h
      · rename_i x y ha
        have hxy : ∀ s' : St, (∀ x ∈ o.op.operands, s'.ev x = s.ev x) → s'.ev x = s.ev x ∧ s'.ev y = s.ev y := fun s' he => by
          have := hargs s' he
          rw [ha] at this
          simpa using this
        obtain ⟨z, h1, h2⟩ := mmA_eff h
        exact ⟨z, h1, fun s' he _ => by simp only [aOp, hop]; rw [hcal, ha]; simp only; rw [(hxy s' he).1, (hxy s' he).2]; exact h2 s'⟩
      · cases h
    · rename_i hcal
      refine zero (by simp [maskOf, hop, hcal]) ?_
      split at h
      · rename_i x y ha
        have hxy : ∀ s' : St, (∀ x ∈ o.op.operands, s'.ev x = s.ev x) → s'.ev x = s.ev x ∧ s'.ev y = s.ev y := fun s' he => by
          have := hargs s' he
          rw [ha] at this
          simpa using this
        obtain ⟨z, h1, h2⟩ := mmA_eff h
        exact ⟨z, h1, fun s' he _ => by simp only [aOp, hop]; rw [hcal, ha]; simp only; rw [(hxy s' he).1, (hxy s' he).2]; exact h2 s'⟩
      · cases h
    · rename_i hcal
      exact absurd (by simp [clsOf, hop, hcal]) ha_
    · cases h
  | store T x y => exact absurd (by simp [clsOf, hop]) hw
  | _ => first | exact absurd (by simp [clsOf, hop]) hc | (simp [aOp, hop] at h)
end
end Go.Eng
/- ENGINE, part P: two operations that nothing orders may change places. -/
namespace Go.Eng
open Go Go.RowKit
theorem bitsL_noOwn : ∀ (l : List (Option TypeId × Ty)) (id m : Nat), (l.all fun p => !(p.1.isSome && p.2.isSl)) = true → bitsL id m l = m
  | [], _, _, _ => rfl
  | (o, t) :: l, id, m, h => by
    simp only [List.all_cons, Bool.and_eq_true] at h
    have h1 : (o.isSome && t.isSl) = false := Bool.not_eq_true' _ ▸ h.1
    simp only [bitsL, h1, Bool.false_eq_true, if_false]
    exact bitsL_noOwn l _ _ h.2
theorem bits_noOwn {sh : Sh} (h : sh.noOwn = true) (id m : Nat) : sh.bits id m = m := by
  cases sh with
  | one o t =>
    have h1 : (o.isSome && t.isSl) = false := Bool.not_eq_true' _ ▸ (show (!(o.isSome && t.isSl)) = true from h)
    simp [Sh.bits, h1]
  | tup l => exact bitsL_noOwn l id m h
section
variable {Γ : Ctx} {n : Nat} {o : Oper} {s s1 : St}
theorem mask_pure (h : clsOf Γ o = .pure) : maskOf Γ n o = 0 := by
  obtain ⟨op, hop⟩ : ∃ op, o.op = op := ⟨_, rfl⟩
  cases op with
  | makeSlice t l c => simp [clsOf, hop] at h
  | buildSlice t l c => simp only [clsOf, hop] at h; split at h <;> cases h
  | call c =>
    cases hc : c.callee with
    | value f =>
      cases f with
      | func g =>
        simp only [clsOf, hop, hc] at h
        split at h
        · rename_i hn; simp [maskOf, hop, hc, bits_noOwn hn]
        · cases h
      | _ => simp [maskOf, hop, hc]
    | _ => simp [maskOf, hop, hc]
  | _ => simp [maskOf, hop]
theorem mask_load (h : clsOf Γ o = .load) : maskOf Γ n o = 0 := by
  obtain ⟨op, hop⟩ : ∃ op, o.op = op := ⟨_, rfl⟩
  cases op with
  | load t l => simp [maskOf, hop]
  | buildSlice t l c => simp only [clsOf, hop] at h; split at h <;> cases h
  | convert p q c => simp only [clsOf, hop] at h; cases hs : sameSl Γ.P p q <;> rw [hs] at h <;> cases h
  | call c =>
    cases hc : c.callee with
    | value f =>
      cases f with
      | func g => simp only [clsOf, hop, hc] at h; split at h <;> cases h
      | _ => simp [maskOf, hop, hc]
    | _ => simp [maskOf, hop, hc]
  | _ => simp [clsOf, hop] at h
theorem load_cls {T : TypeId} {a : Operand} (h : o.op = .load T a) : clsOf Γ o = .load := by simp [clsOf, h]
/-- Any operation hangs on its operands, the boxes and the live slices alone. -/
theorem gen_eff (hw : clsOf Γ o ≠ .wr) (h : aOp Γ n o s some = some s1) : ∃ z bx lv, s1 = St.put ⟨s.t, bx, lv, s.g⟩ o.dst z ∧
    (clsOf Γ o = .app → bx = s.bx) ∧
    ∀ s' : St, (∀ x ∈ o.op.operands, s'.ev x = s.ev x) → s'.bx = s.bx → s'.live = s.live → aOp Γ n o s' some = some (St.put ⟨s'.t, bx, lv, s'.g⟩ o.dst z) := by
  by_cases hc : clsOf Γ o = .other ∨ clsOf Γ o = .app
  · obtain ⟨op, hop⟩ : ∃ op, o.op = op := ⟨_, rfl⟩
    cases op with
    | box T x =>
      simp only [aOp, hop] at h
      split at h
      · rename_i cs hcs
        split at h
        · rename_i hb
          refine ⟨_, _, _, (Option.some.inj h).symm, (by first | exact fun _ => rfl | exact fun h => by simp [clsOf, hop] at h), fun s' he hbx hlv => ?_⟩
          simp only [aOp, hop]
          rw [he x (by simp [hop, Op.operands])]
          simp only [hcs, hbx, hlv, if_pos hb]
        · cases h
      · cases h
    | convert src dst x =>
      cases hss : sameSl Γ.P src dst with
      | false => simp [clsOf, hop, hss] at hc
      | true =>
        simp only [aOp, hop, hss, cond_true] at h
        unfold convS at h
        split at h
        · rename_i id T xs hx
          split at h
          · rename_i et h1
            split at h
            · rename_i h2
              split at h
              · rename_i hb
                refine ⟨_, _, _, (Option.some.inj h).symm, fun _ => rfl, fun s' he hbx hlv => ?_⟩
                simp only [aOp, hop, hss, cond_true]
                rw [he x (by simp [hop, Op.operands]), hx]
                unfold convS
                simp only [h1, h2, hlv, if_pos hb, hbx]
              · cases h
            · cases h
          · cases h
        · cases h
    | buildSlice t len parts =>
      simp only [aOp, hop] at h
      have hparts : ∀ s' : St, (∀ x ∈ o.op.operands, s'.ev x = s.ev x) → (parts.toList.map fun (i, x) => (i, s'.ev x)) = (parts.toList.map fun (i, x) => (i, s.ev x)) := fun s' he =>
        List.map_congr_left fun ⟨i, x⟩ hx => by
          show (i, s'.ev x) = (i, s.ev x)
          rw [he x (by simp only [hop, Op.operands, List.mem_toArray]; exact List.mem_map.2 ⟨(i, x), hx, rfl⟩)]
      split at h
      · rename_i et e hel
        split at h
        · rename_i xs hxs
          split at h
          · rename_i hb
            refine ⟨_, _, _, (Option.some.inj h).symm, fun _ => rfl, fun s' he hbx hlv => ?_⟩
            simp only [aOp, hop]
            rw [hel]
            simp only
            rw [hparts s' he, hlv, hbx]
            simp only [hxs, if_pos hb]
          · cases h
        · cases h
      · cases h
    | alloc T =>
      simp only [aOp, hop] at h
      split at h
      · rename_i z hz
        split at h
        · rename_i cs hcs
          split at h
          · rename_i hb
            refine ⟨_, _, _, (Option.some.inj h).symm, (by first | exact fun _ => rfl | exact fun h => by simp [clsOf, hop] at h), fun s' he hbx hlv => ?_⟩
            simp only [aOp, hop]
            simp only [hz, hcs, hbx, hlv, if_pos hb]
          · cases h
        · cases h
      · cases h
    | call c =>
      simp only [aOp, hop] at h
      have hargs : ∀ s' : St, (∀ x ∈ o.op.operands, s'.ev x = s.ev x) → c.args.toList.map s'.ev = c.args.toList.map s.ev := fun s' he =>
        List.map_congr_left fun x hx => he x (by
          simp only [hop, Op.operands, Call.operands, Array.mem_append]
          exact .inr (by simpa using hx))
      split at h
      · rename_i f hcal
        have hfo : ∀ s' : St, (∀ x ∈ o.op.operands, s'.ev x = s.ev x) → s'.ev f = s.ev f := fun s' he => he f (by simp [hop, Op.operands, Call.operands, hcal])
        split at h
        · rename_i f' hf
          obtain ⟨z, h1, h2⟩ := callA_eff h
          refine ⟨z, s.bx, s.live ||| (Γ.sh f').bits (8 * n) 0, h1, fun _ => rfl, fun s' he hbx hlv => ?_⟩
          simp only [aOp, hop]; rw [hcal]; simp only; rw [hfo s' he, hf, hargs s' he]
          have := h2 s'
          rw [hbx, hlv] at this
          exact this
        · cases h
      · rename_i hcal
        simp [clsOf, hop, hcal] at hc
      · rename_i hcal
        simp [clsOf, hop, hcal] at hc
      · rename_i hcal
        simp [clsOf, hop, hcal] at hc
      · rename_i hcal
        split at h
        · rename_i x y t tx ha ht
          have hxy : ∀ s' : St, (∀ x ∈ o.op.operands, s'.ev x = s.ev x) → s'.ev x = s.ev x ∧ s'.ev y = s.ev y := fun s' he => by
            have := hargs s' he
            rw [ha] at this
            simpa using this
          have pre : ∀ s' : St, (∀ x ∈ o.op.operands, s'.ev x = s.ev x) → s'.live = s.live → aOp Γ n o s' some = appendA Γ (8 * n) t tx (s.ev x) (s.ev y) s' o.dst some := by
            intro s' he hlv
            obtain ⟨hx, hy⟩ := hxy s' he
            simp only [aOp, hop]
            rw [hcal, ha, ht]
            simp only
            rw [hx, hy]
          unfold appendA at h
          split at h
          · rename_i et e hel
            split at h
            · rename_i xs live hh
              split at h
              · rename_i hstr
                split at h
                · rename_i b _ hb _
                  split at h
                  · rename_i hroom
                    refine ⟨_, _, _, (Option.some.inj h).symm, (by first | exact fun _ => rfl | exact fun h => by simp [clsOf, hop] at h), fun s' he hbx hlv => ?_⟩
                    rw [pre s' he hlv]
                    unfold appendA
                    simp only [hel, hlv, hh, hstr, hbx, hb]
                    rw [if_pos hroom]
                  · cases h
                · cases h
              · rename_i et' hsl
                split at h
                · rename_i ys hys
                  split at h
                  · rename_i hroom
                    refine ⟨_, _, _, (Option.some.inj h).symm, (by first | exact fun _ => rfl | exact fun h => by simp [clsOf, hop] at h), fun s' he hbx hlv => ?_⟩
                    rw [pre s' he hlv]
                    unfold appendA
                    simp only [hel, hlv, hh, hsl, hbx, hys, if_pos hroom]
                  · cases h
                · cases h
              · cases h
            · cases h
          · cases h
        · cases h
      · cases h
    | _ => simp [clsOf, hop] at hc <;> simp [aOp, hop] at h
  · obtain ⟨z, h1, h2⟩ := free_eff (n := n) (fun h => hc (.inl h)) hw (fun h => hc (.inr h)) h
    exact ⟨z, s.bx, s.live ||| maskOf Γ n o, h1, fun _ => rfl, fun s' he hbx hlv => by
      have := h2 s' he (fun _ _ _ => hbx)
      rw [hbx, hlv] at this
      exact this⟩
end
end Go.Eng
/- ENGINE, part Q: guards; the exchange of two operations. -/
namespace Go.Eng
open Go Go.RowKit
def guardTmp (ops : Array Oper) (o : Oper) : List Tmp := match o.guard with
  | some (g, _) => ((ops[g]?).bind (·.dst)).toList
  | none => []
section
variable {R : Type} {Γ : Ctx} {n : Nat} {ops : Array Oper} {o : Oper} {s s1 : St} {K : St → Option R}
theorem getD_lt {l : List AV} {g : Nat} {x : AV} (h : l.getD g .bad = x) (hx : x ≠ .bad) : g < l.length ∧ l[g]? = some x := by
  rw [List.getD_eq_getElem?_getD] at h
  cases hg : l[g]? with
  | none => rw [hg] at h; exact (hx h.symm).elim
  | some y => rw [hg] at h; exact ⟨(List.getElem?_eq_some_iff.1 hg).1, by rw [← h]; rfl⟩
theorem self_put {g : Nat} {x : AV} (h : s.t.getD g .bad = x) (hx : x ≠ .bad) : s.put (some g) x = s := by
  obtain ⟨hlt, hg⟩ := getD_lt h hx
  have : s.t.set g x = s.t := by
    have hgx : s.t[g] = x := by rw [List.getElem?_eq_getElem hlt] at hg; exact Option.some.inj hg
    rw [← hgx]; exact List.set_getElem_self _
  show { s with t := s.t.set g x } = s
  rw [this]
theorem aGuard_nat : aGuard Γ ops n o s K = (aGuard Γ ops n o s some).bind K := by
  unfold aGuard
  split
  · exact aOp_nat
  · split
    · rfl
    · split
      · rename_i _ want _ _ g _ _ b _
        have hb : ∀ c : Bool, (bif c then aOp Γ n o (s.put (some g) (.v .bool want)) K else K ((s.put (some g) (.v .bool (!want))).put o.dst (.raw undef))) = (bif c then aOp Γ n o (s.put (some g) (.v .bool want)) some else some ((s.put (some g) (.v .bool (!want))).put o.dst (.raw undef))).bind K := by
          intro c
          cases c
          · rfl
          · exact aOp_nat
        exact hb _
      · rfl
      · rfl
/-- Under its guard an operation is done, or is left out. -/
theorem guard_cases (h : aGuard Γ ops n o s some = some s1) :
    (aOp Γ n o s some = some s1 ∧ ∀ s' : St, (∀ g ∈ guardTmp ops o, s'.t.getD g .bad = s.t.getD g .bad) → aGuard Γ ops n o s' some = aOp Γ n o s' some) ∨
    (s1 = s.put o.dst (.raw undef) ∧ ∀ s' : St, (∀ g ∈ guardTmp ops o, s'.t.getD g .bad = s.t.getD g .bad) → aGuard Γ ops n o s' some = some (s'.put o.dst (.raw undef))) := by
  unfold aGuard at h ⊢
  cases hg : o.guard with
  | none =>
    rw [hg] at h
    exact .inl ⟨h, fun s' _ => rfl⟩
  | some p =>
    obtain ⟨j, want⟩ := p
    rw [hg] at h
    simp only at h ⊢
    cases hd : (ops[j]?).bind (·.dst) with
    | none => rw [hd] at h; cases h
    | some g =>
      rw [hd] at h
      simp only at h ⊢
      have hmem : g ∈ guardTmp ops o := by simp [guardTmp, hg, hd]
      split at h
      · rename_i b hb
        cases hbw : b == want with
        | true =>
          have hbe : b = want := by simpa using hbw
          subst hbe
          rw [hbw] at h
          simp only [cond_true] at h
          rw [self_put hb (by simp)] at h
          refine .inl ⟨h, fun s' hs => ?_⟩
          rw [hs g hmem, hb]
          simp only [hbw, cond_true]
          rw [self_put ((hs g hmem).trans hb) (by simp)]
        | false =>
          have hbe : b = !want := by cases b <;> cases want <;> first | rfl | (cases hbw)
          rw [hbw] at h
          simp only [cond_false, Option.some.injEq] at h
          rw [self_put (by rw [hb, hbe]) (by simp)] at h
          refine .inr ⟨h.symm, fun s' hs => ?_⟩
          rw [hs g hmem, hb]
          simp only [hbw, cond_false]
          rw [self_put ((hs g hmem).trans (by rw [hb, hbe])) (by simp)]
      · rename_i vs hb
        simp only [Option.some.injEq] at h
        exact .inr ⟨h.symm, fun s' hs => by rw [hs g hmem, hb]⟩
      · cases h
def sameFor (ops : Array Oper) (o : Oper) (s' s : St) : Prop := (∀ x ∈ o.op.operands, s'.ev x = s.ev x) ∧ ∀ g ∈ guardTmp ops o, s'.t.getD g .bad = s.t.getD g .bad
theorem guard_gen (hw : clsOf Γ o ≠ .wr) (h : aGuard Γ ops n o s some = some s1) : ∃ z bx lv, s1 = St.put ⟨s.t, bx, lv, s.g⟩ o.dst z ∧ (clsOf Γ o = .app → bx = s.bx) ∧
    ∀ s' : St, sameFor ops o s' s → s'.bx = s.bx → s'.live = s.live → aGuard Γ ops n o s' some = some (St.put ⟨s'.t, bx, lv, s'.g⟩ o.dst z) := by
  rcases guard_cases h with ⟨h1, h2⟩ | ⟨h1, h2⟩
  · obtain ⟨z, bx, lv, h3, h5, h4⟩ := gen_eff hw h1
    exact ⟨z, bx, lv, h3, h5, fun s' hs hbx hlv => by rw [h2 s' hs.2]; exact h4 s' hs.1 hbx hlv⟩
  · exact ⟨_, s.bx, s.live, h1, fun _ => rfl, fun s' hs hbx hlv => by rw [h2 s' hs.2, ← hbx, ← hlv]⟩
theorem guard_free (hc : clsOf Γ o ≠ .other) (hw : clsOf Γ o ≠ .wr) (ha : clsOf Γ o ≠ .app) (h : aGuard Γ ops n o s some = some s1) : ∃ z M, s1 = St.put { s with live := s.live ||| M } o.dst z ∧ (clsOf Γ o = .pure → M = 0) ∧
    ∀ s' : St, sameFor ops o s' s → (clsOf Γ o = .load → s'.bx = s.bx) → aGuard Γ ops n o s' some = some (St.put { s' with live := s'.live ||| M } o.dst z) := by
  rcases guard_cases h with ⟨h1, h2⟩ | ⟨h1, h2⟩
  · obtain ⟨z, h3, h4⟩ := free_eff hc hw ha h1
    exact ⟨z, _, h3, fun hp => mask_pure hp, fun s' hs hbx => by rw [h2 s' hs.2]; exact h4 s' hs.1 (fun T a ho => hbx (load_cls ho))⟩
  · exact ⟨_, 0, by simpa using h1, fun _ => rfl, fun s' hs _ => by rw [h2 s' hs.2]; simp⟩
def setO (t : List AV) (d : Option Tmp) (x : AV) : List AV := match d with
  | some d => t.set d x
  | none => t
theorem put_t (d : Option Tmp) (x : AV) (t : List AV) (bx : List (Option (TypeId × List AV))) (lv : Nat) (g : List AV) : St.put ⟨t, bx, lv, g⟩ d x = ⟨setO t d x, bx, lv, g⟩ := by cases d <;> rfl
theorem same_put {s' : St} {d : Option Tmp} {x : AV} (hs : s'.t = setO s.t d x) (hd : ∀ k, d = some k → k ∉ o.looksAt ops) : sameFor ops o s' s := by
  have hget : ∀ g, g ∈ o.looksAt ops → s'.t.getD g .bad = s.t.getD g .bad := by
    intro g hg
    rw [hs]
    cases d with
    | none => rfl
    | some k =>
      have hne : k ≠ g := fun he => hd k rfl (he ▸ hg)
      simp only [setO]
      rw [List.getD_eq_getElem?_getD, List.getD_eq_getElem?_getD, List.getElem?_set_ne hne]
  refine ⟨fun y hy => ?_, fun g hg => hget g ?_⟩
  · cases y with
    | tmp t =>
      refine hget t ?_
      unfold Oper.looksAt
      exact List.mem_append_left _ (List.mem_filterMap.2 ⟨.tmp t, by simpa using hy, rfl⟩)
    | _ => rfl
  · unfold Oper.looksAt
    refine List.mem_append_right _ ?_
    unfold guardTmp at hg
    split at hg
    · rename_i heq; rw [heq]; exact hg
    · cases hg
theorem setD_comm (t : List AV) {d e : Option Tmp} (x y : AV) (h : ∀ k, d = some k → e ≠ some k) : setO (setO t d x) e y = setO (setO t e y) d x := by
  cases d with
  | none => cases e <;> rfl
  | some d =>
    cases e with
    | none => rfl
    | some e => exact List.set_comm _ _ (fun he => h d rfl (by rw [he]))
/-- THE EXCHANGE. -/
theorem comm {y i : Oper} {ny ni : Nat} {s s1 s2 : St} (hap : y.apart ops i = true) (hcf : clsFree (clsOf Γ y) (clsOf Γ i) = true) (h1 : aGuard Γ ops ny y s some = some s1) (h2 : aGuard Γ ops ni i s1 some = some s2) :
    ∃ s1', aGuard Γ ops ni i s some = some s1' ∧ aGuard Γ ops ny y s1' some = some s2 := by
  obtain ⟨p1, p2, p3⟩ := Oper.apart_spec hap
  have hyw : clsOf Γ y ≠ .wr := by intro h; rw [h] at hcf; cases hcf
  have hiw : clsOf Γ i ≠ .wr := by intro h; rw [h] at hcf; cases hh : clsOf Γ y <;> rw [hh] at hcf <;> cases hcf
  by_cases hy : clsOf Γ y = .pure
  · obtain ⟨zy, M, e1, hM, f1⟩ := guard_free (by rw [hy]; simp) hyw (by rw [hy]; simp) h1
    have hM0 := hM hy
    subst hM0
    obtain ⟨zi, bx, lv, e2, _, f2⟩ := guard_gen hiw h2
    have hs1 : s1 = ⟨setO s.t y.dst zy, s.bx, s.live, s.g⟩ := by rw [e1, put_t]; simp
    have hsame : sameFor ops i s s1 := by
      have := same_put (ops := ops) (o := i) (s := s) (s' := s1) (d := y.dst) (x := zy) (by rw [hs1]) (fun k hk => p1 k hk)
      exact ⟨fun x hx => (this.1 x hx).symm, fun g hg => (this.2 g hg).symm⟩
    have hi := f2 s hsame (by rw [hs1]) (by rw [hs1])
    refine ⟨_, hi, ?_⟩
    have hy' := f1 (St.put ⟨s.t, bx, lv, s.g⟩ i.dst zi) (same_put (d := i.dst) (x := zi) (by rw [put_t]) (fun k hk => p3 k hk)) (by rw [hy]; intro h; cases h)
    rw [hy', e2, hs1]
    simp only [put_t, Nat.or_zero]
    congr 2
    exact (setD_comm s.t zy zi (fun k hk => p2 k hk)).symm
  · by_cases hi : clsOf Γ i = .pure
    · obtain ⟨zy, bx, lv, e1, _, f1⟩ := guard_gen hyw h1
      obtain ⟨zi, M, e2, hM, f2⟩ := guard_free (by rw [hi]; simp) hiw (by rw [hi]; simp) h2
      have hM0 := hM hi
      subst hM0
      have hs1 : s1 = ⟨setO s.t y.dst zy, bx, lv, s.g⟩ := by rw [e1, put_t]
      have hsame : sameFor ops i s s1 := by
        have := same_put (ops := ops) (o := i) (s := s) (s' := s1) (d := y.dst) (x := zy) (by rw [hs1]) (fun k hk => p1 k hk)
        exact ⟨fun x hx => (this.1 x hx).symm, fun g hg => (this.2 g hg).symm⟩
      have hi' := f2 s hsame (by rw [hi]; intro h; cases h)
      refine ⟨_, hi', ?_⟩
      have hy' := f1 (St.put { s with live := s.live ||| 0 } i.dst zi) (same_put (d := i.dst) (x := zi) (by rw [put_t]) (fun k hk => p3 k hk)) (by rw [put_t]) (by rw [put_t]; simp)
      rw [hy', e2, hs1]
      simp only [put_t, Nat.or_zero]
      congr 2
      exact (setD_comm s.t zy zi (fun k hk => p2 k hk)).symm
    · by_cases hla : clsOf Γ i = .app
      · -- a load, and what is appended
        have hyl : clsOf Γ y = .load := by rw [hla] at hcf; cases hh : clsOf Γ y <;> rw [hh] at hcf hy <;> first | rfl | (exact (hy rfl).elim) | (cases hcf)
        obtain ⟨zy, M, e1, _, f1⟩ := guard_free (by rw [hyl]; simp) hyw (by rw [hyl]; simp) h1
        obtain ⟨zi, bx, lv, e2, hbx, f2⟩ := guard_gen hiw h2
        have hbx' := hbx hla
        have hs1 : s1 = ⟨setO s.t y.dst zy, s.bx, s.live ||| M, s.g⟩ := by rw [e1, put_t]
        obtain ⟨M0, e1', f1'⟩ : ∃ z, s1 = s.put y.dst z ∧ ∀ s' : St, sameFor ops y s' s → s'.bx = s.bx → aGuard Γ ops ny y s' some = some (s'.put y.dst z) := by
          rcases guard_cases h1 with ⟨c1, c2⟩ | ⟨c1, c2⟩
          · obtain ⟨z, c3, c4⟩ := free_eff (by rw [hyl]; simp) hyw (by rw [hyl]; simp) c1
            have hm : maskOf Γ ny y = 0 := mask_load hyl
            rw [hm] at c3
            refine ⟨z, by simpa using c3, fun s' hs hb => ?_⟩
            have := c4 s' hs.1 (fun _ _ _ => hb)
            rw [hm] at this
            rw [c2 s' hs.2, this]; simp
          · exact ⟨_, c1, fun s' hs _ => c2 s' hs.2⟩
        have hs1' : s1 = ⟨setO s.t y.dst M0, s.bx, s.live, s.g⟩ := by rw [e1', ← put_t]
        have hsame : sameFor ops i s s1 := by
          have := same_put (ops := ops) (o := i) (s := s) (s' := s1) (d := y.dst) (x := M0) (by rw [hs1']) (fun k hk => p1 k hk)
          exact ⟨fun x hx => (this.1 x hx).symm, fun g hg => (this.2 g hg).symm⟩
        have hi' := f2 s hsame (by rw [hs1']) (by rw [hs1'])
        refine ⟨_, hi', ?_⟩
        have hy' := f1' (St.put ⟨s.t, bx, lv, s.g⟩ i.dst zi) (same_put (d := i.dst) (x := zi) (by rw [put_t]) (fun k hk => p3 k hk)) (by rw [put_t]; rw [hbx', hs1'])
        rw [hy', e2, hs1']
        simp only [put_t]
        congr 2
        exact (setD_comm s.t M0 zi (fun k hk => p2 k hk)).symm
      by_cases hya : clsOf Γ y = .app
      · have hil : clsOf Γ i = .load := by rw [hya] at hcf; cases hh : clsOf Γ i <;> rw [hh] at hcf hi <;> first | rfl | (exact (hi rfl).elim) | (cases hcf)
        obtain ⟨zy, bx, lv, e1, hbx, f1⟩ := guard_gen hyw h1
        have hbx' := hbx hya
        have hs1 : s1 = ⟨setO s.t y.dst zy, bx, lv, s.g⟩ := by rw [e1, put_t]
        obtain ⟨zi, e2, f2⟩ : ∃ z, s2 = s1.put i.dst z ∧ ∀ s' : St, sameFor ops i s' s1 → s'.bx = s1.bx → aGuard Γ ops ni i s' some = some (s'.put i.dst z) := by
          rcases guard_cases h2 with ⟨c1, c2⟩ | ⟨c1, c2⟩
          · obtain ⟨z, c3, c4⟩ := free_eff (by rw [hil]; simp) hiw (by rw [hil]; simp) c1
            have hm : maskOf Γ ni i = 0 := mask_load hil
            rw [hm] at c3
            refine ⟨z, by simpa using c3, fun s' hs hb => ?_⟩
            have := c4 s' hs.1 (fun _ _ _ => hb)
            rw [hm] at this
            rw [c2 s' hs.2, this]; simp
          · exact ⟨_, c1, fun s' hs _ => c2 s' hs.2⟩
        have hsame : sameFor ops i s s1 := by
          have := same_put (ops := ops) (o := i) (s := s) (s' := s1) (d := y.dst) (x := zy) (by rw [hs1]) (fun k hk => p1 k hk)
          exact ⟨fun x hx => (this.1 x hx).symm, fun g hg => (this.2 g hg).symm⟩
        have hi' := f2 s hsame (by rw [hs1, hbx'])
        refine ⟨_, hi', ?_⟩
        have hy' := f1 (s.put i.dst zi) (by
          have : s = ⟨s.t, s.bx, s.live, s.g⟩ := rfl
          exact same_put (d := i.dst) (x := zi) (by rw [this, put_t]) (fun k hk => p3 k hk)) (put_bx _ _) (put_live _ _)
        rw [hy', e2, hs1]
        have : s = ⟨s.t, s.bx, s.live, s.g⟩ := rfl
        rw [this]
        simp only [put_t]
        congr 2
        exact (setD_comm s.t zy zi (fun k hk => p2 k hk)).symm
      have ny_ : clsOf Γ y ≠ .other := by intro h; rw [h] at hcf; cases hh : clsOf Γ i <;> rw [hh] at hcf hi <;> first | (exact hi rfl) | (cases hcf)
      have ni_ : clsOf Γ i ≠ .other := by intro h; rw [h] at hcf; cases hh : clsOf Γ y <;> rw [hh] at hcf hy <;> first | (exact hy rfl) | (cases hcf)
      obtain ⟨zy, My, e1, _, f1⟩ := guard_free ny_ hyw hya h1
      obtain ⟨zi, Mi, e2, _, f2⟩ := guard_free ni_ hiw hla h2
      have hs1 : s1 = ⟨setO s.t y.dst zy, s.bx, s.live ||| My, s.g⟩ := by rw [e1, put_t]
      have hsame : sameFor ops i s s1 := by
        have := same_put (ops := ops) (o := i) (s := s) (s' := s1) (d := y.dst) (x := zy) (by rw [hs1]) (fun k hk => p1 k hk)
        exact ⟨fun x hx => (this.1 x hx).symm, fun g hg => (this.2 g hg).symm⟩
      have hi' := f2 s hsame (fun _ => by rw [hs1])
      refine ⟨_, hi', ?_⟩
      have hy' := f1 (St.put { s with live := s.live ||| Mi } i.dst zi) (same_put (d := i.dst) (x := zi) (by rw [put_t]) (fun k hk => p3 k hk)) (fun _ => by rw [put_t])
      rw [hy', e2, hs1]
      simp only [put_t]
      congr 2
      · exact (setD_comm s.t zy zi (fun k hk => p2 k hk)).symm
      · rw [Nat.or_assoc, Nat.or_assoc, Nat.or_comm Mi My]
/-- A load hangs on the boxes that there are. -/
theorem load_mono {T : TypeId} {x : Operand} (hop : o.op = .load T x) (h : aOp Γ n o s some = some s1) : ∃ z, s1 = s.put o.dst z ∧ ∀ s' : St, s'.ev x = s.ev x → (∀ (b : Nat) c, s.bx[b]? = some (some c) → s'.bx[b]? = some (some c)) → aOp Γ n o s' some = some (s'.put o.dst z) := by
  simp only [aOp, hop] at h ⊢
  split at h
  · rename_i b off hx
    split at h
    · rename_i T' cs hb
      split at h
      · rename_i z hz
        refine ⟨z, (Option.some.inj h).symm, fun s' he hbx => ?_⟩
        rw [he, hx]
        simp only
        rw [hbx b _ hb]
        simp only [hz]
      · cases h
    · cases h
  · rename_i cs hx
    split at h
    · rename_i z hz
      refine ⟨z, (Option.some.inj h).symm, fun s' he _ => ?_⟩
      rw [he, hx]
      simp only [hz]
    · cases h
  · rename_i id T0 e xs i hx
    split at h
    · rename_i z hz
      refine ⟨z, (Option.some.inj h).symm, fun s' he _ => ?_⟩
      rw [he, hx]
      simp only [hz]
    · cases h
  · cases h
theorem alc_eff {T : TypeId} (hop : o.op = .alloc T) (h : aOp Γ n o s some = some s1) : ∃ c, s1 = St.put { s with bx := s.bx.set n (some c) } o.dst (.ptr n 0) ∧ noneAt s.bx n = true ∧
    ∀ s' : St, s'.bx = s.bx → aOp Γ n o s' some = some (St.put { s' with bx := s'.bx.set n (some c) } o.dst (.ptr n 0)) := by
  simp only [aOp, hop] at h ⊢
  split at h
  · rename_i z hz
    split at h
    · rename_i cs hcs
      split at h
      · rename_i hb
        exact ⟨_, (Option.some.inj h).symm, hb, fun s' hbx => by rw [hbx, if_pos hb]⟩
      · cases h
    · cases h
  · cases h
theorem late_eff (hy : lateOk (clsOf Γ o) = true) (h : aGuard Γ ops n o s some = some s1) : ∃ z M, s1 = St.put { s with live := s.live ||| M } o.dst z ∧
    ∀ s' : St, sameFor ops o s' s → (∀ (b : Nat) c, s.bx[b]? = some (some c) → s'.bx[b]? = some (some c)) → aGuard Γ ops n o s' some = some (St.put { s' with live := s'.live ||| M } o.dst z) := by
  cases hc : clsOf Γ o <;> rw [hc] at hy <;> first | (cases hy; done) | skip
  · -- a load
    rcases guard_cases h with ⟨c1, c2⟩ | ⟨c1, c2⟩
    · obtain ⟨T, x, hop⟩ : ∃ T x, o.op = .load T x := by
        obtain ⟨op, hop⟩ : ∃ op, o.op = op := ⟨_, rfl⟩
        cases op with
        | load T x => exact ⟨T, x, hop⟩
        | buildSlice t l c => simp only [clsOf, hop] at hc; split at hc <;> cases hc
        | convert p q c => simp only [clsOf, hop] at hc; cases hs : sameSl Γ.P p q <;> rw [hs] at hc <;> cases hc
        | call c =>
          cases hcc : c.callee with
          | value f =>
            cases f with
            | func g => simp only [clsOf, hop, hcc] at hc; split at hc <;> cases hc
            | _ => simp [clsOf, hop, hcc] at hc
          | builtin bi => cases bi <;> simp [clsOf, hop, hcc] at hc
          | _ => simp [clsOf, hop, hcc] at hc
        | _ => simp [clsOf, hop] at hc
      obtain ⟨z, e1, e2⟩ := load_mono hop c1
      refine ⟨z, 0, by simpa using e1, fun s' hs hb => ?_⟩
      rw [c2 s' hs.2, e2 s' (hs.1 x (by simp [hop, Op.operands])) hb]
      simp
    · exact ⟨_, 0, by simpa using c1, fun s' hs _ => by rw [c2 s' hs.2]; simp⟩
  · -- a slice is made
    obtain ⟨z, M, e1, _, e2⟩ := guard_free (by rw [hc]; simp) (by rw [hc]; simp) (by rw [hc]; simp) h
    exact ⟨z, M, e1, fun s' hs _ => e2 s' hs (fun hl => by rw [hc] at hl; cases hl)⟩
theorem comm_alc {y i : Oper} {ny ni : Nat} {s s1 s2 : St} (hap : y.apart ops i = true) (hyl : lateOk (clsOf Γ y) = true) (hia : isAlloc i = true) (h1 : aGuard Γ ops ny y s some = some s1) (h2 : aGuard Γ ops ni i s1 some = some s2) :
    ∃ s1', aGuard Γ ops ni i s some = some s1' ∧ aGuard Γ ops ny y s1' some = some s2 := by
  obtain ⟨p1, p2, p3⟩ := Oper.apart_spec hap
  obtain ⟨zy, M, e1, f1⟩ := late_eff hyl h1
  obtain ⟨T, hop⟩ : ∃ T, i.op = .alloc T := by
    unfold isAlloc at hia
    split at hia
    · rename_i T hT; exact ⟨T, hT⟩
    · cases hia
  have hs1 : s1 = ⟨setO s.t y.dst zy, s.bx, s.live ||| M, s.g⟩ := by rw [e1, put_t]
  have hsame : sameFor ops i s s1 := by
    have := same_put (ops := ops) (o := i) (s := s) (s' := s1) (d := y.dst) (x := zy) (by rw [hs1]) (fun k hk => p1 k hk)
    exact ⟨fun x hx => (this.1 x hx).symm, fun g hg => (this.2 g hg).symm⟩
  rcases guard_cases h2 with ⟨c1, c2⟩ | ⟨c1, c2⟩
  · obtain ⟨c, g1, g2, g3⟩ := alc_eff hop c1
    have hbx : s1.bx = s.bx := by rw [hs1]
    rw [hbx] at g2
    refine ⟨_, (c2 s hsame.2).trans (g3 s hbx.symm), ?_⟩
    have hy := f1 (St.put { s with bx := s.bx.set ni (some c) } i.dst (.ptr ni 0)) (same_put (d := i.dst) (x := .ptr ni 0) (by rw [put_t]) (fun k hk => p3 k hk)) (fun b c' hb => by
      rw [put_bx]
      show (s.bx.set ni (some c))[b]? = _
      rw [List.getElem?_set_ne]
      · exact hb
      · rintro rfl
        unfold noneAt at g2
        rw [hb] at g2
        cases g2)
    rw [hy, g1, hs1]
    simp only [put_t]
    congr 2
    exact (setD_comm s.t zy (.ptr ni 0) (fun k hk => p2 k hk)).symm
  · refine ⟨_, c2 s hsame.2, ?_⟩
    have hs : s = ⟨s.t, s.bx, s.live, s.g⟩ := rfl
    have hy := f1 (s.put i.dst (.raw undef)) (same_put (d := i.dst) (x := .raw undef) (by rw [hs, put_t]) (fun k hk => p3 k hk)) (fun b c' hb => by rw [put_bx]; exact hb)
    rw [hy, c1, hs1, hs]
    simp only [put_t]
    congr 2
    exact (setD_comm s.t zy (.raw undef) (fun k hk => p2 k hk)).symm
theorem wr_notTup (live id i : Nat) (e : Ty) (y : e.den) : ∀ x : AV, isTup x = false → wrAV live id i e y x = wrV2 live id i e y x ∧ isTup (wrV2 live id i e y x) = false := by
  intro x hx
  cases x with
  | tup _ => cases hx
  | own j T e' ys =>
    refine ⟨rfl, ?_⟩
    unfold wrV2 wrCell
    simp only
    split <;> (try split) <;> rfl
  | el j T e' ys k =>
    refine ⟨rfl, ?_⟩
    unfold wrV2 wrCell
    simp only
    split <;> (try split) <;> rfl
  | _ => exact ⟨rfl, rfl⟩
theorem guard_none {o : Oper} (h : o.guard.isNone = true) (n : Nat) (s : St) : aGuard Γ ops n o s some = aOp Γ n o s some := by
  unfold aGuard
  cases hg : o.guard with
  | none => rfl
  | some p => rw [hg] at h; cases h
theorem setO_map (f : AV → AV) (t : List AV) (d : Option Tmp) (x : AV) : (setO t d x).map f = setO (t.map f) d (f x) := by
  cases d with
  | none => rfl
  | some d => exact List.map_set
theorem comm_ext {y i : Oper} {ny ni : Nat} {s s1 s2 : St} (hap : y.apart ops i = true) (hy : isExt y = true) (hi : isSto i = true) (h1 : aGuard Γ ops ny y s some = some s1) (h2 : aGuard Γ ops ni i s1 some = some s2) :
    ∃ s1', aGuard Γ ops ni i s some = some s1' ∧ aGuard Γ ops ny y s1' some = some s2 := by
  obtain ⟨p1, p2, p3⟩ := Oper.apart_spec hap
  obtain ⟨tx, k, hyo, hyg⟩ : ∃ tx k, y.op = .extract (.tmp tx) k ∧ y.guard.isNone = true := by
    unfold isExt at hy
    split at hy
    · rename_i t k h; exact ⟨t, k, h, hy⟩
    · cases hy
  obtain ⟨T, ad, xx, hio, hig⟩ : ∃ T ad xx, i.op = .store T ad xx ∧ i.guard.isNone = true := by
    unfold isSto at hi
    split at hi
    · rename_i T ad xx h; exact ⟨T, ad, xx, h, hi⟩
    · cases hi
  rw [guard_none hyg] at h1
  rw [guard_none hig] at h2
  have hyE : ∀ s' : St, aOp Γ ny y s' some = (match s'.ev (.tmp tx) with
    | .tup vs => match vs[k]? with
      | some y' => bif isTup y' then none else some (s'.put y.dst y')
      | none => none
    | _ => none) := fun s' => by simp only [aOp, hyo]; first | rfl | (cases s'.ev (.tmp tx) <;> first | rfl | (rename_i vs; cases vs[k]? <;> rfl))
  rw [hyE] at h1
  split at h1
  · rename_i vs hvs
    split at h1
    · rename_i z hz
      cases htz : isTup z with
      | true => rw [htz] at h1; cases h1
      | false =>
        rw [htz] at h1
        have hs1 : s1 = ⟨setO s.t y.dst z, s.bx, s.live, s.g⟩ := by
          have : s = ⟨s.t, s.bx, s.live, s.g⟩ := rfl
          rw [← Option.some.inj h1, this, put_t]
        have hsame : sameFor ops i s1 s := same_put (ops := ops) (o := i) (s := s) (s' := s1) (d := y.dst) (x := z) (by rw [hs1]) (fun k hk => p1 k hk)
        have ea : s1.ev ad = s.ev ad := hsame.1 ad (by simp [hio, Op.operands])
        have ex : s1.ev xx = s.ev xx := hsame.1 xx (by simp [hio, Op.operands])
        have hlk : tx ∈ y.looksAt ops := by
          unfold Oper.looksAt
          simp [hyo, Op.operands]
        have hdi : ∀ t' : List AV, (setO t' i.dst (.raw undef)).getD tx .bad = t'.getD tx .bad := by
          intro t'
          cases hd : i.dst with
          | none => rfl
          | some d =>
            have hne : d ≠ tx := fun e => p3 d hd (e ▸ hlk)
            show (t'.set d _).getD tx .bad = _
            rw [List.getD_eq_getElem?_getD, List.getElem?_set_ne hne, ← List.getD_eq_getElem?_getD]
        rw [guard_none hig]
        simp only [aOp, hio] at h2 ⊢
        rw [ea, ex] at h2
        split at h2
        · rename_i b off new hb hnew
          have hbx : s1.bx = s.bx := by rw [hs1]
          rw [hbx] at h2
          split at h2
          · rename_i T' cs hcs
            split at h2
            · rename_i hc
              refine ⟨_, if_pos hc, ?_⟩
              rw [guard_none hyg, hyE]
              have hev : (St.put { s with bx := s.bx.set b (some (T', setCells cs new off)) } i.dst (.raw undef)).ev (.tmp tx) = .tup vs := by
                rw [put_t]
                show (setO s.t i.dst (.raw undef)).getD tx .bad = _
                rw [hdi]
                exact hvs
              rw [hev]
              simp only [hz, htz, cond_false]
              rw [← Option.some.inj h2, hs1]
              simp only [put_t]
              congr 2
              exact (setD_comm s.t z (.raw undef) (fun k hk => p2 k hk)).symm
            · cases h2
          · cases h2
        · rename_i id T' e xs j new hb hnew
          split at h2
          · rename_i v hv
            have hlv : s1.live = s.live := by rw [hs1]
            rw [hlv] at h2
            split at h2
            · rename_i hc
              refine ⟨_, if_pos hc, ?_⟩
              rw [guard_none hyg, hyE]
              have hev : (St.put (wrSt s id j e v) i.dst (.raw undef)).ev (.tmp tx) = .tup (vs.map (wrV2 s.live id j e v)) := by
                unfold wrSt
                rw [put_t]
                show (setO (s.t.map (wrAV s.live id j e v)) i.dst (.raw undef)).getD tx .bad = _
                rw [hdi, List.getD_eq_getElem?_getD, List.getElem?_map]
                have hvs' : s.t.getD tx .bad = .tup vs := hvs
                rw [List.getD_eq_getElem?_getD] at hvs'
                cases hq : s.t[tx]? with
                | none => rw [hq] at hvs'; cases hvs'
                | some q =>
                  rw [hq] at hvs'
                  have hq' : q = .tup vs := hvs'
                  rw [hq']
                  rfl
              rw [hev]
              obtain ⟨w1, w2⟩ := wr_notTup s.live id j e v z htz
              have hget : (vs.map (wrV2 s.live id j e v))[k]? = some (wrV2 s.live id j e v z) := by rw [List.getElem?_map, hz]; rfl
              simp only [hget, w2, cond_false]
              rw [← Option.some.inj h2, hs1]
              unfold wrSt
              simp only [put_t]
              rw [setO_map, w1]
              congr 2
              exact (setD_comm (s.t.map (wrAV s.live id j e v)) (wrV2 s.live id j e v z) (.raw undef) (fun k hk => p2 k hk)).symm
            · cases h2
          · cases h2
        · cases h2
    · cases h1
  · cases h1
theorem comm2 {y i : Oper} {ny ni : Nat} {s s1 s2 : St} (hap : y.apart ops i = true) (hcf : freePair Γ y i = true) (h1 : aGuard Γ ops ny y s some = some s1) (h2 : aGuard Γ ops ni i s1 some = some s2) :
    ∃ s1', aGuard Γ ops ni i s some = some s1' ∧ aGuard Γ ops ny y s1' some = some s2 := by
  unfold freePair at hcf
  rw [Bool.or_eq_true, Bool.or_eq_true] at hcf
  rcases hcf with (hcf | hcf) | hcf
  · exact comm hap hcf h1 h2
  · rw [Bool.and_eq_true] at hcf
    exact comm_alc hap hcf.1 hcf.2 h1 h2
  · rw [Bool.and_eq_true] at hcf
    exact comm_ext hap hcf.1 hcf.2 h1 h2
end
end Go.Eng
/- ENGINE, part R: a region, in whatever order its edges allow. -/
namespace Go.Eng
open Go Go.RowKit
section
variable {Γ : Ctx} {ops : Array Oper} {o : Oper} {n base : Nat} {s s1 : St}
theorem aOp_len (h : aOp Γ n o s some = some s1) : s1.bx.length = s.bx.length := by
  by_cases hw : clsOf Γ o = .wr
  · obtain ⟨op, hop⟩ : ∃ op, o.op = op := ⟨_, rfl⟩
    cases op with
    | store T x y =>
      simp only [aOp, hop] at h
      split at h
      · split at h
        · split at h
          · rw [← Option.some.inj h, put_bx]; exact List.length_set
          · cases h
        · cases h
      · split at h
        · split at h
          · rw [← Option.some.inj h, put_bx]; exact List.length_map _
          · cases h
        · cases h
      · cases h
    | call c =>
      exfalso
      simp only [clsOf, hop] at hw
      split at hw <;> first | (split at hw <;> cases hw) | cases hw
    | buildSlice t l c => exfalso; simp only [clsOf, hop] at hw; split at hw <;> cases hw
    | convert p q c => exfalso; simp only [clsOf, hop] at hw; cases hs : sameSl Γ.P p q <;> rw [hs] at hw <;> cases hw
    | _ => simp [clsOf, hop] at hw
  by_cases hc : clsOf Γ o = .other ∨ clsOf Γ o = .app
  · obtain ⟨op, hop⟩ : ∃ op, o.op = op := ⟨_, rfl⟩
    cases op with
    | box T x =>
      simp only [aOp, hop] at h
      split at h
      · split at h
        · rw [← Option.some.inj h, put_bx]; exact List.length_set
        · cases h
      · cases h
    | convert src dst x =>
      cases hss : sameSl Γ.P src dst with
      | false => simp [clsOf, hop, hss] at hc
      | true =>
        simp only [aOp, hop, hss, cond_true] at h
        unfold convS at h
        split at h
        · split at h
          · split at h
            · split at h
              · rw [← Option.some.inj h, put_bx]
              · cases h
            · cases h
          · cases h
        · cases h
    | buildSlice t len parts =>
      simp only [aOp, hop] at h
      split at h
      · split at h
        · split at h
          · rw [← Option.some.inj h, put_bx]
          · cases h
        · cases h
      · cases h
    | alloc T =>
      simp only [aOp, hop] at h
      split at h
      · split at h
        · split at h
          · rw [← Option.some.inj h, put_bx]; exact List.length_set
          · cases h
        · cases h
      · cases h
    | call c =>
      simp only [aOp, hop] at h
      split at h
      · split at h
        · obtain ⟨z, h1, _⟩ := callA_eff h
          rw [h1, put_bx]
        · cases h
      · rename_i hcal; simp [clsOf, hop, hcal] at hc
      · rename_i hcal; simp [clsOf, hop, hcal] at hc
      · rename_i hcal; simp [clsOf, hop, hcal] at hc
      · split at h
        · unfold appendA at h
          split at h
          · split at h
            · split at h
              · split at h
                · split at h
                  · rw [← Option.some.inj h, put_bx]
                  · cases h
                · cases h
              · split at h
                · split at h
                  · rw [← Option.some.inj h, put_bx]
                  · cases h
                · cases h
              · cases h
            · cases h
          · cases h
        · cases h
      · cases h
    | _ => simp [clsOf, hop] at hc <;> simp [aOp, hop] at h
  · obtain ⟨z, h1, _⟩ := free_eff (fun h => hc (.inl h)) hw (fun h => hc (.inr h)) h
    rw [h1, put_bx]
theorem aGuard_len (h : aGuard Γ ops n o s some = some s1) : s1.bx.length = s.bx.length := by
  rcases guard_cases h with ⟨h1, _⟩ | ⟨h1, _⟩
  · exact aOp_len h1
  · rw [h1, put_bx]
end
section
variable {R : Type} {Γ : Ctx} {ops : Array Oper} {base : Nat}
theorem aOps_nat (hΓ : CallsOk Γ) {K : St → Option R} : ∀ (l : List Nat) (base : Nat) (s : St), aOps Γ ops base l s K = (aOps Γ ops base l s some).bind K
  | [], _, s => rfl
  | i :: l, base, s => by
    simp only [aOps, fNat_eq, fSt_eq]
    cases ho : ops[i]? with
    | none => rfl
    | some o =>
      simp only
      cases hI : mayInl Γ o with
      | false =>
        simp only
        rw [aGuard_nat (K := fun s' => aOps Γ ops base l s' K), aGuard_nat (K := fun s' => aOps Γ ops base l s' some), Option.bind_assoc]
        congr 1
        funext s'
        exact aOps_nat hΓ l base s'
      | true =>
        simp only
        rw [aInl_nat hΓ (K := fun s' => aOps Γ ops s'.bx.length l { s' with bx := s'.bx ++ List.replicate ops.size none } K), aInl_nat hΓ (K := fun s' => aOps Γ ops s'.bx.length l { s' with bx := s'.bx ++ List.replicate ops.size none } some), Option.bind_assoc]
        congr 1
        funext s'
        exact aOps_nat hΓ l _ _
theorem aOps_cons {i : Nat} {o : Oper} (ho : ops[i]? = some o) (hI : mayInl Γ o = false) (l : List Nat) (s : St) : aOps Γ ops base (i :: l) s some = (aGuard Γ ops (base + i) o s some).bind fun s' => aOps Γ ops base l s' some := by
  simp only [aOps, ho, hI, fNat_eq, fSt_eq]
  exact aGuard_nat
theorem aOps_consI (hΓ : CallsOk Γ) {i : Nat} {o : Oper} (ho : ops[i]? = some o) (hI : mayInl Γ o = true) (l : List Nat) (s : St) :
    aOps Γ ops base (i :: l) s some = (aInl Γ ops o s some).bind fun s' => aOps Γ ops s'.bx.length l { s' with bx := s'.bx ++ List.replicate ops.size none } some := by
  simp only [aOps, ho, hI, fNat_eq]
  exact aInl_nat hΓ
/-- What waits for nothing that stands ahead of it may come first. -/
theorem move_front {i : Nat} {o : Oper} (ho : ops[i]? = some o) (hI : mayInl Γ o = false) {send : St} : ∀ (pre post : List Nat) (s : St), aOps Γ ops base (pre ++ i :: post) s some = some send →
    (∀ y ∈ pre, ∃ oy, ops[y]? = some oy ∧ oy.apart ops o = true ∧ freePair Γ oy o = true ∧ mayInl Γ oy = false) →
    ∃ s', aGuard Γ ops (base + i) o s some = some s' ∧ aOps Γ ops base (pre ++ post) s' some = some send
  | [], post, s, h, _ => by
    rw [List.nil_append, aOps_cons ho hI] at h
    exact bind_some h
  | y :: pre, post, s, h, hp => by
    obtain ⟨oy, hoy, ha, hc, hIy⟩ := hp y List.mem_cons_self
    rw [List.cons_append, aOps_cons hoy hIy] at h
    obtain ⟨s1, h1, h2⟩ := bind_some h
    obtain ⟨s2, h3, h4⟩ := move_front ho hI pre post s1 h2 (fun z hz => hp z (List.mem_cons_of_mem _ hz))
    obtain ⟨s1', h5, h6⟩ := comm2 ha hc h1 h3
    refine ⟨s1', h5, ?_⟩
    rw [List.cons_append, aOps_cons hoy hIy, h6]
    exact h4
end
section
variable {R : Type} {Γ : Ctx} {w0 : World} {Nin : Env} {D : Nat → Prop} {s : St} {m : Mp} {a : Act} {w : World} {ops : Array Oper} {o : Oper} {K : St → Option R} {r : R} {Q : Exit → Act → World → Prop} {n i base : Nat}
theorem ext_get {l : List (Option (TypeId × List AV))} {n i : Nat} {x : TypeId × List AV} : (l ++ List.replicate n none)[i]? = some (some x) ↔ l[i]? = some (some x) := by
  by_cases h : i < l.length
  · rw [List.getElem?_append_left h]
  · rw [List.getElem?_append_right (by omega), List.getElem?_replicate, List.getElem?_eq_none (by omega)]
    constructor
    · intro h; split at h <;> cases h
    · intro h; cases h
theorem ext_sound (h : Inv w0 Nin D s m a w) (n : Nat) : Inv w0 Nin D { s with bx := s.bx ++ List.replicate n none } m a w := by
  have hg : ∀ (i : Nat) (T : TypeId) (cs : List AV), (s.bx ++ List.replicate n none)[i]? = some (some (T, cs)) → s.bx[i]? = some (some (T, cs)) := fun i T cs hi => ext_get.1 hi
  have hN : ∀ b, (vw w0 Nin s m w).N b → (vw w0 Nin { s with bx := s.bx ++ List.replicate n none } m w).N b := fun b ⟨c1, c2, c3, c4⟩ => ⟨c1, c2, c3, fun i T cs hi => c4 i T cs (hg i T cs hi)⟩
  have hto : (vw w0 Nin s m w).To (vw w0 Nin { s with bx := s.bx ++ List.replicate n none } m w) :=
    ⟨rfl, fun b hb => ⟨hN b hb, rfl⟩, fun b hi hb => ⟨hb.imp (hN b) id, fun _ _ => rfl⟩, fun τ hu => ⟨hu, fun hl => ⟨hl, rfl, rfl, fun _ _ => rfl⟩⟩, fun b ⟨T, cs, hb⟩ => ⟨⟨T, cs, ext_get.2 hb⟩, rfl⟩⟩
  exact h.next (s' := { s with bx := s.bx ++ List.replicate n none }) (m' := m) rfl hto h.below h.toks h.inj
    (fun b T cs hb => by
      obtain ⟨c1, vs, c2, c3, c4⟩ := h.boxes b T cs (hg b T cs hb)
      exact ⟨c1, vs, c2, all2_imp (fun _ _ => hto.v1) _ _ c3, c4⟩)
    (fun b T cs b' T' cs' hb hb' he => h.binj b T cs b' T' cs' (hg b T cs hb) (hg b' T' cs' hb') he)
    (fun τ k b T cs hl hG hb => h.sep τ k b T cs hl hG (hg b T cs hb)) h.uD (fun b T cs hb => h.bD b T cs (hg b T cs hb)) h.liveU
theorem guard_sound (hΓ : CallsOk Γ) (ho : ops[i]? = some o) (hn : ¬ D n) (h : aGuard Γ ops n o s K = some r) (hi : Inv w0 Nin D s m a w) :
    wpOp Γ.P ops Q i (Post K r w0 Nin (fun k => D k ∨ k = n)) a w := by
  unfold wpOp
  rw [ho]
  simp only
  unfold aGuard at h
  split at h
  · rename_i hg
    have hw : Region.wanted o (yielded ops a.tmps) = true := by simp [Region.wanted, hg]
    rw [if_pos hw]
    exact .inl (aOp_sound hn hΓ h hi)
  · rename_i j want hg
    split at h
    · cases h
    · rename_i g hd
      split at h
      · rename_i b hb
        obtain ⟨hlt, hget⟩ := getD_lt hb (by simp)
        have hlt' : g < a.tmps.size := by rw [hi.tlen]; exact hlt
        have hv := hi.tmps g _ _ hget (Array.getElem?_eq_getElem hlt')
        have hv' := V_bool hv
        have hy : yielded ops a.tmps j = some b := by
          unfold yielded
          rw [hd]
          simp only [Option.bind_some, Array.getElem?_eq_getElem hlt', hv']
        cases hbw : (b : Bool) == want with
        | true =>
          have hbe : b = want := by simpa using hbw
          subst hbe
          rw [hbw] at h
          simp only [cond_true] at h
          rw [self_put hb (by simp)] at h
          rw [if_pos (by simp [Region.wanted, hg, hy])]
          exact .inl (aOp_sound hn hΓ h hi)
        | false =>
          have hbe : b = !want := by cases b <;> cases want <;> first | rfl | (cases hbw)
          rw [hbw] at h
          simp only [cond_false] at h
          rw [self_put (by rw [hb, hbe]) (by simp)] at h
          rw [if_neg (by rw [hbe] at hy; cases want <;> simp [Region.wanted, hg, hy])]
          exact ⟨_, m, h, (hi.put o.dst (x := .raw undef) rfl).wider (fun _ hk => .inl hk)⟩
      · rename_i vs hb
        obtain ⟨hlt, hget⟩ := getD_lt hb (by simp)
        have hlt' : g < a.tmps.size := by rw [hi.tlen]; exact hlt
        have hv := hi.tmps g _ _ hget (Array.getElem?_eq_getElem hlt')
        have hv' : a.tmps[g] = .tuple vs := hv
        have hy : yielded ops a.tmps j = none := by
          unfold yielded
          rw [hd]
          simp only [Option.bind_some, Array.getElem?_eq_getElem hlt', hv']
        rw [if_neg (by simp [Region.wanted, hg, hy])]
        exact ⟨_, m, h, (hi.put o.dst (x := .raw undef) rfl).wider (fun _ hk => .inl hk)⟩
      · cases h
theorem inlg_sound (hΓ : CallsOk Γ) (ho : ops[i]? = some o) {s1 : St} (h : aInl Γ ops o s some = some s1) (hi : Inv w0 Nin (fun k => k < s.bx.length) s m a w) :
    wpOp Γ.P ops Q i (fun a' w' => ∃ m', Inv w0 Nin (fun k => k < s1.bx.length) s1 m' a' w') a w := by
  have go : goInl Γ o s some = some s1 → o.wp Γ.P a w (fun a' w' => ∃ m', Inv w0 Nin (fun k => k < s1.bx.length) s1 m' a' w') Q := by
    intro h
    unfold goInl at h
    split at h
    case h_2 => cases h
    rename_i f caps c hI
    rw [hΓ.nat] at h
    obtain ⟨⟨x, s'⟩, h1, h2⟩ := bind_some h
    have h2' : s'.put o.dst x = s1 := Option.some.inj h2
    refine snd_inl hΓ hI h1 hi (fun a' w' hp => ?_)
    rw [← h2', put_bx]
    exact hp
  unfold wpOp
  rw [ho]
  simp only
  unfold aInl at h
  split at h
  · rename_i hg
    have hw : Region.wanted o (yielded ops a.tmps) = true := by simp [Region.wanted, hg]
    rw [if_pos hw]
    exact .inl (go h)
  · rename_i j want hg
    split at h
    · cases h
    · rename_i g hd
      split at h
      · rename_i b hb
        obtain ⟨hlt, hget⟩ := getD_lt hb (by simp)
        have hlt' : g < a.tmps.size := by rw [hi.tlen]; exact hlt
        have hv := hi.tmps g _ _ hget (Array.getElem?_eq_getElem hlt')
        have hv' := V_bool hv
        have hy : yielded ops a.tmps j = some b := by
          unfold yielded
          rw [hd]
          simp only [Option.bind_some, Array.getElem?_eq_getElem hlt', hv']
        cases hbw : (b : Bool) == want with
        | true =>
          have hbe : b = want := by simpa using hbw
          subst hbe
          rw [hbw] at h
          simp only [cond_true] at h
          rw [self_put hb (by simp)] at h
          rw [if_pos (by simp [Region.wanted, hg, hy])]
          exact .inl (go h)
        | false =>
          have hbe : b = !want := by cases b <;> cases want <;> first | rfl | (cases hbw)
          rw [hbw] at h
          simp only [cond_false] at h
          rw [self_put (by rw [hb, hbe]) (by simp)] at h
          rw [if_neg (by rw [hbe] at hy; cases want <;> simp [Region.wanted, hg, hy])]
          rw [← Option.some.inj h, put_bx]
          exact ⟨m, hi.put o.dst (x := .raw undef) rfl⟩
      · rename_i vs hb
        obtain ⟨hlt, hget⟩ := getD_lt hb (by simp)
        have hlt' : g < a.tmps.size := by rw [hi.tlen]; exact hlt
        have hv := hi.tmps g _ _ hget (Array.getElem?_eq_getElem hlt')
        have hv' : a.tmps[g] = .tuple vs := hv
        have hy : yielded ops a.tmps j = none := by
          unfold yielded
          rw [hd]
          simp only [Option.bind_some, Array.getElem?_eq_getElem hlt', hv']
        rw [if_neg (by simp [Region.wanted, hg, hy])]
        rw [← Option.some.inj h, put_bx]
        exact ⟨m, hi.put o.dst (x := .raw undef) rfl⟩
      · cases h
theorem seq_sound (hΓ : CallsOk Γ) {send : St} : ∀ (l : List Nat) (base : Nat) {D : Nat → Prop} {s : St} {m : Mp} {a : Act} {w : World}, aOps Γ ops base l s some = some send → (∀ i ∈ l, ¬ D (base + i) ∧ i < ops.size) → l.Nodup → (∀ k, D k → k < s.bx.length) → base + ops.size ≤ s.bx.length → Inv w0 Nin D s m a w →
    (∀ a' w', (∃ m', Inv w0 Nin (fun k => k < send.bx.length) send m' a' w') → Q .normal a' w') → wpOps Γ.P ops Q l a w
  | [], _, D, s, m, a, w, h, _, _, hB, _, hi, hQ => by
    have hs : s = send := by simpa [aOps] using h
    subst hs
    exact hQ a w ⟨m, hi.wider hB⟩
  | i :: l, base, D, s, m, a, w, h, hl, hnd, hB, hbase, hi, hQ => by
    rw [wpOps_cons]
    have hnd' := List.nodup_cons.1 hnd
    have hil := hl i List.mem_cons_self
    have ho : ops[i]? = some ops[i] := Array.getElem?_eq_getElem hil.2
    cases hI : mayInl Γ ops[i] with
    | false =>
      rw [aOps_cons ho hI] at h
      obtain ⟨s1, h1, h2⟩ := bind_some h
      have hlen := aGuard_len h1
      refine wpOp_mono (fun a' w' hp => ?_) (guard_sound (K := some) (r := s1) (D := D) hΓ ho hil.1 h1 hi)
      obtain ⟨s', m', h3, h4⟩ := hp
      have hs : s' = s1 := Option.some.inj h3
      subst hs
      refine seq_sound hΓ l base h2 (fun j hj => ⟨fun hD => ?_, (hl j (List.mem_cons_of_mem _ hj)).2⟩) hnd'.2 (fun k hk => ?_) (by omega) h4 hQ
      · rcases hD with hD | hD
        · exact (hl j (List.mem_cons_of_mem _ hj)).1 hD
        · have : j = i := by omega
          exact hnd'.1 (this ▸ hj)
      · rcases hk with hk | hk
        · have := hB k hk; omega
        · have := hil.2; omega
    | true =>
      rw [aOps_consI hΓ ho hI] at h
      obtain ⟨s1, h1, h2⟩ := bind_some h
      refine wpOp_mono (fun a' w' hp => ?_) (inlg_sound hΓ ho h1 (hi.wider hB))
      obtain ⟨m', h4⟩ := hp
      exact seq_sound hΓ l s1.bx.length h2 (fun j hj => ⟨fun hD => by have hD' : s1.bx.length + j < s1.bx.length := hD; omega, (hl j (List.mem_cons_of_mem _ hj)).2⟩) hnd'.2 (fun k hk => by have hk' : k < s1.bx.length := hk; simp only [List.length_append]; omega) (by simp) (ext_sound h4 ops.size) hQ
/-! ### any order -/
theorem masksOf_app : ∀ (l : List Oper) (ms : List Nat), ∃ t, masksOf l ms = ms ++ t
  | [], ms => ⟨[], by simp [masksOf]⟩
  | o :: l, ms => by
    obtain ⟨t, ht⟩ := masksOf_app l (ms ++ [edgeMask ms o.after.toList])
    exact ⟨_, by rw [masksOf, ht, List.append_assoc]⟩
theorem masksOf_get : ∀ (l : List Oper) (ms : List Nat) (i : Nat) (o : Oper), l[i]? = some o → (masksOf l ms).getD (ms.length + i) 0 = edgeMask ((masksOf l ms).take (ms.length + i)) o.after.toList
  | [], _, _, _, h => by simp at h
  | o :: l, ms, 0, o', h => by
    simp only [List.getElem?_cons_zero, Option.some.injEq] at h
    subst h
    obtain ⟨t, ht⟩ := masksOf_app l (ms ++ [edgeMask ms o.after.toList])
    rw [masksOf, ht, Nat.add_zero]
    simp
  | o :: l, ms, i + 1, o', h => by
    rw [List.getElem?_cons_succ] at h
    have := masksOf_get l (ms ++ [edgeMask ms o.after.toList]) i o' h
    rw [List.length_append, List.length_singleton] at this
    rw [masksOf, show ms.length + (i + 1) = ms.length + 1 + i by omega]
    exact this
theorem edgeMask_bit : ∀ (es : List Edge) (ms : List Nat) (y : Nat), hasBit (edgeMask ms es) y = true → ∃ e ∈ es, Region.binds .any e = true ∧ (y = e.on ∨ hasBit (ms.getD e.on 0) y = true)
  | [], ms, y, h => by simp [edgeMask, hasBit] at h
  | e :: es, ms, y, h => by
    simp only [edgeMask] at h
    split at h
    · rename_i hb
      unfold hasBit at h
      rw [Nat.testBit_or, Nat.testBit_or, Bool.or_eq_true, Bool.or_eq_true] at h
      rcases h with (h | h) | h
      · rw [Nat.testBit_two_pow] at h
        exact ⟨e, List.mem_cons_self, hb, .inl (of_decide_eq_true h).symm⟩
      · exact ⟨e, List.mem_cons_self, hb, .inr h⟩
      · obtain ⟨e', h1, h2⟩ := edgeMask_bit es ms y h
        exact ⟨e', List.mem_cons_of_mem _ h1, h2⟩
    · obtain ⟨e', h1, h2⟩ := edgeMask_bit es ms y h
      exact ⟨e', List.mem_cons_of_mem _ h1, h2⟩
theorem pairs_get {masks : List Nat} : ∀ (l : List (Oper × Nat)), pairsOk Γ ops masks l = true → ∀ o i, (o, i) ∈ l → edgesBack o i = true ∧ ∀ y j, (y, j) ∈ ops.toList.zipIdx → j < i → hasBit (masks.getD i 0) j = true ∨ (Oper.apart ops y o = true ∧ freePair Γ y o = true ∧ mayInl Γ y = false ∧ mayInl Γ o = false)
  | [], _, _, _, h => by cases h
  | (o', i') :: l, h, o, i, hm => by
    simp only [pairsOk, Bool.and_eq_true] at h
    rcases List.mem_cons.1 hm with he | hm
    · simp only [Prod.mk.injEq] at he
      obtain ⟨rfl, rfl⟩ := he
      refine ⟨h.1.1, fun y j hy hji => ?_⟩
      have := List.all_eq_true.1 h.1.2 (y, j) hy
      simp only [Bool.or_eq_true, Bool.not_eq_true', Bool.and_eq_true] at this
      rcases this with (h1 | h1) | h1
      · have : Nat.blt j i = true := Nat.ble_eq_true_of_le hji
        rw [this] at h1; cases h1
      · exact .inl h1
      · exact .inr ⟨h1.1.1.1, h1.1.1.2, by simpa using h1.1.2, by simpa using h1.2⟩
    · exact pairs_get l h.2 o i hm
def remaining (ops : Array Oper) (listed : Array Bool) : List Nat := (List.range ops.size).filter fun i => !listed.getD i true
theorem mem_zipIdx {i : Nat} {o : Oper} (ho : ops[i]? = some o) : (o, i) ∈ ops.toList.zipIdx := by
  rw [List.mem_zipIdx_iff_getElem?]
  simpa using ho
theorem any_sound (hΓ : CallsOk Γ) (hok : regionOk Γ ops = true) {send : St}
    (hQ : ∀ a' w', (∃ m', Inv w0 Nin (fun k => k < send.bx.length) send m' a' w') → Q .normal a' w') :
    ∀ (fuel : Nat) (listed : Array Bool) (base : Nat) (D : Nat → Prop) (s : St) (m : Mp) (a : Act) (w : World), listed.size = ops.size → (remaining ops listed).length = fuel → (∀ j, j < ops.size → listed.getD j true = true → ∀ o, ops[j]? = some o → ∀ e ∈ o.after.toList, Region.binds .any e = true → listed.getD e.on false = true) →
      aOps Γ ops base (remaining ops listed) s some = some send → (∀ i ∈ remaining ops listed, ¬ D (base + i)) → (∀ k, D k → k < s.bx.length) → base + ops.size ≤ s.bx.length → Inv w0 Nin D s m a w → wpAny Γ.P .any ops Q fuel listed a w := by
  intro fuel
  induction fuel with
  | zero =>
    intro listed base D s m a w _ hlen _ hrun _ hB _ hi
    have hnil : remaining ops listed = [] := List.eq_nil_of_length_eq_zero hlen
    rw [hnil] at hrun
    have hs : s = send := by simpa [aOps] using hrun
    refine ⟨?_, hQ a w ⟨m, hs ▸ hi.wider hB⟩⟩
    unfold Region.ready
    rw [List.filter_eq_nil_iff]
    intro i hir hc
    have : i ∈ remaining ops listed := List.mem_filter.2 ⟨hir, by simp only [Bool.and_eq_true] at hc; exact hc.1⟩
    rw [hnil] at this
    cases this
  | succ fuel ih =>
    intro listed base D s m a w hsz hlen hclosed hrun hD0 hB hbase hi
    have hpairs := pairs_get (Γ := Γ) (ops := ops) (masks := masksOf ops.toList []) ops.toList.zipIdx hok
    have hget : ∀ i, i < ops.size → ∃ o, ops[i]? = some o := fun i hlt => ⟨ops[i], Array.getElem?_eq_getElem hlt⟩
    have hback : ∀ i o, ops[i]? = some o → ∀ e ∈ o.after.toList, Region.binds .any e = true → e.on < i := by
      intro i o ho e he hb
      have h1 := (hpairs o i (mem_zipIdx ho)).1
      unfold edgesBack at h1
      have := List.all_eq_true.1 h1 e he
      simp only [Bool.or_eq_true, Bool.not_eq_true', hb, Bool.true_eq_false, false_or] at this
      exact Nat.le_of_ble_eq_true this
    -- what the masks name is listed
    have hmask : ∀ j, j < ops.size → (∀ o, ops[j]? = some o → ∀ e ∈ o.after.toList, Region.binds .any e = true → listed.getD e.on false = true) → ∀ y, hasBit ((masksOf ops.toList []).getD j 0) y = true → listed.getD y false = true := by
      intro j
      induction j using Nat.strongRecOn with
      | _ j ihj =>
        intro hj hdir y hy
        obtain ⟨o, ho⟩ := hget j hj
        have hg := masksOf_get ops.toList [] j o (by simpa using ho)
        simp only [List.length_nil, Nat.zero_add] at hg
        rw [hg] at hy
        obtain ⟨e, he, hb, h1⟩ := edgeMask_bit _ _ y hy
        have hlt := hback j o ho e he hb
        rcases h1 with rfl | h1
        · exact hdir o ho e he hb
        · have hl := hdir o ho e he hb
          have htake : ((masksOf ops.toList []).take j).getD e.on 0 = (masksOf ops.toList []).getD e.on 0 := by
            rw [List.getD_eq_getElem?_getD, List.getD_eq_getElem?_getD, List.getElem?_take, if_pos hlt]
          rw [htake] at h1
          refine ihj e.on hlt (by omega) (fun o' ho' e' he' hb' => ?_) y h1
          have hlt' : e.on < listed.size := by omega
          refine hclosed e.on (by omega) ?_ o' ho' e' he' hb'
          rw [Array.getD_eq_getD_getElem?, Array.getElem?_eq_getElem hlt'] at hl ⊢
          exact hl
    refine ⟨fun hnone => ?_, fun i hir => ?_⟩
    · -- the first one that is left is ready
      exfalso
      cases hrem : remaining ops listed with
      | nil => rw [hrem] at hlen; cases hlen
      | cons i0 rest =>
        have hmem : i0 ∈ remaining ops listed := by rw [hrem]; exact List.mem_cons_self
        obtain ⟨h1, h2⟩ := List.mem_filter.1 hmem
        have hlt : i0 < ops.size := List.mem_range.1 h1
        obtain ⟨o, ho⟩ := hget i0 hlt
        have hready : i0 ∈ Region.ready .any ops listed := by
          unfold Region.ready
          refine List.mem_filter.2 ⟨h1, ?_⟩
          rw [Bool.and_eq_true]
          refine ⟨h2, ?_⟩
          rw [ho]
          simp only [Option.map_some, Option.getD_some]
          rw [Array.all_eq_true_iff_forall_mem]
          intro e he
          simp only [Bool.or_eq_true, Bool.not_eq_true']
          cases hb : Region.binds .any e with
          | false => exact .inl rfl
          | true =>
            right
            have hlt' := hback i0 o ho e (by simpa using he) hb
            -- smaller than the first that is left: listed
            by_cases hl : listed.getD e.on false = true
            · exact hl
            · exfalso
              have hlt'' : e.on < listed.size := by omega
              have hin : e.on ∈ remaining ops listed := by
                refine List.mem_filter.2 ⟨List.mem_range.2 (by omega), ?_⟩
                rw [Array.getD_eq_getD_getElem?, Array.getElem?_eq_getElem hlt''] at hl ⊢
                simpa using hl
              have hsorted : (remaining ops listed).Pairwise (· < ·) := List.Pairwise.filter _ List.pairwise_lt_range
              rw [hrem] at hin hsorted
              rcases List.mem_cons.1 hin with he' | hin
              · omega
              · have := (List.pairwise_cons.1 hsorted).1 _ hin; omega
        rw [hnone] at hready
        cases hready
    · obtain ⟨h1, h2⟩ := List.mem_filter.1 hir
      have hlt : i < ops.size := List.mem_range.1 h1
      obtain ⟨o, ho⟩ := hget i hlt
      rw [Bool.and_eq_true] at h2
      obtain ⟨h2, h3⟩ := h2
      rw [ho] at h3
      simp only [Option.map_some, Option.getD_some] at h3
      have hdir : ∀ e ∈ o.after.toList, Region.binds .any e = true → listed.getD e.on false = true := by
        intro e he hb
        have := (Array.all_eq_true_iff_forall_mem.1 h3) e (by simpa using he)
        simp only [Bool.or_eq_true, Bool.not_eq_true', hb, Bool.true_eq_false, false_or] at this
        exact this
      have hlt' : i < listed.size := by omega
      have hmem : i ∈ remaining ops listed := List.mem_filter.2 ⟨h1, h2⟩
      obtain ⟨pre, post, hsplit⟩ := List.append_of_mem hmem
      have hsorted : (remaining ops listed).Pairwise (· < ·) := List.Pairwise.filter _ List.pairwise_lt_range
      rw [hsplit] at hrun hsorted
      have hpre : ∀ y ∈ pre, y < i := fun y hy => (List.pairwise_append.1 hsorted).2.2 y hy i List.mem_cons_self
      have hpost : ∀ y ∈ post, i < y := fun y hy => (List.pairwise_cons.1 (List.pairwise_append.1 hsorted).2.1).1 y hy
      have hfree : ∀ y ∈ pre, ∃ oy, ops[y]? = some oy ∧ oy.apart ops o = true ∧ freePair Γ oy o = true ∧ mayInl Γ oy = false ∧ mayInl Γ o = false := fun y hy => by
        have hy' : y ∈ remaining ops listed := by rw [hsplit]; exact List.mem_append_left _ hy
        obtain ⟨hy1, hy2⟩ := List.mem_filter.1 hy'
        have hylt : y < ops.size := List.mem_range.1 hy1
        obtain ⟨oy, hoy⟩ := hget y hylt
        refine ⟨oy, hoy, ?_⟩
        rcases (hpairs o i (mem_zipIdx ho)).2 oy y (mem_zipIdx hoy) (hpre y hy) with hb | hb
        · exfalso
          have := hmask i hlt (fun o' ho' e he hb' => by rw [ho] at ho'; cases ho'; exact hdir e he hb') y hb
          have hyl : y < listed.size := by omega
          rw [Array.getD_eq_getD_getElem?, Array.getElem?_eq_getElem hyl] at this hy2
          simp only [Option.getD_some] at this hy2
          rw [this] at hy2
          cases hy2
        · exact hb
      have hset : ∀ k, (listed.setIfInBounds i true).getD k true = (if k = i then true else listed.getD k true) := by
        intro k
        rw [Array.getD_eq_getD_getElem?, Array.getElem?_setIfInBounds]
        by_cases hk : i = k
        · subst hk; simp [hlt']
        · rw [if_neg hk, if_neg (fun h => hk h.symm), Array.getD_eq_getD_getElem?]
      have hset' : ∀ k, (listed.setIfInBounds i true).getD k false = (if k = i then true else listed.getD k false) := by
        intro k
        rw [Array.getD_eq_getD_getElem?, Array.getElem?_setIfInBounds]
        by_cases hk : i = k
        · subst hk; simp [hlt']
        · rw [if_neg hk, if_neg (fun h => hk h.symm), Array.getD_eq_getD_getElem?]
      have hrem' : remaining ops (listed.setIfInBounds i true) = pre ++ post := by
        have e1 : remaining ops (listed.setIfInBounds i true) = (remaining ops listed).filter (fun k => k != i) := by
          unfold remaining
          rw [List.filter_filter]
          apply List.filter_congr
          intro k _
          rw [hset k]
          by_cases hk : k = i
          · subst hk; simp
          · simp [hk]
        rw [e1, hsplit, List.filter_append, List.filter_cons]
        simp only [bne_self_eq_false, Bool.false_eq_true, if_false]
        rw [List.filter_eq_self.2 (fun y hy => by have := hpre y hy; simp; omega), List.filter_eq_self.2 (fun y hy => by have := hpost y hy; simp; omega)]
      have hlen' : (remaining ops (listed.setIfInBounds i true)).length = fuel := by
        rw [hrem']
        rw [hsplit] at hlen
        simp only [List.length_append, List.length_cons] at hlen ⊢
        omega
      have hclosed' : ∀ j, j < ops.size → (listed.setIfInBounds i true).getD j true = true → ∀ o, ops[j]? = some o → ∀ e ∈ o.after.toList, Region.binds .any e = true → (listed.setIfInBounds i true).getD e.on false = true := by
        intro j hj hjl o' ho' e he hb
        rw [hset']
        by_cases hei : e.on = i
        · rw [if_pos hei]
        · rw [if_neg hei]
          rw [hset] at hjl
          by_cases hji : j = i
          · subst hji
            rw [ho] at ho'
            cases ho'
            exact hdir e he hb
          · rw [if_neg hji] at hjl
            exact hclosed j hj hjl o' ho' e he hb
      have hne : ∀ j ∈ pre ++ post, j ≠ i ∧ j ∈ remaining ops listed := by
        intro j hj
        rcases List.mem_append.1 hj with hj | hj
        · exact ⟨Nat.ne_of_lt (hpre j hj), by rw [hsplit]; exact List.mem_append_left _ hj⟩
        · exact ⟨Nat.ne_of_gt (hpost j hj), by rw [hsplit]; exact List.mem_append_right _ (List.mem_cons_of_mem _ hj)⟩
      cases hI : mayInl Γ o with
      | false =>
        obtain ⟨s', h4, h5⟩ := move_front ho hI pre post s hrun (fun y hy => by obtain ⟨oy, c1, c2, c3, c4, _⟩ := hfree y hy; exact ⟨oy, c1, c2, c3, c4⟩)
        have hlen1 := aGuard_len h4
        refine wpOp_mono (fun a' w' hp => ?_) (guard_sound (K := some) (r := s') (Q := Q) hΓ ho (hD0 i hmem) h4 hi)
        obtain ⟨s'', m', he, hi'⟩ := hp
        have hs : s'' = s' := Option.some.inj he
        subst hs
        refine ih _ base _ s'' m' a' w' (by rw [Array.size_setIfInBounds]; exact hsz) hlen' hclosed' (by rw [hrem']; exact h5) (fun j hj => ?_) (fun k hk => ?_) (by omega) hi'
        · rw [hrem'] at hj
          obtain ⟨e1, e2⟩ := hne j hj
          rintro (hd | hd)
          · exact hD0 j e2 hd
          · exact e1 (by omega)
        · rcases hk with hk | hk
          · have := hB k hk; omega
          · omega
      | true =>
        have hpn : pre = [] := by
          cases pre with
          | nil => rfl
          | cons y _ =>
            obtain ⟨_, _, _, _, _, c5⟩ := hfree y List.mem_cons_self
            rw [hI] at c5; cases c5
        subst hpn
        rw [List.nil_append, aOps_consI hΓ ho hI] at hrun
        obtain ⟨s1, h4, h5⟩ := bind_some hrun
        refine wpOp_mono (fun a' w' hp => ?_) (inlg_sound (Q := Q) hΓ ho h4 (hi.wider hB))
        obtain ⟨m', hi'⟩ := hp
        exact ih _ s1.bx.length (fun k => k < s1.bx.length) _ m' a' w' (by rw [Array.size_setIfInBounds]; exact hsz) hlen' hclosed' (by rw [hrem', List.nil_append]; exact h5) (fun j _ hj => by have hj' : s1.bx.length + j < s1.bx.length := hj; omega) (fun k hk => by have hk' : k < s1.bx.length := hk; simp only [List.length_append]; omega) (by simp) (ext_sound hi' ops.size)
end
end Go.Eng
/- ENGINE, part S: a loop's head: dead temporaries are struck, names are given anew. -/
namespace Go.Eng
open Go Go.RowKit
theorem addId_mem {l : List Nat} {i j : Nat} : j ∈ addId l i ↔ j ∈ l ∨ j = i := by
  unfold addId
  split
  · rename_i h
    have : i ∈ l := by
      obtain ⟨k, hk, he⟩ := List.any_eq_true.1 h
      rw [Nat.eq_of_beq_eq_true he]; exact hk
    exact ⟨.inl, fun h => h.elim id fun he => he ▸ this⟩
  · simp
theorem addId_nodup {l : List Nat} {i : Nat} (h : l.Nodup) : (addId l i).Nodup := by
  unfold addId
  split
  · exact h
  · rename_i hn
    refine List.nodup_append.2 ⟨h, by simp, fun a ha b hb he => ?_⟩
    rw [List.mem_singleton] at hb
    subst hb he
    exact hn (List.any_eq_true.2 ⟨a, ha, by simp⟩)
theorem capIds_nodup : ∀ (t : List AV) (l : List Nat), l.Nodup → (capIds t l).Nodup
  | [], l, h => h
  | x :: t, l, h => by cases x <;> first | exact capIds_nodup t _ h | exact capIds_nodup t _ (addId_nodup h)
theorem boxIds_nodup : ∀ (t : List AV) (l : List Nat), l.Nodup → (boxIds t l).Nodup
  | [], l, h => h
  | x :: t, l, h => by cases x <;> first | exact boxIds_nodup t _ h | exact boxIds_nodup t _ (addId_nodup h) | exact boxIds_nodup t _ (capIds_nodup _ _ h)
theorem cellIds_nodup : ∀ (t : List AV) (l : List Nat), l.Nodup → (cellIds t l).Nodup
  | [], l, h => h
  | x :: t, l, h => by cases x <;> first | exact cellIds_nodup t _ h | exact cellIds_nodup t _ (addId_nodup h)
theorem tokIds_nodup : ∀ (t : List AV) (l : List Nat), l.Nodup → (tokIds t l).Nodup
  | [], l, h => h
  | x :: t, l, h => by
    cases x <;> first
      | exact tokIds_nodup t _ h
      | exact tokIds_nodup t _ (addId_nodup h)
      | exact tokIds_nodup t _ (cellIds_nodup _ _ h)
theorem idx_get {i : Nat} : ∀ (l : List Nat) (n k : Nat), idx i n l = some k → n ≤ k ∧ l[k - n]? = some i
  | [], _, _, h => by simp [idx] at h
  | j :: l, n, k, h => by
    simp only [idx] at h
    split at h
    · rename_i hb
      simp only [Option.some.injEq] at h
      subst h
      rw [Nat.eq_of_beq_eq_true hb]
      simp
    · obtain ⟨h1, h2⟩ := idx_get l (n + 1) k h
      refine ⟨by omega, ?_⟩
      rw [show k - n = (k - (n + 1)) + 1 by omega, List.getElem?_cons_succ]
      exact h2
theorem liveL_get (live : Nat) : ∀ (l : List Nat) (n t : Nat), hasBit (liveL live n l) t = true ↔ ∃ k i, t = n + k ∧ l[k]? = some i ∧ hasBit live i = true
  | [], n, t => by simp [liveL, hasBit]
  | i :: l, n, t => by
    simp only [liveL]
    constructor
    · intro h
      split at h
      · rename_i hb
        rw [bit_add, Bool.or_eq_true] at h
        rcases h with h | h
        · obtain ⟨k, j, h1, h2, h3⟩ := (liveL_get live l (n + 1) t).1 h
          exact ⟨k + 1, j, by omega, by simpa using h2, h3⟩
        · exact ⟨0, i, (of_decide_eq_true h).symm, rfl, hb⟩
      · obtain ⟨k, j, h1, h2, h3⟩ := (liveL_get live l (n + 1) t).1 h
        exact ⟨k + 1, j, by omega, by simpa using h2, h3⟩
    · rintro ⟨k, j, rfl, h2, h3⟩
      cases k with
      | zero =>
        simp only [List.getElem?_cons_zero, Option.some.injEq] at h2
        subst h2
        rw [if_pos h3, bit_add]; simp
      | succ k =>
        have := (liveL_get live l (n + 1) (n + (k + 1))).2 ⟨k, j, by omega, by simpa using h2, h3⟩
        split
        · rw [bit_add, this]; rfl
        · exact this
theorem killAt_get (m : Nat) : ∀ (l : List AV) (n i : Nat) (x : AV), (killAt m n l)[i]? = some x → x = .bad ∨ l[i]? = some x
  | [], _, _, _, h => by simp [killAt] at h
  | y :: l, n, 0, x, h => by
    simp only [killAt, List.getElem?_cons_zero, Option.some.injEq] at h ⊢
    split at h
    · exact .inl h.symm
    · exact .inr h
  | y :: l, n, i + 1, x, h => by
    simp only [killAt, List.getElem?_cons_succ] at h ⊢
    exact killAt_get m l _ i x h
theorem killAt_len (m : Nat) : ∀ (l : List AV) (n : Nat), (killAt m n l).length = l.length
  | [], _ => rfl
  | _ :: l, n => by simp [killAt, killAt_len m l]
section
variable {q q' : Vw} {bxs toks : List Nat}
/-- One view in another, with names given anew. -/
structure Ren (q q' : Vw) (bxs toks : List Nat) : Prop where
  w : q'.w = q.w
  base : q'.base = q.base
  N : ∀ b, q.N b → q'.N b
  R : ∀ b hi, q.Rd b hi → q'.Rd b hi
  L : ∀ k i, toks[k]? = some i → q.U i → q'.U k ∧ (q'.live k → q.live i ∧ q'.G k = q.G i ∧ q'.E k = q.E i)
  Bx : ∀ k i, bxs[k]? = some i → q.isBox i → q'.isBox k ∧ q'.B k = q.B i
theorem Ren.rep (h : Ren q q' bxs toks) {t : Ty} {x : t.den} {cs : List Value} (hr : rep q.w q.N t x cs) : Eng.rep q'.w q'.N t x cs := by
  rw [h.w]; exact rep_step (fun b hb => ⟨h.N b hb, rfl⟩) t x cs hr
theorem Ren.sl (h : Ren q q' bxs toks) {e : Ty} {xs : List e.den} {v : Value} (hs : q.Sl e xs v) : q'.Sl e xs v := by
  obtain ⟨A, c, inner, he, hl, hr, hc⟩ := hs
  refine ⟨A, c, inner, he, hl, ?_, ?_⟩
  · exact repsOf_imp (fun _ _ hr => h.rep hr) _ _ hr
  · rw [h.w]; exact hc.imp (fun b hi hb => ⟨h.R b hi hb, fun _ _ => rfl⟩)
theorem Ren.cell (h : Ren q q' bxs toks) {x : AV} {v : Value} (hv : V1 q x v) : V1 q' (renCell toks x) v := by
  cases x with
  | own i T e xs =>
    obtain ⟨h0, h1, h2⟩ := hv
    simp only [renCell]
    cases hi : idx i 0 toks with
    | none => trivial
    | some k =>
      obtain ⟨_, hk⟩ := idx_get toks 0 k hi
      rw [Nat.sub_zero] at hk
      obtain ⟨h3, h4⟩ := h.L k i hk h0
      refine ⟨h3, h.sl h1, fun hl => ?_⟩
      obtain ⟨h5, h6, h7⟩ := h4 hl
      obtain ⟨inner, ho, hb, hr, hE⟩ := h2 h5
      exact ⟨inner, by rw [h.w, h.base]; exact ho, by rw [h6]; exact hb, repsOf_imp (fun _ _ hr => h.rep hr) _ _ hr, by rw [h7]; exact hE⟩
  | v t x => exact h.rep hv
  | al e xs => exact h.sl hv
  | nilS => exact hv
  | raw u => exact hv
  | _ => trivial
theorem Ren.cells (h : Ren q q' bxs toks) : ∀ (xs : List AV) (vs : List Value), all2 (V1 q) xs vs → all2 (V1 q') (xs.map (renCell toks)) vs
  | [], [], _ => trivial
  | _ :: xs, _ :: vs, ⟨h0, h1⟩ => ⟨h.cell h0, h.cells xs vs h1⟩
theorem Ren.tmp (h : Ren q q' bxs toks) {x : AV} {v : Value} (hv : V q x v) : V q' (renTmp bxs toks x) v := by
  cases x with
  | agg cs =>
    obtain ⟨vs, he, h2, h1⟩ := (show ∃ vs, _ ∧ _ ∧ _ from hv)
    exact ⟨vs, he, h.cells cs vs h2, h1⟩
  | ptr b off =>
    simp only [renTmp]
    cases hi : idx b 0 bxs with
    | none => trivial
    | some k =>
      obtain ⟨_, hk⟩ := idx_get bxs 0 k hi
      rw [Nat.sub_zero] at hk
      obtain ⟨c1, c2⟩ := (show _ ∧ _ from hv)
      obtain ⟨c3, c4⟩ := h.Bx k b hk c2
      exact ⟨by rw [c4]; exact c1, c3⟩
  | ro cs =>
    obtain ⟨ad, he, h1, h2⟩ := (show ∃ ad, _ ∧ _ ∧ _ from hv)
    refine ⟨ad, he, h1.imp id (h.R _ _), fun j y hj => ?_⟩
    obtain ⟨u, hu, hv0⟩ := h2 j y hj
    refine ⟨u, by rw [h.w]; exact hu, ?_⟩
    cases y <;> first | exact hv0.elim | exact h.rep hv0
  | fn f caps =>
    obtain ⟨vs, h0, h1⟩ := (show ∃ vs : List Value, _ ∧ _ from hv)
    refine ⟨vs, h0, all2_map (fun c z hz => ?_) _ _ h1⟩
    cases c with
    | ptr b off =>
      simp only [renCap]
      cases hi : idx b 0 bxs with
      | none => trivial
      | some k =>
        obtain ⟨_, hk⟩ := idx_get bxs 0 k hi
        rw [Nat.sub_zero] at hk
        obtain ⟨c1, c2⟩ := (show _ ∧ _ from hz)
        obtain ⟨c3, c4⟩ := h.Bx k b hk c2
        exact ⟨by rw [c4]; exact c1, c3⟩
    | raw v => exact hz
    | bad => trivial
    | _ => exact hz.elim
  | tup vs => trivial
  | v t x => exact V_of_V1 (h.cell (x := .v t x) hv)
  | al e xs => exact V_of_V1 (h.cell (x := .al e xs) hv)
  | own i T e xs => exact V_of_V1 (h.cell (x := .own i T e xs) hv)
  | nilS => exact hv
  | raw u => exact hv
  | el i T e xs j => trivial
  | bad => trivial
theorem Ren.g (h : Ren q q' bxs toks) {x : AV} {v : Value} (hv : V q x v) : V q' (renG bxs toks x) v := by
  cases x with
  | ro cs => trivial
  | _ => exact h.tmp hv
end
theorem nilsBx_get : ∀ (l : List (Nat × Nat × TypeId × Ty)) (n : Nat) (bx : List (Option (TypeId × List AV))) (k : Nat) (T : TypeId) (cs' : List AV), (nilsBx n l bx)[k]? = some (some (T, cs')) →
    ∃ cs, bx[k]? = some (some (T, cs)) ∧ ∀ (q : Vw) (vs : List Value), (∀ m, n ≤ m → m < n + l.length → q.U m ∧ q.G m = none ∧ q.E m = 0) → all2 (V1 q) cs vs → all2 (V1 q) cs' vs
  | [], _, bx, k, T, cs', h => ⟨cs', h, fun _ _ _ h => h⟩
  | (b, j, T0, e) :: r, n, bx, k, T, cs', h => by
    simp only [nilsBx] at h
    obtain ⟨cs1, h1, h2⟩ := nilsBx_get r (n + 1) _ k T cs' h
    split at h1
    · rename_i T1 cs hb
      by_cases hk : b = k
      · subst hk
        rw [List.getElem?_set_self (List.getElem?_eq_some_iff.1 hb).1] at h1
        simp only [Option.some.injEq, Prod.mk.injEq] at h1
        obtain ⟨rfl, rfl⟩ := h1
        refine ⟨cs, hb, fun q vs hq hv => h2 q vs (fun m h3 h4 => hq m (by omega) (by simp only [List.length_cons]; omega)) ?_⟩
        obtain ⟨hU, hG, hE⟩ := hq n (Nat.le_refl _) (by simp only [List.length_cons]; omega)
        clear h2 hb h hq
        induction cs generalizing j vs with
        | nil => simpa using hv
        | cons c cs ih =>
          cases vs with
          | nil => exact hv.elim
          | cons v vs =>
            cases j with
            | zero =>
              refine ⟨?_, hv.2⟩
              show V1 q (nilCell n T0 e c) v
              have hv1 := hv.1
              cases c <;> first | exact hv1 | skip
              have hv0 : v = .slice none 0 0 := hv1
              subst hv0
              exact ⟨hU, ⟨none, 0, [], rfl, Nat.le_refl _, rfl, .inl rfl⟩, fun _ => ⟨[], World.ownsRow_nil _ _ _ _, by rw [hG]; rfl, rfl, hE⟩⟩
            | succ j => exact ⟨hv.1, ih j vs hv.2⟩
      · rw [List.getElem?_set_ne hk] at h1
        exact ⟨cs1, h1, fun q vs hq hv => h2 q vs (fun m h3 h4 => hq m (by omega) (by simp only [List.length_cons]; omega)) hv⟩
    · exact ⟨cs1, h1, fun q vs hq hv => h2 q vs (fun m h3 h4 => hq m (by omega) (by simp only [List.length_cons]; omega)) hv⟩
theorem nilsBx_get' : ∀ (l : List (Nat × Nat × TypeId × Ty)) (n : Nat) (bx : List (Option (TypeId × List AV))) (k : Nat) (T : TypeId) (cs : List AV), bx[k]? = some (some (T, cs)) → ∃ cs', (nilsBx n l bx)[k]? = some (some (T, cs'))
  | [], _, bx, k, T, cs, h => ⟨cs, h⟩
  | (b, j, T0, e) :: r, n, bx, k, T, cs, h => by
    simp only [nilsBx]
    split
    · rename_i T1 cs1 hb
      by_cases hk : b = k
      · subst hk
        rw [hb] at h
        simp only [Option.some.injEq, Prod.mk.injEq] at h
        obtain ⟨rfl, rfl⟩ := h
        exact nilsBx_get' r (n + 1) _ b T1 _ (List.getElem?_set_self (List.getElem?_eq_some_iff.1 hb).1)
      · exact nilsBx_get' r (n + 1) _ k T cs (by rw [List.getElem?_set_ne hk]; exact h)
    · exact nilsBx_get' r (n + 1) _ k T cs h
theorem nilsBx_len : ∀ (l : List (Nat × Nat × TypeId × Ty)) (n : Nat) (bx : List (Option (TypeId × List AV))), (nilsBx n l bx).length = bx.length
  | [], _, _ => rfl
  | (b, j, T0, e) :: r, n, bx => by
    simp only [nilsBx]
    rw [nilsBx_len r]
    split <;> simp
section
variable {w0 : World} {Nin : Env} {D : Nat → Prop} {s : St} {m : Mp} {a : Act} {w : World}
theorem addBits_get : ∀ (k m n t : Nat), hasBit (addBits m n k) t = true ↔ hasBit m t = true ∨ (n ≤ t ∧ t < n + k)
  | 0, m, n, t => by simp only [addBits]; exact ⟨.inl, fun h => h.elim _root_.id fun h => by omega⟩
  | k + 1, m, n, t => by
    simp only [addBits]
    rw [addBits_get k, bit_add, Bool.or_eq_true, decide_eq_true_eq]
    constructor
    · rintro ((h | h) | h)
      · exact .inl h
      · exact .inr (by omega)
      · exact .inr (by omega)
    · rintro (h | h)
      · exact .inl (.inl h)
      · by_cases he : n = t
        · exact .inl (.inr he)
        · exact .inr (by omega)
theorem nilsAt_len : ∀ (l : List (Nat × TypeId × Ty)) (n : Nat) (t : List AV), (nilsAt n l t).length = t.length
  | [], _, _ => rfl
  | (i, T, e) :: r, n, t => by
    simp only [nilsAt]
    rw [nilsAt_len r]
    split <;> simp
/-- A slice that there is not yet may be taken for one of the frame's own. -/
theorem nilsAt_V {q : Vw} {vs : List Value} : ∀ (l : List (Nat × TypeId × Ty)) (n : Nat) (t : List AV), (∀ k, n ≤ k → k < n + l.length → q.U k ∧ q.G k = none ∧ q.E k = 0) → (∀ (i : Nat) x v, t[i]? = some x → vs[i]? = some v → V q x v) →
    ∀ (i : Nat) x v, (nilsAt n l t)[i]? = some x → vs[i]? = some v → V q x v
  | [], _, _, _, h => h
  | (j, T, e) :: r, n, t, hk, h => by
    simp only [nilsAt]
    refine nilsAt_V r (n + 1) _ (fun k h1 h2 => hk k (by omega) (by simp only [List.length_cons]; omega)) ?_
    intro i x v hx hv
    split at hx
    · rename_i hj
      by_cases hij : j = i
      · subst hij
        have hlt := (List.getElem?_eq_some_iff.1 hj).1
        rw [List.getElem?_set_self hlt] at hx
        cases hx
        have hv0 : v = .slice none 0 0 := h j _ v hj hv
        subst hv0
        obtain ⟨h1, h2, h3⟩ := hk n (Nat.le_refl _) (by simp only [List.length_cons]; omega)
        exact ⟨h1, ⟨none, 0, [], rfl, Nat.le_refl _, rfl, .inl rfl⟩, fun _ => ⟨[], World.ownsRow_nil _ _ _ _, by rw [h2]; rfl, rfl, h3⟩⟩
      · rw [List.getElem?_set_ne hij] at hx
        exact h i x v hx hv
    · exact h i x v hx hv
theorem canon0_sound (h : Inv w0 Nin D s m a w) (keep : Hints) (c : Code) : ∃ m', Inv w0 Nin (fun k => k < (canon0 keep c s).bx.length) (canon0 keep c s) m' a w := by
  generalize hcs : canon0 keep c s = s'
  unfold canon0 at hcs
  simp only at hcs
  generalize hh : keep ((firstReg c).getD 0) = hnt at hcs
  generalize ht : killAt hnt.1 0 (killAt (bif hasBit hnt.1 1000 then 0 else killMask (evCode c) 0 0) 0 s.t) = t at hcs
  generalize hbxs : boxIds (t ++ s.g) [] = bxs at hcs
  generalize htoks : tokIds (t ++ s.g) (cellIds (boxesOf s.bx bxs) []) = toks at hcs
  generalize hns : useNils (t.map (renTmp bxs toks)) hnt.2.2.1 = ns at hcs
  generalize hbx1 : bxs.map (fun b => match s.bx[b]? with | some (some (T, cs)) => some (T, cs.map (renCell toks)) | _ => none) = bx1 at hcs
  generalize hnb : useNilsB bx1 hnt.2.2.2 = nb at hcs
  have bx1len : bx1.length = bxs.length := by rw [← hbx1, List.length_map]
  have bnd : bxs.Nodup := by rw [← hbxs]; exact boxIds_nodup _ [] List.nodup_nil
  have tnd : toks.Nodup := by rw [← htoks]; exact tokIds_nodup _ _ (cellIds_nodup _ [] List.nodup_nil)
  subst hcs
  have bget : ∀ (k : Nat) (T : TypeId) (cs' : List AV), (nilsBx (toks.length + ns.length) nb bx1 ++ List.replicate (toks.length + (ns.length + nb.length)) none)[k]? = some (some (T, cs')) →
      ∃ i cs, bxs[k]? = some i ∧ s.bx[i]? = some (some (T, cs)) ∧ ∀ (q : Vw) (vs : List Value), (∀ m, toks.length + ns.length ≤ m → m < toks.length + ns.length + nb.length → q.U m ∧ q.G m = none ∧ q.E m = 0) → all2 (V1 q) (cs.map (renCell toks)) vs → all2 (V1 q) cs' vs := by
    intro k T cs' hk
    by_cases hlt : k < bxs.length
    · rw [List.getElem?_append_left (by rw [nilsBx_len, bx1len]; exact hlt)] at hk
      obtain ⟨cs1, hk, hup⟩ := nilsBx_get nb _ bx1 k T cs' hk
      rw [← hbx1, List.getElem?_map, List.getElem?_eq_getElem hlt] at hk
      simp only [Option.map_some, Option.some.injEq] at hk
      split at hk
      · rename_i T0 cs0 hs
        simp only [Option.some.injEq, Prod.mk.injEq] at hk
        obtain ⟨rfl, rfl⟩ := hk
        exact ⟨_, cs0, List.getElem?_eq_getElem hlt, hs, hup⟩
      · cases hk
    · rw [List.getElem?_append_right (by rw [nilsBx_len, bx1len]; omega), List.getElem?_replicate] at hk
      split at hk <;> cases hk
  have bget' : ∀ (k i : Nat) (T : TypeId) (cs : List AV), bxs[k]? = some i → s.bx[i]? = some (some (T, cs)) → ∃ cs', (nilsBx (toks.length + ns.length) nb bx1 ++ List.replicate (toks.length + (ns.length + nb.length)) none)[k]? = some (some (T, cs')) := by
    intro k i T cs hk hs
    have hlt := (List.getElem?_eq_some_iff.1 hk).1
    have h1 : bx1[k]? = some (some (T, cs.map (renCell toks))) := by rw [← hbx1, List.getElem?_map, hk]; simp only [Option.map_some, hs]
    obtain ⟨cs', h2⟩ := nilsBx_get' nb (toks.length + ns.length) bx1 k T _ h1
    exact ⟨cs', by rw [List.getElem?_append_left (by rw [nilsBx_len, bx1len]; exact hlt)]; exact h2⟩
  let m' : Mp := { G := fun k => (toks[k]?).bind m.G, E := fun k => ((toks[k]?).map m.E).getD 0, U := fun k => k < toks.length + (ns.length + nb.length), B := fun k => ((bxs[k]?).map m.B).getD 0 }
  have lget : ∀ τ, hasBit (addBits (liveL s.live 0 toks) toks.length (ns.length + nb.length)) τ = true → (∃ i, toks[τ]? = some i ∧ hasBit s.live i = true) ∨ (toks.length ≤ τ ∧ τ < toks.length + (ns.length + nb.length) ∧ m'.G τ = none) := by
    intro τ hτ
    rcases (addBits_get _ _ _ _).1 hτ with hτ | ⟨h1, h2⟩
    case inr => exact .inr ⟨h1, h2, by show (toks[τ]?).bind m.G = none; rw [List.getElem?_eq_none h1]; rfl⟩
    left
    obtain ⟨k, i, h1, h2, h3⟩ := (liveL_get s.live toks 0 τ).1 hτ
    rw [Nat.zero_add] at h1
    exact ⟨i, h1 ▸ h2, h3⟩
  have tlt : ∀ (k i : Nat), toks[k]? = some i → k < toks.length := fun k i hk => (List.getElem?_eq_some_iff.1 hk).1
  have nodupT : ∀ k k' i : Nat, toks[k]? = some i → toks[k']? = some i → k = k' := fun k k' i hk hk' =>
    (List.getElem?_inj (List.getElem?_eq_some_iff.1 hk).1 tnd).1 (hk.trans hk'.symm)
  have nodupB : ∀ k k' i : Nat, bxs[k]? = some i → bxs[k']? = some i → k = k' := fun k k' i hk hk' =>
    (List.getElem?_inj (List.getElem?_eq_some_iff.1 hk).1 bnd).1 (hk.trans hk'.symm)
  have hGk : ∀ k i, toks[k]? = some i → m'.G k = m.G i := fun k i hk => by show (toks[k]?).bind m.G = _; rw [hk]; rfl
  have hEk : ∀ k i, toks[k]? = some i → m'.E k = m.E i := fun k i hk => by show ((toks[k]?).map m.E).getD 0 = _; rw [hk]; rfl
  have hBk : ∀ k i, bxs[k]? = some i → m'.B k = m.B i := fun k i hk => by show ((bxs[k]?).map m.B).getD 0 = _; rw [hk]; rfl
  generalize hs' : (St.mk (nilsAt toks.length ns (t.map (renTmp bxs toks))) (nilsBx (toks.length + ns.length) nb bx1 ++ List.replicate (toks.length + (ns.length + nb.length)) none) (addBits (liveL s.live 0 toks) toks.length (ns.length + nb.length)) (s.g.map (renG bxs toks))) = s'
  have sbx : s'.bx = nilsBx (toks.length + ns.length) nb bx1 ++ List.replicate (toks.length + (ns.length + nb.length)) none := by rw [← hs']
  have slive : s'.live = addBits (liveL s.live 0 toks) toks.length (ns.length + nb.length) := by rw [← hs']
  have stt : s'.t = nilsAt toks.length ns (t.map (renTmp bxs toks)) := by rw [← hs']
  have sgg : s'.g = s.g.map (renG bxs toks) := by rw [← hs']
  rw [← sbx] at bget bget'
  rw [← slive] at lget
  have lsome : ∀ τ k, hasBit s'.live τ = true → m'.G τ = some k → ∃ i, toks[τ]? = some i ∧ hasBit s.live i = true := by
    intro τ k hl hG
    rcases lget τ hl with h | ⟨_, _, h⟩
    · exact h
    · rw [h] at hG; cases hG
  have hren : Ren (vw w0 Nin s m w) (vw w0 Nin s' m' w) bxs toks := by
    have hN : ∀ b, (vw w0 Nin s m w).N b → (vw w0 Nin s' m' w).N b := by
      rintro b ⟨c1, c2, c3, c4⟩
      refine ⟨c1, c2, fun τ hl hG => ?_, fun k T cs hk => ?_⟩
      · obtain ⟨i, hi, hli⟩ := lsome τ b hl hG
        rw [hGk τ i hi] at hG
        exact c3 i hli hG
      · obtain ⟨i, cs0, h1, h2, _⟩ := bget k T cs hk
        rw [hBk k i h1]
        exact c4 i T cs0 h2
    refine ⟨rfl, rfl, hN, ?_, ?_, ?_⟩
    · rintro b hi (hb | ⟨τ, hl, hG, hE⟩)
      · exact .inl (hN b hb)
      · have hl' : hasBit s.live τ = true := hl
        have hG' : m.G τ = some b := hG
        by_cases hex : ∃ k : Nat, toks[k]? = some τ
        · obtain ⟨k, hk⟩ := hex
          refine .inr ⟨k, ?_, ?_, ?_⟩
          · show hasBit s'.live k = true
            rw [slive]
            exact (addBits_get _ _ _ _).2 (.inl ((liveL_get s.live toks 0 k).2 ⟨k, τ, by omega, hk, hl'⟩))
          · exact (hGk k τ hk).trans hG'
          · show hi ≤ m'.E k; rw [hEk k τ hk]; exact hE
        · refine .inl ⟨(h.toks τ b hl' hG').2, fun hlt => ?_, fun τ' hl'' hG'' => ?_, fun k T cs hk => ?_⟩
          · have := (h.toks τ b hl' hG').1; omega
          · obtain ⟨i, hi', hli⟩ := lsome τ' b hl'' hG''
            rw [hGk τ' i hi'] at hG''
            have := h.inj τ i b hl' hli hG' hG''
            exact hex ⟨τ', this ▸ hi'⟩
          · obtain ⟨i, cs0, h1, h2, _⟩ := bget k T cs hk
            rw [hBk k i h1]
            exact h.sep τ b i T cs0 hl' hG' h2
    · intro k i hk _
      refine ⟨Nat.lt_add_right _ (tlt k i hk), fun hl => ?_⟩
      have hlt := tlt k i hk
      obtain ⟨i', hi', hli⟩ := (lget k hl).resolve_right (fun h => by omega)
      rw [hk] at hi'
      cases hi'
      exact ⟨hli, hGk k i hk, hEk k i hk⟩
    · rintro k i hk ⟨T, cs, hb⟩
      obtain ⟨cs', h1⟩ := bget' k i T cs hk hb
      exact ⟨⟨T, cs', h1⟩, hBk k i hk⟩
  have hlen : s'.bx.length = bxs.length + (toks.length + (ns.length + nb.length)) := by rw [sbx, List.length_append, nilsBx_len, bx1len, List.length_replicate]
  refine ⟨m', ⟨h.below, h.defers, ?_, ?_, ?_, ?_, ?_, ?_, ?_, ?_, ?_, ?_, ?_, ?_, h.ok⟩⟩
  rotate_right
  · intro p hp
    obtain ⟨hp1, hp2⟩ := h.frz p hp
    refine ⟨⟨hp1.1, hp1.2.1, fun τ hl hG => ?_, fun k T cs hk he => ?_⟩, hp2⟩
    · obtain ⟨i, hi, hli⟩ := lsome τ p.1 hl hG
      exact hp1.2.2.1 i hli (hGk τ i hi ▸ hG)
    · obtain ⟨i, cs0, h1, h2, _⟩ := bget k T cs hk
      have he' : m'.B k = p.1 := he
      rw [hBk k i h1] at he'
      exact hp1.2.2.2 i T cs0 h2 he'
  · rw [stt, nilsAt_len, List.length_map, ← ht, killAt_len, killAt_len]; exact h.tlen
  · intro i x v hx hv
    rw [stt] at hx
    refine nilsAt_V (q := vw w0 Nin s' m' w) (vs := a.tmps.toList) ns toks.length (t.map (renTmp bxs toks)) (fun k h1 h2 => ⟨by show k < toks.length + (ns.length + nb.length); omega, ?_, ?_⟩) ?_ i x v hx (by simpa using hv)
    · show (toks[k]?).bind m.G = none
      rw [List.getElem?_eq_none h1]; rfl
    · show ((toks[k]?).map m.E).getD 0 = 0
      rw [List.getElem?_eq_none h1]; rfl
    · intro i x v hx hv
      rw [List.getElem?_map] at hx
      cases hti : t[i]? with
      | none => rw [hti] at hx; cases hx
      | some y =>
        rw [hti] at hx
        simp only [Option.map_some, Option.some.injEq] at hx
        subst hx
        refine hren.tmp ?_
        rw [← ht] at hti
        rcases killAt_get _ _ _ _ _ hti with rfl | hy
        · trivial
        · rcases killAt_get _ _ _ _ _ hy with rfl | hy
          · trivial
          · exact h.tmps i y v hy (by simpa using hv)
  · intro τ k hl hG
    obtain ⟨i, hi, hli⟩ := lsome τ k hl hG
    exact h.toks i k hli (hGk τ i hi ▸ hG)
  · intro τ τ' k hl hl' hG hG'
    obtain ⟨i, hi, hli⟩ := lsome τ k hl hG
    obtain ⟨i', hi', hli'⟩ := lsome τ' k hl' hG'
    have := h.inj i i' k hli hli' (hGk τ i hi ▸ hG) (hGk τ' i' hi' ▸ hG')
    exact nodupT τ τ' i hi (this ▸ hi')
  · intro k T cs hk
    obtain ⟨i, cs0, h1, h2, hup⟩ := bget k T cs hk
    obtain ⟨c1, vs, c2, c3, c4⟩ := h.boxes i T cs0 h2
    rw [hBk k i h1]
    refine ⟨c1, vs, c2, hup _ vs (fun m h3 h4 => ⟨?_, ?_, ?_⟩) (hren.cells cs0 vs c3), c4⟩
    · show m < toks.length + (ns.length + nb.length); omega
    · show (toks[m]?).bind _ = none
      rw [List.getElem?_eq_none (by omega)]; rfl
    · show ((toks[m]?).map _).getD 0 = 0
      rw [List.getElem?_eq_none (by omega)]; rfl
  · intro k T cs k' T' cs' hk hk' he
    obtain ⟨i, cs0, h1, h2, _⟩ := bget k T cs hk
    obtain ⟨i', cs0', h1', h2', _⟩ := bget k' T' cs' hk'
    rw [hBk k i h1, hBk k' i' h1'] at he
    have := h.binj i T cs0 i' T' cs0' h2 h2' he
    exact nodupB k k' i h1 (this ▸ h1')
  · intro τ b k T cs hl hG hk
    obtain ⟨i, hi, hli⟩ := lsome τ b hl hG
    obtain ⟨j, cs0, h1, h2, _⟩ := bget k T cs hk
    rw [hBk k j h1]
    exact h.sep i b j T cs0 hli (hGk τ i hi ▸ hG) h2
  · intro τ hτ
    have hτ' : τ < toks.length + (ns.length + nb.length) := hτ
    show τ / 8 < s'.bx.length
    rw [hlen]
    have := Nat.div_le_self τ 8
    omega
  · intro k T cs hk
    exact (List.getElem?_eq_some_iff.1 hk).1
  · intro τ hl
    show τ < toks.length + (ns.length + nb.length)
    rcases lget τ hl with ⟨i, hi, _⟩ | h
    · exact Nat.lt_add_right _ (tlt τ i hi)
    · exact h.2.1
  · rw [sgg]
    have hg := h.ghost
    generalize s.g = l at hg
    generalize Nin.gv = vs at hg
    induction l generalizing vs with
    | nil => cases vs <;> first | trivial | exact hg.elim
    | cons x l ih =>
      cases vs with
      | nil => exact hg.elim
      | cons v vs => exact ⟨hren.g hg.1, ih vs hg.2⟩
theorem vnil1_V {q : Vw} {j : Nat} {e : Ty} {x : AV} {v : Value} (h : V q x v) : V q (vnil1 j e x) v := by
  have hnil : ∀ u, V1 q .nilS u → V1 q (.v (.sl e) []) u := fun u hu => by
    have hu' : u = .slice none 0 0 := hu
    subst hu'
    exact ⟨none, 0, [], rfl, Nat.le_refl _, rfl, .inl rfl⟩
  cases x with
  | agg cs =>
    obtain ⟨vs, h0, h1, h2⟩ := (show ∃ vs, _ ∧ _ ∧ _ from h)
    simp only [vnil1]
    split
    · rename_i hj
      refine ⟨vs, h0, ?_, h2⟩
      clear h2 h0 h
      induction cs generalizing vs j with
      | nil => simp at hj
      | cons c cs ih =>
        cases vs with
        | nil => exact h1.elim
        | cons u vs =>
          cases j with
          | zero =>
            simp only [List.getElem?_cons_zero, Option.some.injEq] at hj
            subst hj
            exact ⟨hnil _ h1.1, h1.2⟩
          | succ j => exact ⟨h1.1, ih vs h1.2 (by simpa using hj)⟩
    · exact h
  | nilS =>
    simp only [vnil1]
    split
    · exact hnil _ h
    · exact h
  | _ => exact h
theorem vnils_V {q : Vw} {vs : List Value} : ∀ (l : List (Nat × TypeId × Ty)) (t : List AV), (∀ (i : Nat) (x : AV) (v : Value), t[i]? = some x → vs[i]? = some v → V q x v) → ∀ (i : Nat) (x : AV) (v : Value), (vnils l t)[i]? = some x → vs[i]? = some v → V q x v
  | [], _, h => h
  | (k, _, e) :: r, t, h => by
    simp only [vnils]
    refine vnils_V r _ ?_
    split
    · split
      · rename_i y hy
        intro i x v hx hv
        rw [List.getElem?_set] at hx
        split at hx
        · rename_i he
          split at hx
          · simp only [Option.some.injEq] at hx
            subst hx
            exact vnil1_V (h i y v (he ▸ hy) hv)
          · cases hx
        · exact h i x v hx hv
      · exact h
    · exact h
theorem vnils_len : ∀ (l : List (Nat × TypeId × Ty)) (t : List AV), (vnils l t).length = t.length
  | [], _ => rfl
  | (k, _, e) :: r, t => by
    simp only [vnils]
    rw [vnils_len r]
    split
    · split
      · rw [List.length_set]
      · rfl
    · rfl
theorem vcell_V1 {q : Vw} {e : Ty} : ∀ (cs : List AV) (j : Nat) (vs : List Value), all2 (V1 q) cs vs → all2 (V1 q) (match cs[j]? with
    | some .nilS => cs.set j (.v (.sl e) [])
    | _ => cs) vs
  | [], j, vs, h => by simpa using h
  | c :: cs, 0, [], h => h.elim
  | c :: cs, 0, u :: vs, ⟨h0, h1⟩ => by
    simp only [List.getElem?_cons_zero]
    split
    · rename_i hc
      have hc' : c = .nilS := Option.some.inj hc
      subst hc'
      have hu : u = .slice none 0 0 := h0
      subst hu
      exact ⟨⟨none, 0, [], rfl, Nat.le_refl _, rfl, .inl rfl⟩, h1⟩
    · exact ⟨h0, h1⟩
  | c :: cs, j + 1, [], h => h.elim
  | c :: cs, j + 1, u :: vs, ⟨h0, h1⟩ => by
    have := vcell_V1 (q := q) (e := e) cs j vs h1
    simp only [List.getElem?_cons_succ]
    split
    · rename_i hc
      rw [hc] at this
      exact ⟨h0, this⟩
    · exact ⟨h0, h1⟩
/-- A box's cells, said a little less of. -/
theorem rebox {s : St} (h : Inv w0 Nin D s m a w) {k : Nat} {T : TypeId} {cs cs' : List AV} (hk : s.bx[k]? = some (some (T, cs))) (hcs : ∀ (q : Vw) (vs : List Value), all2 (V1 q) cs vs → all2 (V1 q) cs' vs) :
    Inv w0 Nin D { s with bx := s.bx.set k (some (T, cs')) } m a w := by
  have get : ∀ (b : Nat) (T1 : TypeId) (cs1 : List AV), (s.bx.set k (some (T, cs')))[b]? = some (some (T1, cs1)) → ∃ cs0, s.bx[b]? = some (some (T1, cs0)) ∧ ∀ (q : Vw) (vs : List Value), all2 (V1 q) cs0 vs → all2 (V1 q) cs1 vs := by
    intro b T1 cs1 hb
    rw [List.getElem?_set] at hb
    split at hb
    · rename_i he
      split at hb
      · simp only [Option.some.injEq, Prod.mk.injEq] at hb
        obtain ⟨rfl, rfl⟩ := hb
        exact ⟨cs, he ▸ hk, hcs⟩
      · cases hb
    · exact ⟨cs1, hb, fun _ _ h => h⟩
  have tek : ∀ (b : Nat) (T1 : TypeId) (cs1 : List AV), s.bx[b]? = some (some (T1, cs1)) → ∃ cs2, (s.bx.set k (some (T, cs')))[b]? = some (some (T1, cs2)) := by
    intro b T1 cs1 hb
    by_cases he : k = b
    · subst he
      rw [hk] at hb
      simp only [Option.some.injEq, Prod.mk.injEq] at hb
      obtain ⟨rfl, rfl⟩ := hb
      exact ⟨cs', by rw [List.getElem?_set_self (List.getElem?_eq_some_iff.1 hk).1]⟩
    · exact ⟨cs1, by rw [List.getElem?_set_ne he]; exact hb⟩
  have hN : ∀ b, (vw w0 Nin s m w).N b → (vw w0 Nin { s with bx := s.bx.set k (some (T, cs')) } m w).N b := fun b ⟨c1, c2, c3, c4⟩ =>
    ⟨c1, c2, c3, fun i T1 cs1 hi => by obtain ⟨cs0, h0, _⟩ := get i T1 cs1 hi; exact c4 i T1 cs0 h0⟩
  have hto : (vw w0 Nin s m w).To (vw w0 Nin { s with bx := s.bx.set k (some (T, cs')) } m w) :=
    ⟨rfl, fun b hb => ⟨hN b hb, rfl⟩, fun b hi hb => ⟨hb.imp (hN b) id, fun _ _ => rfl⟩, fun τ hu => ⟨hu, fun hl => ⟨hl, rfl, rfl, fun _ _ => rfl⟩⟩, fun b ⟨T1, cs1, hb⟩ => by
      obtain ⟨cs2, h2⟩ := tek b T1 cs1 hb
      exact ⟨⟨T1, cs2, h2⟩, rfl⟩⟩
  exact h.next (s' := { s with bx := s.bx.set k (some (T, cs')) }) (m' := m) rfl hto h.below h.toks h.inj
    (fun b T1 cs1 hb => by
      obtain ⟨cs0, h0, hup⟩ := get b T1 cs1 hb
      obtain ⟨c1, vs, c2, c3, c4⟩ := h.boxes b T1 cs0 h0
      exact ⟨c1, vs, c2, all2_imp (fun _ _ => hto.v1) _ _ (hup _ vs c3), c4⟩)
    (fun b T1 cs1 b' T2 cs2 hb hb' he => by
      obtain ⟨x1, h1, _⟩ := get b T1 cs1 hb
      obtain ⟨x2, h2, _⟩ := get b' T2 cs2 hb'
      exact h.binj b T1 x1 b' T2 x2 h1 h2 he)
    (fun τ g b T1 cs1 hl hG hb => by
      obtain ⟨x1, h1, _⟩ := get b T1 cs1 hb
      exact h.sep τ g b T1 x1 hl hG h1) h.uD
    (fun b T1 cs1 hb => by
      obtain ⟨x1, h1, _⟩ := get b T1 cs1 hb
      exact h.bD b T1 x1 h1) h.liveU
theorem vnilsB_len : ∀ (l : List (Nat × Nat × TypeId × Ty)) (bx : List (Option (TypeId × List AV))), (vnilsB l bx).length = bx.length
  | [], _ => rfl
  | (b, j, _, e) :: r, bx => by
    simp only [vnilsB]
    rw [vnilsB_len r]
    split
    · split
      · rw [List.length_set]
      · rfl
    · rfl
theorem vnilsB_sound : ∀ (l : List (Nat × Nat × TypeId × Ty)) {s : St}, Inv w0 Nin D s m a w → Inv w0 Nin D { s with bx := vnilsB l s.bx } m a w
  | [], _, h => h
  | (b, j, T', e) :: r, s, h => by
    simp only [vnilsB]
    split
    · split
      · rename_i T cs hb
        exact vnilsB_sound r (rebox h hb (fun q vs hv => vcell_V1 cs j vs hv))
      · exact vnilsB_sound r h
    · exact vnilsB_sound r h
theorem canon_sound (h : Inv w0 Nin D s m a w) (keep : Hints) (c : Code) : ∃ m', Inv w0 Nin (fun k => k < (canon keep c s).bx.length) (canon keep c s) m' a w := by
  obtain ⟨m', hi0⟩ := canon0_sound h keep c
  have hi := vnilsB_sound (keep ((firstReg c).getD 0)).2.2.2 hi0
  refine ⟨m', hi.below, hi.defers, ?_, ?_, hi.toks, hi.inj, hi.boxes, hi.binj, hi.sep, ?_, ?_, hi.liveU, hi.ghost, hi.frz, hi.ok⟩
  · show a.tmps.size = (vnils _ _).length
    rw [vnils_len]; exact hi.tlen
  · intro i x v hx hv
    exact vnils_V (q := vw w0 Nin { canon0 keep c s with bx := vnilsB (keep ((firstReg c).getD 0)).2.2.2 (canon0 keep c s).bx } m' w) (vs := a.tmps.toList) _ _ (fun i x v hx hv => hi.tmps i x v hx (by simpa using hv)) i x v hx (by simpa using hv)
  · intro τ hτ
    show τ / 8 < (vnilsB _ _).length
    rw [vnilsB_len]; exact hi.uD τ hτ
  · intro b T cs hb
    show b < (vnilsB _ _).length
    rw [vnilsB_len]; exact hi.bD b T cs hb
theorem strike_sound (h : Inv w0 Nin D s m a w) (keep : Hints) (c : Code) : Inv w0 Nin D (strike keep c s) m a w := by
  refine ⟨h.below, h.defers, ?_, ?_, h.toks, h.inj, h.boxes, h.binj, h.sep, h.uD, h.bD, h.liveU, h.ghost, h.frz, h.ok⟩
  · show a.tmps.size = (killAt _ 0 s.t).length
    rw [killAt_len]; exact h.tlen
  · intro i x v hx hv
    rcases killAt_get _ _ _ _ _ hx with rfl | hy
    · trivial
    · exact h.tmps i x v hy hv
end
end Go.Eng
/- ENGINE, part T: control, loops, bodies: what the machine answers the program answers. -/
namespace Go.Eng
open Go Go.RowKit
section
variable {Γ : Ctx} {ops : Array Oper} {o : Oper} {n base : Nat} {s s1 : St}
end
def exM : Exit → AEx → Prop
  | .normal, .normal => True
  | .exit i, .exit j => i = j
  | .ret, .ret => True
  | _, _ => False
section
variable {R : Type} {Γ : Ctx} {keep : Hints} {w0 : World} {Nin : Env} {D : Nat → Prop} {s : St} {m : Mp} {a : Act} {w : World}
def CPost (K : AEx → St → Option R) (r : R) (w0 : World) (Nin : Env) : Exit → Act → World → Prop := fun e a' w' => ∃ e' s' m', K e' s' = some r ∧ exM e e' ∧ Inv w0 Nin (fun k => k < s'.bx.length) s' m' a' w'
def LoopWp (P : Program) (c : Code) (Q : Exit → Act → World → Prop) (a : Act) (w : World) : Prop :=
  ∀ (b : Frame) (k : List Item) (cs : List Frame), ∃ e a' w', Q e a' w' ∧ Arrives P (lone (b.at a (.code c :: .inLoop c :: k)) cs w) b k cs e a' w'
def LOk (Γ : Ctx) (L : LoopK R) : Prop := ∀ (c : Code) (s : St) (K : AEx → St → Option R) (r : R), L c s K = some r → ∀ (w0 : World) (Nin : Env) (m : Mp) (a : Act) (w : World), Inv w0 Nin (fun k => k < s.bx.length) s m a w → LoopWp Γ.P c (CPost K r w0 Nin) a w
theorem drew_sound (h : Inv w0 Nin D s m a w) : Inv w0 Nin D s m a { w with drawn := w.drawn + 1 } := by
  have hto : (vw w0 Nin s m w).To (vw w0 Nin s m { w with drawn := w.drawn + 1 }) :=
    ⟨rfl, fun b hb => ⟨hb, rfl⟩, fun b hi hb => ⟨hb, fun _ _ => rfl⟩, fun τ hu => ⟨hu, fun hl => ⟨hl, rfl, rfl, fun _ _ => rfl⟩⟩, fun b hb => ⟨hb, rfl⟩⟩
  exact h.next (s' := s) (m' := m) rfl hto ⟨h.below.os, h.below.tape, h.below.output, h.below.size, h.below.block⟩ h.toks h.inj
    (fun b T cs hb => by
      obtain ⟨c1, vs, c2, c3, c4⟩ := h.boxes b T cs hb
      exact ⟨c1, vs, c2, all2_imp (fun _ _ => hto.v1) _ _ c3, c4⟩) h.binj h.sep h.uD h.bD h.liveU
theorem region_sound (hΓ : CallsOk Γ) {id : Nat} {ops : Array Oper} {draw : Bool} {K : AEx → St → Option R} {r : R}
    (h : (if !draw || (Γ.P.follows .mixedOrders && regionOk Γ ops) then
      aOps Γ ops s.bx.length (List.range ops.size) { s with bx := s.bx ++ List.replicate ops.size none } (K .normal) else none) = some r)
    (hi : Inv w0 Nin (fun k => k < s.bx.length) s m a w) : (Code.region id ops draw).wp Γ.P (CPost K r w0 Nin) a w := by
  split at h
  · rename_i hc
    rw [aOps_nat hΓ] at h
    obtain ⟨send, h1, h2⟩ := bind_some h
    have hQ : ∀ a' w', (∃ m', Inv w0 Nin (fun k => k < send.bx.length) send m' a' w') → CPost K r w0 Nin .normal a' w' := fun a' w' ⟨m', h4⟩ => ⟨.normal, send, m', h2, trivial, h4⟩
    have hB : ∀ k, k < s.bx.length → k < (s.bx ++ List.replicate ops.size (none : Option (TypeId × List AV))).length := fun k hk => by simp only [List.length_append]; omega
    cases draw with
    | false =>
      refine wp_region ?_
      exact seq_sound hΓ (List.range ops.size) s.bx.length (D := fun k => k < s.bx.length) h1 (fun i hi => ⟨fun hd => by have hd' : s.bx.length + i < s.bx.length := hd; omega, List.mem_range.1 hi⟩) List.nodup_range hB (by simp) (ext_sound hi ops.size) hQ
    | true =>
      simp only [Bool.not_true, Bool.false_or, Bool.and_eq_true] at hc
      refine wp_region_any hc.1 ?_
      have hrem : remaining ops (Array.replicate ops.size false) = List.range ops.size := by
        unfold remaining
        refine List.filter_eq_self.2 (fun i hi => ?_)
        have : i < ops.size := List.mem_range.1 hi
        simp [this]
      refine any_sound (send := send) hΓ hc.2 hQ ops.size _ s.bx.length (fun k => k < s.bx.length) { s with bx := s.bx ++ List.replicate ops.size none } m a _ (by simp) (by rw [hrem]; simp) (fun j hj hl => ?_) (by rw [hrem]; exact h1) (fun i _ hd => by have hd' : s.bx.length + i < s.bx.length := hd; omega) hB (by simp) (drew_sound (ext_sound hi ops.size))
      simp [hj] at hl
  · cases h
theorem aCode_sound (hΓ : CallsOk Γ) {L : LoopK R} (hL : LOk Γ L) {r : R} : ∀ (c : Code) (s : St) (K : AEx → St → Option R), aCode Γ keep L c s K = some r →
    ∀ (m : Mp) (a : Act) (w : World), Inv w0 Nin (fun k => k < s.bx.length) s m a w → c.wp Γ.P (CPost K r w0 Nin) a w := by
  intro c
  induction c with
  | skip => intro s K h m a w hi; exact wp_skip ⟨.normal, s, m, h, trivial, hi⟩
  | label l => intro s K h m a w hi; exact wp_label ⟨.normal, s, m, h, trivial, hi⟩
  | exit id => intro s K h m a w hi; exact wp_exit ⟨.exit id, s, m, h, rfl, hi⟩
  | ret => intro s K h m a w hi; exact wp_ret ⟨.ret, s, m, h, trivial, hi⟩
  | seq x y ihx ihy =>
    intro s K h m a w hi
    refine wp_seq (wp_mono (ihx s _ h m a w hi) (fun e a' w' hq => ?_))
    obtain ⟨e', s', m', h1, h2, h3⟩ := hq
    cases e with
    | normal =>
      cases e' <;> first | exact h2.elim | skip
      exact ihy s' K h1 m' a' w' h3
    | exit id =>
      cases e' <;> first | exact h2.elim | skip
      exact ⟨_, s', m', h1, h2, h3⟩
    | ret =>
      cases e' <;> first | exact h2.elim | skip
      exact ⟨_, s', m', h1, h2, h3⟩
    | _ => exact h2.elim
  | cond c x y ihx ihy =>
    intro s K h m a w hi
    simp only [aCode] at h
    split at h
    · rename_i b hb
      have hc := hi.ev c
      rw [hb] at hc
      have hc' := V_bool hc
      cases b with
      | true => exact wp_cond_true hc' (ihx s K h m a w hi)
      | false => exact wp_cond_false hc' (ihy s K h m a w hi)
    · cases h
  | block id c ih =>
    intro s K h m a w hi
    refine wp_block (wp_mono (ih s _ h m a w hi) (fun e a' w' hq => ?_))
    obtain ⟨e', s', m', h1, h2, h3⟩ := hq
    cases e with
    | normal =>
      cases e' <;> first | exact h2.elim | skip
      exact ⟨_, s', m', h1, h2, h3⟩
    | exit j =>
      cases e' <;> first | exact h2.elim | skip
      have hj : j = _ := h2
      subst hj
      simp only at h1
      unfold Exit.inBlock
      simp only
      split at h1
      · rename_i hb
        have := Nat.eq_of_beq_eq_true hb
        subst this
        rw [if_pos rfl]
        exact ⟨.normal, s', m', h1, trivial, h3⟩
      · rename_i hb
        rw [if_neg (fun he => hb (by rw [he]; exact Nat.beq_refl _))]
        exact ⟨_, s', m', h1, rfl, h3⟩
    | ret =>
      cases e' <;> first | exact h2.elim | skip
      exact ⟨_, s', m', h1, h2, h3⟩
    | _ => exact h2.elim
  | loop c _ =>
    intro s K h m a w hi
    obtain ⟨m', hi'⟩ := canon_sound hi keep c
    have := hL c _ K r h w0 Nin m' a w hi'
    intro b k cs
    obtain ⟨e, a', w', hq, harr⟩ := this b k cs
    exact ⟨e, a', w', hq, .of_steps (.one step_loop) harr⟩
  | scope c ih =>
    intro s K h m a w hi
    refine wp_scope_straight (wp_mono (ih s K h m a w hi) (fun e a' w' hq => ?_))
    obtain ⟨e', s', m', h1, h2, h3⟩ := hq
    cases e with
    | goto l => exact h2.elim
    | _ => exact ⟨e', s', m', h1, h2, h3⟩
  | region id ops draw => intro s K h m a w hi; exact region_sound hΓ h hi
  | _ => intro s K h; simp [aCode] at h
theorem iter_ok (hΓ : CallsOk Γ) : ∀ n : Nat, LOk Γ (iter (R := R) Γ keep n)
  | 0 => by intro c s K r h; cases h
  | n + 1 => by
    intro c s K r h w0 Nin m a w hi b k cs
    simp only [iter] at h
    obtain ⟨e, a1, w1, hq, harr⟩ := aCode_sound hΓ (iter_ok hΓ n) c s _ h m a w hi b (.inLoop c :: k) cs
    obtain ⟨e', s', m', h1, h2, h3⟩ := hq
    cases e with
    | normal =>
      cases e' <;> first | exact h2.elim | skip
      obtain ⟨m'', hi''⟩ := canon_sound h3 keep c
      obtain ⟨e2, a2, w2, hq2, harr2⟩ := iter_ok hΓ n c _ K r h1 w0 Nin m'' a1 w1 hi'' b k cs
      exact ⟨e2, a2, w2, hq2, .of_steps (Steps.trans harr (.one step_inLoop)) harr2⟩
    | exit id =>
      cases e' <;> first | exact h2.elim | skip
      exact ⟨_, a1, w1, ⟨_, strike keep c s', m', h1, h2, strike_sound h3 keep c⟩, .pass (x := .inLoop c) rfl (fun _ _ => .inl (by simp)) harr⟩
    | ret =>
      cases e' <;> first | exact h2.elim | skip
      exact ⟨_, a1, w1, ⟨_, strike keep c s', m', h1, h2, strike_sound h3 keep c⟩, .pass (x := .inLoop c) rfl (fun _ _ => .inl (by simp)) harr⟩
    | _ => exact h2.elim
end
end Go.Eng
/- ENGINE, part U: bodies are contracts; every level of the machine is sound. -/
namespace Go.Eng
open Go Go.RowKit
section
variable {Γ : Ctx} {w0 : World} {Nin : Env} {D : Nat → Prop} {s : St} {m : Mp} {a : Act} {w : World}
def readRes (tmps : Array Value) : ResultVar → Sem Value
  | .tmp t => pure (tmps.getD t undef)
  | .cell a t => do loadVar t (← asAddr (tmps.getD a undef))
theorem resA_sound (hi : Inv w0 Nin D s m a w) {rv : ResultVar} {x : AV} (h : resA Γ s rv = some x) : ∃ v, (readRes a.tmps rv).run Γ.P w = .ok v w ∧ V (vw w0 Nin s m w) x v := by
  cases rv with
  | tmp t =>
    simp only [resA, Option.some.injEq] at h
    subst h
    exact ⟨a.tmps.getD t undef, rfl, hi.ev (.tmp t)⟩
  | cell t T =>
    simp only [resA] at h
    have hx := hi.ev (.tmp t)
    split at h
    · rename_i b off hb
      have hx' : V (vw w0 Nin s m w) (s.t.getD t .bad) (a.tmps.getD t undef) := hx
      rw [hb] at hx'
      split at h
      · rename_i T' cs hbx
        obtain ⟨he, _⟩ := (show _ ∧ _ from hx')
        obtain ⟨_, vs, hh, h2, h1⟩ := hi.boxes b T' cs hbx
        obtain ⟨v, hrun, hv⟩ := part_sound (q := vw w0 Nin s m w) h (ad := ⟨m.B b, off, none⟩) (fun j z hj => by
          obtain ⟨u, hu, hv⟩ := all2_get h2 hj
          refine ⟨u, ?_, hv, h1 u (List.mem_of_getElem? hu)⟩
          rw [show (⟨m.B b, off, none⟩ : Addr).add j = ⟨m.B b, off + j, none⟩ by unfold Addr.add; split <;> simp_all]
          show w.cell? _ = _
          simp [World.cell?, hh, hu])
        refine ⟨v, ?_, hv⟩
        have he' : a.tmps.getD t undef = .pointer (some ⟨m.B b, off, none⟩) := he
        simp only [readRes, he', asAddr, pure_bind]
        exact hrun
      · cases h
    · cases h
theorem resL_sound (hi : Inv w0 Nin D s m a w) : ∀ {rs : List ResultVar} {xs : List AV}, resL Γ s rs = some xs → ∃ vs, (rs.mapM (readRes a.tmps)).run Γ.P w = .ok vs w ∧ all2 (V (vw w0 Nin s m w)) xs vs
  | [], xs, h => by simp only [resL, Option.some.injEq] at h; subst h; exact ⟨[], by simp, trivial⟩
  | rv :: rs, xs, h => by
    simp only [resL] at h
    split at h
    · rename_i x xs' h1 h2
      simp only [Option.some.injEq] at h
      subst h
      obtain ⟨v, hv1, hv2⟩ := resA_sound hi h1
      obtain ⟨vs, hvs1, hvs2⟩ := resL_sound hi h2
      exact ⟨v :: vs, by simp [List.mapM_cons, hv1, hvs1], hv2, hvs2⟩
    · cases h
theorem run_results (fn : Func) (tmps : Array Value) {P : Program} {vs : List Value} (h : (fn.results.toList.mapM (readRes tmps)).run P w = .ok vs w) :
    (results fn tmps).run P w = .ok (if h : vs.length = 1 then vs[0] else .tuple vs.toArray) w := by
  have he : results fn tmps = (do let us ← fn.results.mapM (readRes tmps); pure (if h : us.size = 1 then us[0] else .tuple us)) := by
    unfold results
    congr 1
  rw [he, Array.mapM_eq_mapM_toList]
  simp [h]
theorem to1_sound {q : Vw} {N' : Nat → Prop} (hN : ∀ b, q.N b → N' b) {live : Nat} (hlive : ∀ τ, hasBit live τ = true → q.live τ) {o : Option TypeId} {t : Ty} {x : AV} {y : t.den} {v : Value} (h : to1 live o t x = some y) (hv : V q x v) :
    Res1 q.w q.base N' o t y v ∧ ∀ k ∈ own1 (o, t) v, ∃ τ, idOf x = some τ ∧ hasBit live τ = true ∧ q.G τ = some k := by
  have plain : ∀ {t : Ty} {y : t.den}, (if t.isAgg == x.isAgg then x.asTy t else none) = some y → ∃ vs, shut t vs v ∧ rep q.w N' t y vs := by
    intro t y h
    split at h
    · rename_i hb
      have hr := rep_step (N' := N') (fun b hb => ⟨hN b hb, rfl⟩) t y _ (asTy_V h hv)
      refine ⟨_, ?_, hr⟩
      have hb' : t.isAgg = x.isAgg := by simpa using hb
      by_cases hx : x.isAgg = true
      · cases x <;> first | (cases hx; done) | skip
        obtain ⟨vs, he, _, _⟩ := (show ∃ vs, _ ∧ _ ∧ _ from hv)
        rw [he]
        cases t <;> first | rfl | (cases hb')
      · have hone : v.cells = #[v] := by
          unfold AV.asTy at h
          split at h
          · rename_i cs hc
            split at h
            · rename_i hk
              have hcs : cs = [x] := by
                cases x <;> first | (exact absurd rfl hx) | (simp [AV.cells] at hc; try exact hc.symm)
              subst hcs
              obtain ⟨_, h1⟩ := okCell_V (by simpa using hk) hv
              cases v <;> first | rfl | (simp [Value.oneCell'] at h1)
            · cases h
          · cases h
        rw [hone]
        cases t <;> first | rfl | (exact absurd hb'.symm hx)
    · cases h
  cases o with
  | none =>
    refine ⟨?_, fun k hk => by cases t <;> cases hk⟩
    have h' : (if t.isAgg == x.isAgg then x.asTy t else none) = some y := by simpa only [to1] using h
    cases t <;> exact plain h'
  | some T =>
    cases t with
    | sl e =>
      cases x with
      | own id T' e' ys =>
        simp only [to1] at h
        split at h
        · rename_i hb
          rw [Bool.and_eq_true] at hb
          have hT : T = T' := Nat.eq_of_beq_eq_true hb.2
          obtain ⟨he, hz⟩ := cast_eq h
          subst he hz hT
          obtain ⟨_, _, hO⟩ := (show _ ∧ _ ∧ _ from hv)
          obtain ⟨inner, h1, h2, h3, h4⟩ := hO (hlive id hb.1)
          refine ⟨⟨inner, h1, repsOf_imp (rep_step (fun b hb => ⟨hN b hb, rfl⟩) e') _ _ h3⟩, fun k hk => ⟨id, rfl, hb.1, ?_⟩⟩
          have : k ∈ v.ownBlock.toList := hk
          rw [h2] at this
          cases hg : q.G id with
          | none => rw [hg] at this; cases this
          | some k' => rw [hg] at this; simp at this; rw [this]
        · cases h
      | nilS =>
        simp only [to1, Option.some.injEq] at h
        subst h
        have hv' : v = .slice none 0 0 := hv
        subst hv'
        exact ⟨⟨[], World.ownsRow_nil _ _ _ _, rfl⟩, fun k hk => by simp [own1, Value.ownBlock] at hk⟩
      | _ => simp [to1] at h
    | pair a b => exact ⟨plain (t := .pair a b) (by simpa only [to1] using h), fun k hk => by cases hk⟩
    | unit => exact ⟨plain (t := .unit) (by simpa only [to1] using h), fun k hk => by cases hk⟩
    | int k => exact ⟨plain (t := .int k) (by simpa only [to1] using h), fun k hk => by cases hk⟩
    | bool => exact ⟨plain (t := .bool) (by simpa only [to1] using h), fun k hk => by cases hk⟩
    | str => exact ⟨plain (t := .str) (by simpa only [to1] using h), fun k hk => by cases hk⟩
    | flt k => exact ⟨plain (t := .flt k) (by simpa only [to1] using h), fun k hk => by cases hk⟩
theorem toL_sound {q : Vw} {N' : Nat → Prop} (hN : ∀ b, q.N b → N' b) (hinj : ∀ τ τ' k : Nat, q.live τ → q.live τ' → q.G τ = some k → q.G τ' = some k → τ = τ') :
    ∀ (l : List (Option TypeId × Ty)) (live : Nat) (xs : List AV) (y : denL l) (vs : List Value), (∀ τ, hasBit live τ = true → q.live τ) → toL live l xs = some y → all2 (V q) xs vs →
      ResL q.w q.base N' l y vs ∧ (owned l vs).Nodup ∧ ∀ k ∈ owned l vs, ∃ τ, hasBit live τ = true ∧ q.G τ = some k
  | [], _, [], _, [], _, _, _ => ⟨rfl, List.nodup_nil, fun k hk => by cases hk⟩
  | [], _, _ :: _, _, _, _, h, _ => by simp [toL] at h
  | _ :: _, _, [], _, _, _, h, _ => by simp [toL] at h
  | [], _, [], _, _ :: _, _, _, h2 => h2.elim
  | _ :: _, _, _ :: _, _, [], _, _, h2 => h2.elim
  | (o, t) :: l, live, x :: xs, y, v :: vs, hl, h, ⟨hv, hvs⟩ => by
    simp only [toL] at h
    split at h
    · rename_i y1 h1
      split at h
      · rename_i ys h2
        simp only [Option.some.injEq] at h
        subst h
        obtain ⟨c1, c2⟩ := to1_sound (N' := N') hN hl h1 hv
        have hdel : ∀ τ, hasBit (match idOf x with | some id => if hasBit live id then delBit live id else live | none => live) τ = true → hasBit live τ = true ∧ idOf x ≠ some τ := by
          intro τ hτ
          cases hid : idOf x with
          | none => rw [hid] at hτ; exact ⟨hτ, fun h => by cases h⟩
          | some id =>
            rw [hid] at hτ
            simp only at hτ
            split at hτ
            · rename_i hb
              rw [bit_del hb] at hτ
              simp only [Bool.and_eq_true, Bool.not_eq_true', decide_eq_false_iff_not] at hτ
              exact ⟨hτ.1, fun h => hτ.2 (by simpa using h)⟩
            · rename_i hb
              exact ⟨hτ, fun h => hb (by simp only [Option.some.injEq] at h; rw [h]; exact hτ)⟩
        obtain ⟨c3, c4, c5⟩ := toL_sound hN hinj l _ xs ys vs (fun τ hτ => hl τ (hdel τ hτ).1) h2 hvs
        refine ⟨⟨c1, c3⟩, ?_, fun k hk => ?_⟩
        · refine List.nodup_append.2 ⟨?_, c4, fun k hk k' hk' he => ?_⟩
          · unfold own1
            split
            · cases Value.ownBlock _ <;> simp
            · exact List.nodup_nil
          · subst he
            obtain ⟨τ, e1, e2, e3⟩ := c2 k hk
            obtain ⟨τ', e4, e5⟩ := c5 k hk'
            obtain ⟨e6, e7⟩ := hdel τ' e4
            exact e7 (by rw [e1, hinj τ τ' k (hl τ e2) (hl τ' e6) e3 e5])
        · rcases List.mem_append.1 hk with hk | hk
          · obtain ⟨τ, _, e2, e3⟩ := c2 k hk
            exact ⟨τ, e2, e3⟩
          · obtain ⟨τ, e4, e5⟩ := c5 k hk
            exact ⟨τ, (hdel τ e4).1, e5⟩
      · cases h
    · cases h
theorem toSh_sound (hi : Inv w0 Nin D s m a w) {sh : Sh} {xs : List AV} {r : sh.den} {vs : List Value} (h : toSh s.live sh xs = some r) (hv : all2 (V (vw w0 Nin s m w)) xs vs) :
    ResV w0 w Nin.N sh r (if h : vs.length = 1 then vs[0] else .tuple vs.toArray) := by
  have key : ∀ (l : List (Option TypeId × Ty)) (y : denL l), toL s.live l xs = some y →
      ResL w w0.heap.size (fun b => b < w.heap.size ∧ (b < w0.heap.size → Nin.N b) ∧ b ∉ owned l vs) l y vs ∧ (owned l vs).Nodup := by
    intro l y hl
    have hinj : ∀ τ τ' k : Nat, (vw w0 Nin s m w).live τ → (vw w0 Nin s m w).live τ' → (vw w0 Nin s m w).G τ = some k → (vw w0 Nin s m w).G τ' = some k → τ = τ' := fun τ τ' k => hi.inj τ τ' k
    have h0 := toL_sound (q := vw w0 Nin s m w) (N' := fun _ => True) (fun _ _ => trivial) hinj l s.live xs y vs (fun _ h => h) hl hv
    have h1 := toL_sound (q := vw w0 Nin s m w) (N' := fun b => b < w.heap.size ∧ (b < w0.heap.size → Nin.N b) ∧ b ∉ owned l vs) (fun b hb => ⟨hb.1, hb.2.1, fun hm => by
      obtain ⟨τ, e1, e2⟩ := h0.2.2 b hm
      exact hb.2.2.1 τ e1 e2⟩) hinj l s.live xs y vs (fun _ h => h) hl hv
    exact ⟨h1.1, h1.2.1⟩
  cases sh with
  | one o t =>
    cases xs with
    | nil => simp [toSh] at h
    | cons x xs =>
      cases xs with
      | cons _ _ => simp [toSh] at h
      | nil =>
        cases vs with
        | nil => exact hv.elim
        | cons v vs =>
          cases vs with
          | cons _ _ => exact hv.2.elim
          | nil =>
            have h' : to1 s.live o t x = some r := h
            have := key [(o, t)] (r, ()) (by simp only [toL, h'])
            exact this
  | tup l =>
    have h' : (if Nat.beq l.length 1 then none else toL s.live l xs) = some r := by
      cases xs with
      | nil => exact h
      | cons x xs => cases xs <;> exact h
    split at h'
    · cases h'
    · rename_i hne
      have hk := key l r h'
      have hlen := ResL_len hk.1
      rw [dif_neg (fun he => hne (by rw [← hlen, he]; rfl))]
      exact ⟨vs, rfl, hk.1, hk.2⟩
/-! slices in a struct that is handed back are given up -/
theorem lv_self (lv : Nat) : (vw w0 Nin { s with live := lv } m w).To (vw w0 Nin { s with live := lv } m w) := ⟨rfl, fun b hb => ⟨hb, rfl⟩, fun b hi hb => ⟨hb, fun _ _ => rfl⟩, fun τ hu => ⟨hu, fun hl => ⟨hl, rfl, rfl, fun _ _ => rfl⟩⟩, fun b hb => ⟨hb, rfl⟩⟩
theorem lv_trans {l1 l2 l3 : Nat} (h2 : (vw w0 Nin { s with live := l1 } m w).To (vw w0 Nin { s with live := l2 } m w)) (k2 : (vw w0 Nin { s with live := l2 } m w).To (vw w0 Nin { s with live := l3 } m w)) :
    (vw w0 Nin { s with live := l1 } m w).To (vw w0 Nin { s with live := l3 } m w) :=
  ⟨rfl, fun b hb => ⟨(k2.N b (h2.N b hb).1).1, rfl⟩, fun b hi hb => ⟨(k2.R b hi (h2.R b hi hb).1).1, fun _ _ => rfl⟩, fun τ hu => ⟨hu, fun hl => ⟨((h2.L τ hu).2 ((k2.L τ hu).2 hl).1).1, rfl, rfl, fun _ _ => rfl⟩⟩, fun b hb => ⟨hb, rfl⟩⟩
theorem giveCs_sound : ∀ (cs : List AV) (us : List Value) (lv : Nat), Inv w0 Nin D { s with live := lv } m a w → all2 (V1 (vw w0 Nin { s with live := lv } m w)) cs us →
    Inv w0 Nin D { s with live := (giveCs lv cs).2 } m a w ∧ (vw w0 Nin { s with live := lv } m w).To (vw w0 Nin { s with live := (giveCs lv cs).2 } m w) ∧ all2 (V1 (vw w0 Nin { s with live := (giveCs lv cs).2 } m w)) (giveCs lv cs).1 us
  | [], us, lv, h, hv => ⟨h, lv_self lv, hv⟩
  | x :: r, [], lv, h, hv => hv.elim
  | x :: r, u :: us, lv, h, ⟨hx, hr⟩ => by
    have go : ∀ (lv' : Nat) (y : AV), Inv w0 Nin D { s with live := lv' } m a w → (vw w0 Nin { s with live := lv } m w).To (vw w0 Nin { s with live := lv' } m w) → V1 (vw w0 Nin { s with live := lv' } m w) y u →
        giveCs lv (x :: r) = (y :: (giveCs lv' r).1, (giveCs lv' r).2) →
        Inv w0 Nin D { s with live := (giveCs lv (x :: r)).2 } m a w ∧ (vw w0 Nin { s with live := lv } m w).To (vw w0 Nin { s with live := (giveCs lv (x :: r)).2 } m w) ∧ all2 (V1 (vw w0 Nin { s with live := (giveCs lv (x :: r)).2 } m w)) (giveCs lv (x :: r)).1 (u :: us) := by
      intro lv' y h1 h2 h3 h4
      obtain ⟨k1, k2, k3⟩ := giveCs_sound r us lv' h1 (all2_imp (fun _ _ => h2.v1) _ _ hr)
      rw [h4]
      exact ⟨k1, lv_trans h2 k2, k2.v1 h3, k3⟩
    cases x with
    | own id T e xs =>
      by_cases hl : hasBit lv id = true
      · obtain ⟨j1, j2, j3⟩ := frz_step (s := { s with live := lv }) h hl
        exact go (delBit lv id) (.v (.sl e) xs) j1 j2 (j3 T e xs _ hx) (by simp only [giveCs, if_pos hl])
      · exact go lv .bad h (lv_self lv) trivial (by simp only [giveCs, if_neg hl])
    | _ => exact go lv _ h (lv_self lv) hx rfl
theorem giveAV_sound {x : AV} {u : Value} {lv : Nat} (h : Inv w0 Nin D { s with live := lv } m a w) (hx : V (vw w0 Nin { s with live := lv } m w) x u) :
    Inv w0 Nin D { s with live := (giveAV lv x).2 } m a w ∧ (vw w0 Nin { s with live := lv } m w).To (vw w0 Nin { s with live := (giveAV lv x).2 } m w) ∧ V (vw w0 Nin { s with live := (giveAV lv x).2 } m w) (giveAV lv x).1 u := by
  cases x with
  | agg cs =>
    obtain ⟨vs, h0, h1, h2⟩ := (show ∃ vs, _ ∧ _ ∧ _ from hx)
    obtain ⟨k1, k2, k3⟩ := giveCs_sound cs vs lv h h1
    exact ⟨k1, k2, vs, h0, k3, h2⟩
  | _ => exact ⟨h, lv_self lv, hx⟩
theorem giveL_sound : ∀ (xs : List AV) (us : List Value) (lv : Nat), Inv w0 Nin D { s with live := lv } m a w → all2 (V (vw w0 Nin { s with live := lv } m w)) xs us →
    Inv w0 Nin D { s with live := (giveL lv xs).2 } m a w ∧ all2 (V (vw w0 Nin { s with live := (giveL lv xs).2 } m w)) (giveL lv xs).1 us ∧ (vw w0 Nin { s with live := lv } m w).To (vw w0 Nin { s with live := (giveL lv xs).2 } m w)
  | [], us, lv, h, hv => ⟨h, hv, lv_self lv⟩
  | x :: r, [], lv, h, hv => hv.elim
  | x :: r, u :: us, lv, h, ⟨hx, hr⟩ => by
    obtain ⟨j1, j2, j3⟩ := giveAV_sound h hx
    obtain ⟨k1, k2, k3⟩ := giveL_sound r us _ j1 (all2_imp (fun _ _ => j2.v) _ _ hr)
    exact ⟨k1, ⟨k3.v j3, k2⟩, lv_trans j2 k3⟩
/-! structs whose slices are new -/
def NewC (base : Nat) (u : Value) : Prop := ∀ (A : Addr) (n c : Nat), u = .slice (some A) n c → base ≤ A.block
theorem noSl_cells {w : World} {N : Nat → Prop} {base : Nat} : ∀ (t : Ty), t.noSl = true → ∀ (x : t.den) (cs : List Value), rep w N t x cs → ∀ u ∈ cs, NewC base u := by
  intro t
  induction t with
  | pair a b iha ihb =>
    intro h x cs hr u hu
    simp only [Ty.noSl, Bool.and_eq_true] at h
    obtain ⟨c0, c1, rfl, h0, h1⟩ := hr
    rcases List.mem_append.1 hu with hu | hu
    · exact iha h.1 _ _ h0 u hu
    · exact ihb h.2 _ _ h1 u hu
  | sl e _ => intro h; cases h
  | unit => intro _ x cs hr u hu; rw [show cs = [] from hr] at hu; cases hu
  | int k => intro _ x cs hr u hu; rw [show cs = [_] from hr] at hu; rw [List.mem_singleton.1 hu]; intro A n c h; cases h
  | bool => intro _ x cs hr u hu; rw [show cs = [_] from hr] at hu; rw [List.mem_singleton.1 hu]; intro A n c h; cases h
  | str => intro _ x cs hr u hu; rw [show cs = [_] from hr] at hu; rw [List.mem_singleton.1 hu]; intro A n c h; cases h
  | flt k => intro _ x cs hr u hu; rw [show cs = [_] from hr] at hu; rw [List.mem_singleton.1 hu]; intro A n c h; cases h
theorem rep_new {w : World} {N : Nat → Prop} {base : Nat} : ∀ (t : Ty), t.flat = true → ∀ (x : t.den) (cs : List Value), rep w N t x cs → (∀ u ∈ cs, NewC base u) → rep w (fun b => base ≤ b ∧ N b) t x cs := by
  intro t
  induction t with
  | pair a b iha ihb =>
    intro h x cs hr hn
    simp only [Ty.flat, Bool.and_eq_true] at h
    obtain ⟨c0, c1, rfl, h0, h1⟩ := hr
    exact ⟨c0, c1, rfl, iha h.1 _ _ h0 (fun u hu => hn u (List.mem_append_left _ hu)), ihb h.2 _ _ h1 (fun u hu => hn u (List.mem_append_right _ hu))⟩
  | sl e _ =>
    intro h x cs hr hn
    obtain ⟨A, c, inner, rfl, hl, hrr, hc⟩ := hr
    refine ⟨A, c, inner, rfl, hl, repsOf_imp (rep_noSl e h) x inner hrr, ?_⟩
    rcases hc with hc | ⟨ad, rfl, hq, hcell⟩
    · exact .inl hc
    · exact .inr ⟨ad, rfl, ⟨hn _ List.mem_cons_self ad _ _ rfl, hq⟩, hcell⟩
  | _ => exact fun _ _ _ h _ => h
def NewV (base : Nat) : Value → Prop
  | .agg cs => ∀ u ∈ cs.toList, NewC base u
  | v => NewC base v
theorem new_cell (hi : Inv w0 Nin D s m a w) {x : AV} {u : Value} (hx : frsCell s.live x = true) (hv : V1 (vw w0 Nin s m w) x u) : NewC w0.heap.size u := by
  cases x with
  | own id T e xs =>
    simp only [frsCell, Bool.and_eq_true] at hx
    obtain ⟨inner, ho, _⟩ := hv.2.2 hx.1
    intro A n c h
    rcases ho.2 with ⟨h1, _⟩ | ⟨g, cap, cur, h1, hg, _⟩
    · rw [h1] at h; cases h
    · rw [h1] at h; cases h; exact hg
  | nilS =>
    intro A n c h
    rw [show u = .slice none 0 0 from hv] at h
    cases h
  | v t y => exact noSl_cells t hx y [u] hv u List.mem_cons_self
  | _ => cases hx
theorem new_val (hi : Inv w0 Nin D s m a w) {x : AV} {u : Value} (hx : frsAV s.live x = true) (hv : V (vw w0 Nin s m w) x u) : NewV w0.heap.size u := by
  cases x with
  | agg cs =>
    obtain ⟨vs, rfl, h1, h9⟩ := (show ∃ vs, _ ∧ _ ∧ _ from hv)
    show ∀ u ∈ vs.toArray.toList, _
    simp only [frsAV] at hx
    clear hv h9
    induction cs generalizing vs with
    | nil => cases vs with
      | nil => intro u hu; cases hu
      | cons _ _ => exact h1.elim
    | cons c cs ih =>
      cases vs with
      | nil => exact h1.elim
      | cons v vs =>
        rw [List.all_cons, Bool.and_eq_true] at hx
        intro u hu
        have hu' : u ∈ v :: vs := hu
        rcases List.mem_cons.1 hu' with rfl | hu'
        · exact new_cell hi hx.1 h1.1
        · exact ih hx.2 vs h1.2 u hu'
  | own id T e xs =>
    have hn := new_cell (x := .own id T e xs) hi hx hv
    obtain ⟨_, ⟨A, c, inner, rfl, _⟩, _⟩ := (show _ ∧ _ ∧ _ from hv)
    exact hn
  | nilS => 
    have hn := new_cell (x := .nilS) hi hx hv
    rw [show u = .slice none 0 0 from hv] at hn ⊢
    exact hn
  | v t y =>
    have hn := new_cell (x := .v t y) hi hx hv
    cases u with
    | agg cs => exact absurd (rep_one t y _ (show rep w _ t y [.agg cs] from hv) _ List.mem_cons_self) (by simp [Value.oneCell'])
    | _ => exact hn
  | _ => cases hx
theorem ResL_new {w' : World} {base : Nat} {N' : Nat → Prop} : ∀ (l : List (Option TypeId × Ty)) (x : denL l) (vs : List Value), ResL w' base N' l x vs → (l.all fun p => p.2.flat) = true → (∀ v ∈ vs, NewV base v) → ResL w' base (fun b => base ≤ b ∧ N' b) l x vs
  | [], _, vs, h, _, _ => h
  | (o, t) :: l, x, [], h, _, _ => h.elim
  | (o, t) :: l, x, v :: vs, ⟨h, hl⟩, hf, hn => by
    rw [List.all_cons, Bool.and_eq_true] at hf
    refine ⟨?_, ResL_new l x.2 vs hl hf.2 (fun u hu => hn u (List.mem_cons_of_mem _ hu))⟩
    have hv := hn v List.mem_cons_self
    have plain : ∀ {t : Ty} {y : t.den}, t.flat = true → (∃ us, shut t us v ∧ rep w' N' t y us) → ∃ us, shut t us v ∧ rep w' (fun b => base ≤ b ∧ N' b) t y us := by
      rintro t y ht ⟨us, h1, h2⟩
      refine ⟨us, h1, rep_new t ht y us h2 fun u hu => ?_⟩
      cases t with
      | pair a b => rw [show v = .agg us.toArray from h1] at hv; exact hv u hu
      | unit => rw [show v = .agg us.toArray from h1] at hv; exact hv u hu
      | _ =>
        rw [show us = [v] from h1] at hu h2
        rw [List.mem_singleton.1 hu]
        have h3 := rep_one _ _ _ h2 v List.mem_cons_self
        cases v with
        | agg cs => simp [Value.oneCell'] at h3
        | _ => exact hv
    cases o with
    | none => cases t <;> exact plain hf.1 h
    | some T =>
      cases t with
      | sl e =>
        obtain ⟨inner, ho, hr⟩ := h
        exact ⟨inner, ho, repsOf_imp (rep_noSl e hf.1) _ inner hr⟩
      | _ => exact plain hf.1 h
theorem ResL_imp {w' : World} {base : Nat} {N' N'' : Nat → Prop} (hN : ∀ b, N' b → N'' b) : ∀ (l : List (Option TypeId × Ty)) (x : denL l) (vs : List Value), ResL w' base N' l x vs → ResL w' base N'' l x vs
  | [], _, vs, h => h
  | (o, t) :: l, x, [], h => h.elim
  | (o, t) :: l, x, v :: vs, ⟨h, hl⟩ => by
    refine ⟨?_, ResL_imp hN l x.2 vs hl⟩
    have st : ∀ (t : Ty) (y : t.den) (us : List Value), rep w' N' t y us → rep w' N'' t y us := fun t y us => rep_step (fun b hb => ⟨hN b hb, rfl⟩) t y us
    cases o with
    | none => cases t <;> exact (show ∃ us, _ ∧ _ from h).imp fun us h2 => ⟨h2.1, st _ _ _ h2.2⟩
    | some T =>
      cases t with
      | sl e =>
        obtain ⟨inner, ho, hr⟩ := h
        exact ⟨inner, ho, repsOf_imp (st e) _ inner hr⟩
      | _ => exact (show ∃ us, _ ∧ _ from h).imp fun us h2 => ⟨h2.1, st _ _ _ h2.2⟩
theorem fin_sound (hi : Inv w0 Nin D s m a w) {sh : Sh} {xs : List AV} {r : sh.den} {vs : List Value} (h : (bif sh.frs then (bif sh.flat && okFrs s.live xs then toSh (giveL s.live xs).2 sh (giveL s.live xs).1 else none) else toSh (giveL s.live xs).2 sh (giveL s.live xs).1) = some r) (hv : all2 (V (vw w0 Nin s m w)) xs vs) :
    ResV w0 w (resN sh Nin.N) sh r (if h : vs.length = 1 then vs[0] else .tuple vs.toArray) := by
  obtain ⟨k1, k2, k3⟩ := giveL_sound xs vs s.live hi hv
  unfold resN
  cases hf : sh.frs with
  | false =>
    rw [hf, cond_false] at h
    rw [if_neg (by decide)]
    exact toSh_sound (s := { s with live := (giveL s.live xs).2 }) k1 h k2
  | true =>
    rw [hf, cond_true] at h
    cases hc : sh.flat && okFrs s.live xs with
    | false => rw [hc] at h; cases h
    | true =>
      rw [hc, cond_true] at h
      rw [Bool.and_eq_true] at hc
      rw [if_pos rfl]
      have h0 := toSh_sound (s := { s with live := (giveL s.live xs).2 }) k1 h k2
      have hnew : ∀ v ∈ vs, NewV w0.heap.size v := by
        have ho := hc.2
        unfold okFrs at ho
        clear h0 h k2 k1 k3 hc
        induction xs generalizing vs with
        | nil => cases vs with
          | nil => intro v hv; cases hv
          | cons _ _ => exact hv.elim
        | cons x xs ih =>
          cases vs with
          | nil => exact hv.elim
          | cons v vs =>
            rw [List.all_cons, Bool.and_eq_true] at ho
            intro u hu
            rcases List.mem_cons.1 hu with rfl | hu
            · exact new_val hi ho.1 hv.1
            · exact ih hv.2 ho.2 u hu
      have key : ∀ (l : List (Option TypeId × Ty)) (y : denL l) (us : List Value), (∀ u ∈ us, NewV w0.heap.size u) → (l.all fun p => p.2.flat) = true → ResL w w0.heap.size (fun b => b < w.heap.size ∧ (b < w0.heap.size → Nin.N b) ∧ b ∉ owned l us) l y us →
          ResL w w0.heap.size (fun b => b < w.heap.size ∧ (b < w0.heap.size → False) ∧ b ∉ owned l us) l y us := fun l y us hn hfl hr =>
        ResL_imp (fun b ⟨hb, h1, h2, h3⟩ => ⟨h1, fun hlt => by omega, h3⟩) l y us (ResL_new l y us hr hfl hn)
      cases sh with
      | one o t =>
        cases vs with
        | nil =>
          cases xs with
          | nil => exact absurd h (by simp [toSh, giveL])
          | cons _ _ => exact hv.elim
        | cons v vs =>
          cases vs with
          | cons _ _ =>
            cases xs with
            | nil => exact hv.elim
            | cons x xs =>
              cases xs with
              | nil => exact hv.2.elim
              | cons _ _ => exact absurd h (by simp [toSh, giveL])
          | nil =>
            obtain ⟨c1, c2⟩ := h0
            exact ⟨key [(o, t)] (r, ()) [v] hnew (by simpa [Sh.flat] using hc.1) c1, c2⟩
      | tup l =>
        obtain ⟨us, e, c1, c2⟩ := h0
        refine ⟨us, e, key l r us ?_ hc.1 c1, c2⟩
        split at e
        · rename_i h1
          obtain ⟨v, rfl⟩ : ∃ v, vs = [v] := List.length_eq_one_iff.1 h1
          have e' : v = .tuple us.toArray := e
          have hv' := hnew v List.mem_cons_self
          exfalso
          have hl : l.length = us.length := (ResL_len c1).symm
          cases xs with
          | nil => exact hv.elim
          | cons x xs =>
            cases xs with
            | cons _ _ => exact hv.2.elim
            | nil =>
              have ho := hc.2
              simp only [okFrs, List.all_cons, List.all_nil, Bool.and_true] at ho
              have hx : V (vw w0 Nin s m w) x v := hv.1
              rw [e'] at hx
              cases x with
              | agg cs => obtain ⟨_, h9, _⟩ := (show ∃ vs, _ ∧ _ ∧ _ from hx); cases h9
              | own id T e2 ys => obtain ⟨_, ⟨A, c, inner, h9, _⟩, _⟩ := (show _ ∧ _ ∧ _ from hx); cases h9
              | nilS => exact Value.noConfusion (show Value.tuple us.toArray = .slice none 0 0 from hx)
              | v t y => exact absurd (rep_one t y _ (show rep w _ t y [.tuple us.toArray] from hx) _ List.mem_cons_self) (by simp [Value.oneCell'])
              | _ => cases ho
        · have : us = vs := by
            have := Value.tuple.inj e
            exact (List.toArray_inj this).symm
          rw [this]; exact hnew
theorem giveN_sound : ∀ (l : List (Option TypeId × Ty)) (xs : List AV) (us : List Value) (lv : Nat), Inv w0 Nin D { s with live := lv } m a w → all2 (V (vw w0 Nin { s with live := lv } m w)) xs us →
    Inv w0 Nin D { s with live := (giveN l lv xs).2 } m a w ∧ all2 (V (vw w0 Nin { s with live := (giveN l lv xs).2 } m w)) (giveN l lv xs).1 us ∧ (vw w0 Nin { s with live := lv } m w).To (vw w0 Nin { s with live := (giveN l lv xs).2 } m w)
  | [], xs, us, lv, h, hv => ⟨h, hv, lv_self lv⟩
  | _ :: _, [], us, lv, h, hv => ⟨h, hv, lv_self lv⟩
  | _ :: _, x :: r, [], lv, h, hv => hv.elim
  | (o, t) :: l, x :: r, u :: us, lv, h, ⟨hx, hr⟩ => by
    have go : ∀ (lv' : Nat) (y : AV), Inv w0 Nin D { s with live := lv' } m a w → (vw w0 Nin { s with live := lv } m w).To (vw w0 Nin { s with live := lv' } m w) → V (vw w0 Nin { s with live := lv' } m w) y u →
        giveN ((o, t) :: l) lv (x :: r) = (y :: (giveN l lv' r).1, (giveN l lv' r).2) →
        Inv w0 Nin D { s with live := (giveN ((o, t) :: l) lv (x :: r)).2 } m a w ∧ all2 (V (vw w0 Nin { s with live := (giveN ((o, t) :: l) lv (x :: r)).2 } m w)) (giveN ((o, t) :: l) lv (x :: r)).1 (u :: us) ∧ (vw w0 Nin { s with live := lv } m w).To (vw w0 Nin { s with live := (giveN ((o, t) :: l) lv (x :: r)).2 } m w) := by
      intro lv' y h1 h2 h3 h4
      obtain ⟨k1, k2, k3⟩ := giveN_sound l r us lv' h1 (all2_imp (fun _ _ => h2.v) _ _ hr)
      rw [h4]
      exact ⟨k1, ⟨k3.v h3, k2⟩, lv_trans h2 k3⟩
    cases o with
    | some T => exact go lv x h (lv_self lv) hx (by cases x <;> rfl)
    | none =>
      cases x with
      | own id T e xs =>
        by_cases hl : hasBit lv id = true
        · obtain ⟨j1, j2, j3⟩ := frz_step (s := { s with live := lv }) h hl
          exact go (delBit lv id) (.v (.sl e) xs) j1 j2 (j3 T e xs _ hx) (by simp only [giveN, hl, cond_true])
        · exact go lv .bad h (lv_self lv) trivial (by simp only [giveN, Bool.eq_false_iff.2 hl, cond_false])
      | _ => exact go lv _ h (lv_self lv) hx rfl
theorem fin_sound2 (hi : Inv w0 Nin D s m a w) {sh : Sh} {xs : List AV} {r : sh.den} {vs : List Value} (h : finX sh (giveN sh.parts s.live xs).2 (giveN sh.parts s.live xs).1 = some r) (hv : all2 (V (vw w0 Nin s m w)) xs vs) :
    ResV w0 w (resN sh Nin.N) sh r (if h : vs.length = 1 then vs[0] else .tuple vs.toArray) := by
  obtain ⟨k1, k2, _⟩ := giveN_sound sh.parts xs vs s.live hi hv
  exact fin_sound (s := { s with live := (giveN sh.parts s.live xs).2 }) k1 h k2
theorem gvAV_sound {x : AV} {u : Value} {lv : Nat} (h : Inv w0 Nin D { s with live := lv } m a w) (hx : V (vw w0 Nin { s with live := lv } m w) x u) :
    Inv w0 Nin D { s with live := (gvAV lv x).2 } m a w ∧ (vw w0 Nin { s with live := lv } m w).To (vw w0 Nin { s with live := (gvAV lv x).2 } m w) ∧ V (vw w0 Nin { s with live := (gvAV lv x).2 } m w) (gvAV lv x).1 u := by
  cases x with
  | own id T e xs =>
    simp only [gvAV]
    split
    · rename_i hl
      obtain ⟨j1, j2, j3⟩ := frz_step (s := { s with live := lv }) h hl
      exact ⟨j1, j2, j3 T e xs _ hx⟩
    · exact ⟨h, lv_self lv, trivial⟩
  | _ => exact giveAV_sound h hx
theorem gvL_sound : ∀ (xs : List AV) (us : List Value) (lv : Nat), Inv w0 Nin D { s with live := lv } m a w → all2 (V (vw w0 Nin { s with live := lv } m w)) xs us →
    Inv w0 Nin D { s with live := (gvL lv xs).2 } m a w ∧ all2 (V (vw w0 Nin { s with live := (gvL lv xs).2 } m w)) (gvL lv xs).1 us ∧ (vw w0 Nin { s with live := lv } m w).To (vw w0 Nin { s with live := (gvL lv xs).2 } m w)
  | [], us, lv, h, hv => ⟨h, hv, lv_self lv⟩
  | x :: r, [], lv, h, hv => hv.elim
  | x :: r, u :: us, lv, h, ⟨hx, hr⟩ => by
    obtain ⟨j1, j2, j3⟩ := gvAV_sound h hx
    obtain ⟨k1, k2, k3⟩ := gvL_sound r us _ j1 (all2_imp (fun _ _ => j2.v) _ _ hr)
    exact ⟨k1, ⟨k3.v j3, k2⟩, lv_trans j2 k3⟩
theorem byVals_V2 (h : Inv w0 Nin D s m a w) {typ : TypeId → Option Ty} {fresh : Bool} : ∀ (xs : List AV) (us : List Value) (ts : List TypeId) (ys : List AV), all2 (V (vw w0 Nin s m w)) xs us → byVals typ xs ts = some ys → (fresh || xs.all calm) = true →
    all2 (V (argVw w (if fresh = true then fun _ => True else (vw w0 Nin s m w).N))) ys us
  | [], [], ts, ys, _, hy, _ => by simp only [byVals, Option.some.injEq] at hy; subst hy; trivial
  | [], _ :: _, _, _, hv, _, _ => hv.elim
  | _ :: _, [], _, _, hv, _, _ => hv.elim
  | x :: l, u :: us, ts, ys, ⟨hx, hr⟩, hy, hc => by
    simp only [byVals] at hy
    split at hy
    · rename_i y ys' h1 h2
      simp only [Option.some.injEq] at hy
      subst hy
      cases fresh with
      | true => exact ⟨byVal_wide (q := vw w0 Nin s m w) h.rdLt (fun b hb => hb.1) h1 hx, byVals_V2 h l us _ ys' hr h2 rfl⟩
      | false =>
        simp only [Bool.false_or, List.all_cons, Bool.and_eq_true] at hc
        exact ⟨byVal_calm (q := vw w0 Nin s m w) (fun b hb => hb.1) hc.1 h1 hx, byVals_V2 h l us _ ys' hr h2 (by simpa using hc.2)⟩
    · cases hy
end
theorem body_contract {Γ : Ctx} (hΓ : CallsOk Γ) {keep : Hints} {n : Nat} {f : FuncId} {fn : Func} {sh : Sh} {args : List AV} {r : sh.den}
    (hf : Γ.P.funcs[f]? = some fn) (h : aBody Γ keep (fun R => iter (R := R) Γ keep n) fn sh args = some r) : Contract Γ.P sh f args r := by
  unfold aBody at h
  split at h
  · rename_i c hc
    intro w N vargs hok hv
    refine calls_of_wp hf hc ?_
    have hlen := all2_len hv
    have hto : (argVw w N).To (vw w ⟨N, [], []⟩ { t := args ++ List.replicate (fn.ntmps - args.length) (.raw undef), bx := [], live := 0, g := [] } { G := fun _ => none, E := fun _ => 0, U := fun _ => False, B := fun _ => 0 } w) := by
      have hNN : ∀ b, (argVw w N).N b → (vw w ⟨N, [], []⟩ { t := args ++ List.replicate (fn.ntmps - args.length) (.raw undef), bx := [], live := 0, g := [] } { G := fun _ => none, E := fun _ => 0, U := fun _ => False, B := fun _ => 0 } w).N b :=
        fun b hb => ⟨hb.1, fun _ => hb.2, (fun τ _ h => by cases h), (fun i T cs hi => by simp at hi)⟩
      exact ⟨rfl, fun b hb => ⟨hNN b hb, rfl⟩, fun b hi hb => ⟨hb.imp (hNN b) (fun ⟨_, h, _⟩ => h.elim), fun _ _ => rfl⟩, fun τ h => h.elim, fun b h => h.elim⟩
    have hinv : Inv w ⟨N, [], []⟩ (fun k => k < 0) { t := args ++ List.replicate (fn.ntmps - args.length) (.raw undef), bx := [], live := 0, g := [] } { G := fun _ => none, E := fun _ => 0, U := fun _ => False, B := fun _ => 0 }
        { tmps := vargs.toArray ++ Array.replicate (fn.ntmps - vargs.toArray.size) undef, defers := [] } w := by
      refine ⟨Below.refl _ _, rfl, ?_, ?_, ?_, ?_, ?_, ?_, ?_, ?_, ?_, ?_, trivial, (fun p hp => by cases hp), hok⟩
      · simp [hlen]
      · intro i x v hx hu
        have hu' : (vargs ++ List.replicate (fn.ntmps - vargs.length) undef)[i]? = some v := by
          rw [← Array.getElem?_toList] at hu
          simpa using hu
        have hx' : (args ++ List.replicate (fn.ntmps - args.length) (.raw undef))[i]? = some x := hx
        by_cases hi : i < args.length
        · rw [List.getElem?_append_left hi] at hx'
          rw [List.getElem?_append_left (by omega)] at hu'
          obtain ⟨u, e1, e2⟩ := all2_get hv hx'
          rw [hu'] at e1
          cases e1
          exact hto.v e2
        · rw [List.getElem?_append_right (by omega), List.getElem?_replicate] at hx'
          rw [List.getElem?_append_right (by omega), List.getElem?_replicate] at hu'
          split at hx'
          · split at hu'
            · cases hx'; cases hu'; rfl
            · cases hu'
          · cases hx'
      · intro τ k hl; simp [hasBit] at hl
      · intro τ τ' k hl; simp [hasBit] at hl
      · intro b T cs hb; simp at hb
      · intro b T cs b' T' cs' hb; simp at hb
      · intro τ k b T cs hl; simp [hasBit] at hl
      · intro τ h; exact h.elim
      · intro b T cs hb; simp at hb
      · intro τ hl; simp [hasBit] at hl
    have hw := aCode_sound hΓ (keep := keep) (iter_ok hΓ n) c _ (finA Γ fn sh) h _ _ w hinv
    refine wp_mono hw (fun e a' w' hq => ?_)
    obtain ⟨e', s', m', h1, h2, h3⟩ := hq
    have fin : ∀ {e' : AEx}, finA Γ fn sh e' s' = some r → a'.defers = [] ∧ ∃ v, (results fn a'.tmps).run Γ.P w' = .ok v w' ∧ ∃ v', Ending.returned v = .returned v' ∧ Below w.heap.size w w' ∧ ResV w w' (resN sh N) sh r v' := by
      intro e' h1
      have h1' : ∃ xs, resL Γ s' fn.results.toList = some xs ∧ finX sh (giveN sh.parts s'.live xs).2 (giveN sh.parts s'.live xs).1 = some r := by
        cases e' with
        | exit _ => cases h1
        | normal =>
          simp only [finA] at h1
          split at h1
          · rename_i xs hxs; exact ⟨xs, hxs, h1⟩
          · cases h1
        | ret =>
          simp only [finA] at h1
          split at h1
          · rename_i xs hxs; exact ⟨xs, hxs, h1⟩
          · cases h1
      obtain ⟨xs, hxs, hr⟩ := h1'
      obtain ⟨vs, hvs1, hvs2⟩ := resL_sound h3 hxs
      exact ⟨h3.defers, _, run_results fn a'.tmps hvs1, _, rfl, h3.below, fin_sound2 h3 hr hvs2⟩
    cases e with
    | normal => exact fin h1
    | ret => exact fin h1
    | exit id => cases e' <;> first | exact h2.elim | skip; cases h1
    | _ => cases e' <;> exact h2.elim
  · cases h
/-! ### reckoned inside -/
def pairK : AEx → St → Option (AEx × St) := fun e s => some (e, s)
def LNat (L : (R : Type) → LoopK R) : Prop := ∀ (R : Type) (c : Code) (s : St) (K : AEx → St → Option R), L R c s K = (L (AEx × St) c s pairK).bind fun p => K p.1 p.2
theorem aCode_nat {Γ : Ctx} (hΓ : CallsOk Γ) {keep : Hints} {L : (R : Type) → LoopK R} (hL : LNat L) : ∀ (c : Code) (R : Type) (s : St) (K : AEx → St → Option R), aCode Γ keep (L R) c s K = (aCode Γ keep (L (AEx × St)) c s pairK).bind fun p => K p.1 p.2 := by
  intro c
  induction c with
  | seq x y ihx ihy =>
    intro R s K
    simp only [aCode]
    refine (ihx R s _).trans ?_
    refine Eq.trans ?_ (congrArg (fun o => Option.bind o fun p => K p.1 p.2) (ihx (AEx × St) s _).symm)
    show _ = Option.bind (Option.bind _ _) _
    rw [Option.bind_assoc]
    congr 1
    funext p
    obtain ⟨e, s'⟩ := p
    cases e with
    | normal => exact ihy R s' K
    | exit _ => rfl
    | ret => rfl
  | cond c x y ihx ihy =>
    intro R s K
    simp only [aCode]
    split
    · rename_i b _
      cases (b : Bool) with
      | true => exact ihx R s K
      | false => exact ihy R s K
    · rfl
  | block id c ih =>
    intro R s K
    simp only [aCode]
    refine (ih R s _).trans ?_
    refine Eq.trans ?_ (congrArg (fun o => Option.bind o fun p => K p.1 p.2) (ih (AEx × St) s _).symm)
    show _ = Option.bind (Option.bind _ _) _
    rw [Option.bind_assoc]
    congr 1
    funext p
    obtain ⟨e, s'⟩ := p
    cases e with
    | normal => rfl
    | exit j =>
      simp only
      split <;> rfl
    | ret => rfl
  | loop c _ => intro R s K; exact hL R c _ K
  | scope c ih => intro R s K; simp only [aCode]; exact ih R s K
  | region id ops draw =>
    intro R s K
    simp only [aCode]
    split
    · rw [aOps_nat hΓ (K := K .normal), aOps_nat hΓ (K := pairK .normal), Option.bind_assoc]
      rfl
    · rfl
  | _ => intro R s K; first | rfl | (simp [aCode, pairK])
theorem iter_nat {Γ : Ctx} (hΓ : CallsOk Γ) {keep : Hints} : ∀ n : Nat, LNat (fun R => iter (R := R) Γ keep n)
  | 0 => fun _ _ _ _ => rfl
  | n + 1 => by
    intro R c s K
    simp only [iter]
    refine (aCode_nat hΓ (iter_nat hΓ n) c R s _).trans ?_
    refine Eq.trans ?_ (congrArg (fun o => Option.bind o fun p => K p.1 p.2) (aCode_nat hΓ (iter_nat hΓ n) c (AEx × St) s _).symm)
    show _ = Option.bind (Option.bind _ _) _
    rw [Option.bind_assoc]
    congr 1
    funext p
    obtain ⟨e, s'⟩ := p
    cases e with
    | normal => exact iter_nat hΓ n R c _ K
    | exit _ => rfl
    | ret => rfl
theorem inFin_nat {R : Type} {Γ : Ctx} {fn : Func} {k : Nat} {K : AV → St → Option R} (e : AEx) (s : St) : inFin Γ fn k K e s = (inFin Γ fn k (fun v s' => some (v, s')) e s).bind fun p => K p.1 p.2 := by
  have go : (match resL Γ s fn.results.toList with
    | some [x] => K x { t := s.g.take k, bx := s.bx, live := s.live, g := s.g.drop k }
    | some xs => if xs.all (fun | .tup _ => false | _ => true) then K (.tup xs) { t := s.g.take k, bx := s.bx, live := s.live, g := s.g.drop k } else none
    | none => none) = (match resL Γ s fn.results.toList with
    | some [x] => some (x, ({ t := s.g.take k, bx := s.bx, live := s.live, g := s.g.drop k } : St))
    | some xs => if xs.all (fun | .tup _ => false | _ => true) then some (.tup xs, ({ t := s.g.take k, bx := s.bx, live := s.live, g := s.g.drop k } : St)) else none
    | none => none).bind fun p => K p.1 p.2 := by
    split
    · rfl
    · split <;> rfl
    · rfl
  cases e with
  | exit _ => rfl
  | normal => exact go
  | ret => exact go
theorem all2_of_get {α β : Type} {r : α → β → Prop} : ∀ {xs : List α} {ys : List β}, xs.length = ys.length → (∀ (i : Nat) x y, xs[i]? = some x → ys[i]? = some y → r x y) → all2 r xs ys
  | [], [], _, _ => trivial
  | [], _ :: _, h, _ => by cases h
  | _ :: _, [], h, _ => by cases h
  | x :: xs, y :: ys, h, hr => ⟨hr 0 x y rfl rfl, all2_of_get (by simpa using h) (fun i a b ha hb => hr (i + 1) a b (by simpa using ha) (by simpa using hb))⟩
theorem V2_of_V {q : Vw} {x : AV} {v : Value} (hx : (match x with | .tup _ => false | _ => true) = true) (h : V q x v) : V2 q x v := by
  cases x <;> first | (cases hx; done) | exact h
theorem in_sound {Γ : Ctx} (hΓ : CallsOk Γ) {keep : Hints} {n : Nat} {f : FuncId} {fn : Func} {c : Code} {args : List AV} {s s' : St} {x : AV} (hf : Γ.P.funcs[f]? = some fn) (hc : fn.body = some c)
    (h : aCode Γ keep (iter (R := AV × St) Γ keep n) c { t := args ++ List.replicate (fn.ntmps - args.length) (.raw undef), bx := s.bx, live := s.live, g := s.t ++ s.g } (inFin Γ fn s.t.length fun v s' => some (v, s')) = some (x, s')) : InOk Γ f args s x s' := by
  intro w0 Nin m a w hi vargs hv
  refine calls_of_wp hf hc ?_
  have hlen := all2_len hv
  have hinv : Inv w0 ⟨Nin.N, a.tmps.toList ++ Nin.gv, Nin.fr⟩ (fun k => k < s.bx.length) { t := args ++ List.replicate (fn.ntmps - args.length) (.raw undef), bx := s.bx, live := s.live, g := s.t ++ s.g } m
      { tmps := vargs.toArray ++ Array.replicate (fn.ntmps - vargs.toArray.size) undef, defers := [] } w := by
    refine ⟨hi.below, rfl, ?_, ?_, hi.toks, hi.inj, hi.boxes, hi.binj, hi.sep, hi.uD, hi.bD, hi.liveU, ?_, hi.frz, hi.ok⟩
    · simp [hlen]
    · intro i x v hx hu
      have hu' : (vargs ++ List.replicate (fn.ntmps - vargs.length) undef)[i]? = some v := by
        rw [← Array.getElem?_toList] at hu
        simpa using hu
      have hx' : (args ++ List.replicate (fn.ntmps - args.length) (.raw undef))[i]? = some x := hx
      by_cases hil : i < args.length
      · rw [List.getElem?_append_left hil] at hx'
        rw [List.getElem?_append_left (by omega)] at hu'
        obtain ⟨u, e1, e2⟩ := all2_get hv hx'
        rw [hu'] at e1
        cases e1
        exact e2
      · rw [List.getElem?_append_right (by omega), List.getElem?_replicate] at hx'
        rw [List.getElem?_append_right (by omega), List.getElem?_replicate] at hu'
        split at hx'
        · split at hu'
          · cases hx'; cases hu'; rfl
          · cases hu'
        · cases hx'
    · refine all2_append (all2_of_get (by rw [Array.length_toList]; exact hi.tlen.symm) (fun i x y hx hy => hi.tmps i x y hx (by simpa using hy))) hi.ghost
  have hw := aCode_sound hΓ (keep := keep) (iter_ok hΓ n) c _ (inFin Γ fn s.t.length fun v s' => some (v, s')) h _ _ w hinv
  refine wp_mono hw (fun e a' w' hq => ?_)
  obtain ⟨e', s1, m', h1, h2, h3⟩ := hq
  have hgl := all2_len h3.ghost
  have hk : s.t.length = a.tmps.toList.length := by rw [Array.length_toList]; exact hi.tlen.symm
  have hgl' : s1.g.length = a.tmps.toList.length + Nin.gv.length := by rw [hgl]; simp
  have hcaller : ∀ t' : St, t' = { t := s1.g.take s.t.length, bx := s1.bx, live := s1.live, g := s1.g.drop s.t.length } → Inv w0 Nin (fun k => k < t'.bx.length) t' m' a w' := by
    rintro t' rfl
    refine ⟨h3.below, hi.defers, ?_, ?_, h3.toks, h3.inj, h3.boxes, h3.binj, h3.sep, h3.uD, h3.bD, h3.liveU, ?_, h3.frz, h3.ok⟩
    · show a.tmps.size = (s1.g.take s.t.length).length
      rw [List.length_take, hi.tlen]
      rw [Array.length_toList] at hk hgl'
      omega
    · intro i y v hy hu
      have hy' : (s1.g.take s.t.length)[i]? = some y := hy
      have := all2_take s.t.length h3.ghost
      obtain ⟨u, e1, e2⟩ := all2_get this hy'
      rw [hk] at e1
      have e1' : (a.tmps.toList ++ Nin.gv).take a.tmps.toList.length = a.tmps.toList := by simp
      have e3 : a.tmps.toList[i]? = some u := by rw [← e1']; exact e1
      have e4 : a.tmps[i]? = some u := by simpa using e3
      rw [hu] at e4
      cases e4
      exact e2
    · have := all2_drop s.t.length h3.ghost
      have e1' : (a.tmps.toList ++ Nin.gv).drop s.t.length = Nin.gv := by rw [hk]; simp
      show all2 _ (s1.g.drop s.t.length) Nin.gv
      rw [← e1']
      exact this
  have fin : ∀ {e' : AEx}, inFin Γ fn s.t.length (fun v s' => some (v, s')) e' s1 = some (x, s') → a'.defers = [] ∧ ∃ v, (results fn a'.tmps).run Γ.P w' = .ok v w' ∧ ∃ v', Ending.returned v = .returned v' ∧ ∃ m', Inv w0 Nin (fun k => k < s'.bx.length) s' m' a w' ∧ V (vw w0 Nin s' m' w') x v' := by
    intro e' h1
    have h1' : (match resL Γ s1 fn.results.toList with
      | some [x] => some (x, ({ t := s1.g.take s.t.length, bx := s1.bx, live := s1.live, g := s1.g.drop s.t.length } : St))
      | some xs => if xs.all (fun | .tup _ => false | _ => true) then some (.tup xs, ({ t := s1.g.take s.t.length, bx := s1.bx, live := s1.live, g := s1.g.drop s.t.length } : St)) else none
      | none => none) = some (x, s') := by
      cases e' with
      | exit _ => cases h1
      | normal => exact h1
      | ret => exact h1
    refine ⟨h3.defers, ?_⟩
    split at h1'
    · rename_i x0 hx0
      simp only [Option.some.injEq, Prod.mk.injEq] at h1'
      obtain ⟨rfl, he⟩ := h1'
      obtain ⟨vs, hvs1, hvs2⟩ := resL_sound h3 hx0
      cases vs with
      | nil => exact hvs2.elim
      | cons v vs =>
        cases vs with
        | cons _ _ => exact hvs2.2.elim
        | nil =>
          refine ⟨_, run_results fn a'.tmps hvs1, v, rfl, m', hcaller _ he.symm, ?_⟩
          subst he
          exact hvs2.1
    · rename_i xs hne hxs
      split at h1'
      · rename_i hall
        simp only [Option.some.injEq, Prod.mk.injEq] at h1'
        obtain ⟨rfl, he⟩ := h1'
        obtain ⟨vs, hvs1, hvs2⟩ := resL_sound h3 hxs
        have hl := all2_len hvs2
        have h1ne : ¬ vs.length = 1 := by
          intro h1
          rw [h1] at hl
          obtain ⟨x0, hx0⟩ := List.length_eq_one_iff.1 hl
          exact hne x0 hx0
        refine ⟨_, run_results fn a'.tmps hvs1, _, rfl, m', hcaller _ he.symm, ?_⟩
        rw [dif_neg h1ne]
        subst he
        refine ⟨vs, rfl, all2_of_get hl (fun i y v hy hv' => ?_)⟩
        obtain ⟨u, e1, e2⟩ := all2_get hvs2 hy
        rw [hv'] at e1
        cases e1
        exact V2_of_V (List.all_eq_true.1 hall y (List.mem_of_getElem? hy)) e2
      · cases h1'
    · cases h1'
  cases e with
  | normal => exact fin h1
  | ret => exact fin h1
  | exit id => cases e' <;> first | exact h2.elim | skip; cases h1
  | _ => cases e' <;> exact h2.elim
theorem give_nat {R : Type} {B : Base} {call : CallT B} {f : FuncId} {args : List AV} {s : St} {K : AV → St → Option R} : goGive B call f args s K = (goGive B call f args s fun v s' => some (v, s')).bind fun p => K p.1 p.2 := by
  unfold goGive
  split
  · split
    · split
      · split
        · rw [Option.bind_assoc]; rfl
        · rfl
      · rfl
    · rfl
  · rfl
theorem give_ok {B : Base} {call : CallT B} {inl : InlT} (hΓ : CallsOk (mkC B call inl)) {f : FuncId} {args : List AV} {s : St} {x : AV} {s' : St} (h : goGive B call f args s (fun v s' => some (v, s')) = some (x, s')) (Γ : Ctx) (hP : Γ.P = B.P) :
    (∃ fn, B.P.funcs[f]? = some fn ∧ fn.body.isSome = true) ∧ InOk Γ f args s x s' := by
  unfold goGive at h
  split at h
  · rename_i fn hfn
    split at h
    · rename_i c hc
      refine ⟨⟨fn, hfn, by rw [hc]; rfl⟩, ?_⟩
      split at h
      · rename_i vs hvs
        split at h
        · rename_i hcond
          rw [Bool.and_eq_true] at hcond
          obtain ⟨r, hcall, hK⟩ := bind_some h
          have hK' : (mkAV (8 * s.bx.length) (B.sh f) r, { s with live := (B.sh f).bits (8 * s.bx.length) (gvL s.live args).2, bx := s.bx ++ [none] }) = (x, s') := Option.some.inj hK
          obtain ⟨rfl, rfl⟩ := Prod.mk.inj hK'
          intro w0 Nin m a w hi vargs hv
          rw [hP]
          obtain ⟨k1, k2, _⟩ := gvL_sound args vargs s.live hi hv
          have hargs := byVals_V2 (fresh := (B.sh f).freshA) k1 _ vargs _ vs k2 hvs hcond.1
          rcases hΓ.ok f vs r hcall with ⟨_, hcon⟩ | ⟨⟨fn', h1, h2⟩, _⟩
          · have hcalls := hcon w (if (B.sh f).freshA = true then fun _ => True else (vw w0 Nin { s with live := (gvL s.live args).2 } m w).N) vargs k1.okNow hargs
            have hcalls' : Calls B.P f vargs.toArray w _ := hcalls
            refine hcalls'.mono ?_
            rintro e w' ⟨v, rfl, hbelow, hres⟩
            have k3 := ext_sound k1 1
            obtain ⟨m', hI, hV⟩ := res_step (n := s.bx.length) k3 (by omega) hbelow (B.sh f) hcond.2 (by
              rcases resN_ok (B.sh f) (vw w0 Nin { s with live := (gvL s.live args).2 } m w).N with h | h
              · exact .inl h
              · refine .inr fun b hb => ?_
                obtain ⟨c1, c2, c3, c4⟩ := h b hb
                exact ⟨c1, c2, c3, fun i T cs hi => c4 i T cs (ext_get.1 hi)⟩) hres
            refine ⟨v, rfl, m', ?_, hV⟩
            refine hI.wider (fun k hk => ?_)
            show k < (s.bx ++ [none]).length
            rw [List.length_append, List.length_singleton]
            rcases hk with hk | hk <;> omega
          · have h1' : B.P.funcs[f]? = some fn' := h1
            rw [hfn] at h1'
            cases h1'
            rw [hc] at h2
            cases h2
        · cases h
      · cases h
    · cases h
  · cases h
/-- What every function must be, and the contracts of those that are answered for. -/
structure BaseOk (B : Base) : Prop where
  names : ∀ (f : FuncId) (fn : Func), B.P.funcs[f]? = some fn → (fn.name == "runtime.NumGoroutine") = false
  sp : ∀ f g args r, B.sp f = some g → g args = some r → CallOk B.P (B.sh f) f args r
  spi : ∀ (Γ : Ctx), Γ.P = B.P → ∀ f g args s x s', B.spi f = some g → g.1 args s = true → g.2 args s = some (x, s') → (∃ fn, B.P.funcs[f]? = some fn ∧ fn.body.isSome = true) ∧ InOk Γ f args s x s'
  spc : ∀ (call : CallT B) (inl : InlT), CallsOk (mkC B call inl) → ∀ f g args r, B.spc f = some g → g call args = some r → CallOk B.P (B.sh f) f args r
theorem ctxN_ok {B : Base} (hB : BaseOk B) : ∀ n : Nat, CallsOk (ctxN B n)
  | 0 => ⟨fun _ _ _ _ _ => rfl, (fun f args s x s' h => by cases h), fun f args r h => by cases h⟩
  | n + 1 => by
    refine ⟨fun R f args s K => ?_, fun f args s x s' h => ?_, fun f args r h => ?_⟩
    · show inlN B (lvl B n).1 (lvl B n).2 n R f args s K = (inlN B (lvl B n).1 (lvl B n).2 n (AV × St) f args s fun v s' => some (v, s')).bind fun p => K p.1 p.2
      unfold inlN
      split
      · exact give_nat
      split
      · rename_i g _
        cases g.1 args s with
        | false => rfl
        | true => cases g.2 args s <;> rfl
      split
      · split
        · rename_i c _
          rw [aCode_nat (ctxN_ok hB n) (iter_nat (ctxN_ok hB n) n) c R, aCode_nat (ctxN_ok hB n) (iter_nat (ctxN_ok hB n) n) c (AV × St), Option.bind_assoc]
          congr 1
          funext p
          exact inFin_nat p.1 p.2
        · rfl
      · rfl
    · have h' : inlN B (lvl B n).1 (lvl B n).2 n (AV × St) f args s (fun v s' => some (v, s')) = some (x, s') := h
      unfold inlN at h'
      split at h'
      · obtain ⟨⟨fn, k1, k2⟩, k3⟩ := give_ok (ctxN_ok hB n) h' (ctxN B (n + 1)) rfl
        exact ⟨⟨fn, k1, hB.names f fn k1, k2⟩, k3⟩
      split at h'
      · rename_i g hg
        cases hc : g.1 args s with
        | false => rw [hc] at h'; cases h'
        | true =>
        rw [hc] at h'
        obtain ⟨⟨x1, s1⟩, h1, h2⟩ := Option.bind_eq_some_iff.1 h'
        have h3 : some (x1, s1) = some (x, s') := h2
        obtain ⟨rfl, rfl⟩ := Prod.mk.inj (Option.some.inj h3)
        obtain ⟨⟨fn, k1, k2⟩, k3⟩ := hB.spi (ctxN B n) rfl f g args s _ _ hg hc h1
        exact ⟨⟨fn, k1, hB.names f fn k1, k2⟩, k3⟩
      split at h'
      · rename_i fn hfn
        split at h'
        · rename_i c hc
          exact ⟨⟨fn, hfn, hB.names f fn hfn, by rw [hc]; rfl⟩, in_sound (ctxN_ok hB n) (Γ := ctxN B n) hfn hc h'⟩
        · cases h'
      · cases h'
    · have h' : stepN B (lvl B n).1 (lvl B n).2 n f args = some r := h
      unfold stepN at h'
      split at h'
      · rename_i g hg
        exact hB.sp f g args r hg h'
      · split at h'
        · rename_i g hg
          exact hB.spc _ _ (ctxN_ok hB n) f g args r hg h'
        split at h'
        · rename_i fn hfn
          have := body_contract (ctxN_ok hB n) (Γ := ctxN B n) hfn h'
          refine .inl ⟨⟨fn, hfn, hB.names f fn hfn, ?_⟩, this⟩
          unfold aBody at h'
          split at h'
          · rename_i c hc; rw [hc]; rfl
          · cases h'
        · cases h'
theorem callN_contract {B : Base} (hB : BaseOk B) {n : Nat} {f : FuncId} {args : List AV} {r : (B.sh f).den} (h : callN B n f args = some r)
    (hb : ((B.P.funcs[f]?).any fun fn => fn.body.isNone) = false := by kernel_rfl) : Contract B.P (B.sh f) f args r := by
  rcases (ctxN_ok hB n).ok f args r h with ⟨_, hc⟩ | ⟨⟨fn, h1, h2⟩, _⟩
  · exact hc
  · have h1' : B.P.funcs[f]? = some fn := h1
    rw [h1'] at hb
    have h3 : fn.body.isNone = false := hb
    rw [h2] at h3
    cases h3
end Go.Eng
/- ENGINE, part V: the program's tables; what comes in at a law, opened by its type. -/
namespace Go.Eng
open Go Go.RowKit Go.ChangeShapes Go.WideShapes Go.Deep
def tyFs (P : Program) (ty : TypeId → Option Ty) : List Field → Nat → Option Ty
  | [], _ => some .unit
  | f :: r, off => if Nat.beq f.offset off then (match ty f.type, tyFs P ty r (off + P.cellsOf f.type) with
    | some a, some b => if Nat.beq a.sz (P.cellsOf f.type) then some (.pair a b) else none
    | _, _ => none) else none
/-- The type of a type's values, if this machine knows them. -/
def tyOf (P : Program) : Nat → TypeId → Option Ty
  | 0, _ => none
  | n + 1, t => match P.underlying t with
    | some (.int k) => some (.int k)
    | some .bool => some .bool
    | some .string => some .str
    | some (.float k) => some (.flt k)
    | some (.slice e) => match tyOf P n e with
      | some a => if Nat.beq a.sz (P.cellsOf e) then some (.sl a) else none
      | none => none
    | some (.struct fs) => match tyFs P (tyOf P n) fs.toList 0 with
      | some a => if Nat.beq a.sz (P.cellsOf t) then some a else none
      | none => none
    | _ => none
/-- What holds of every value that comes in. -/
def wf : (t : Ty) → t.den → Prop
  | .int k, n => (Lit.int k n).wf = true
  | .bool, _ => True
  | .str, s => ByteArray.size s ≤ maxLen
  | .flt k, b => (Lit.float k b).wf = true
  | .unit, _ => True
  | .pair a b, x => wf a x.1 ∧ wf b x.2
  | .sl e, xs => List.length xs ≤ maxLen ∧ ∀ x ∈ (xs : List e.den), wf e x
def InN (w : World) (b : Nat) : Prop := b < w.heap.size ∧ True
section
variable {P : Program} {H : Type} {enc : TypeId × Value → H} {w : World} {base : Nat} {held : Bool}
theorem row_of {e : Ty} {a : Addr} {m : Nat} : ∀ n : Nat, n ≤ m → (∀ i, i < m → ∃ cs', (∃ y, rep w (InN w) e y cs' ∧ wf e y) ∧ ∀ j u, cs'[j]? = some u → w.cell? (a.add (i * e.sz + j)) = some u) →
    ∃ (xs : List e.den) (inner : List Value), xs.length = n ∧ repsOf (rep w (InN w) e) xs inner ∧ (∀ x ∈ xs, wf e x) ∧ inner.length = n * e.sz ∧ ∀ j u, inner[j]? = some u → w.cell? (a.add j) = some u
  | 0, _, _ => ⟨[], [], rfl, rfl, (fun x hx => by cases hx), by simp, (fun j u hj => by simp at hj)⟩
  | n + 1, hn, h => by
    obtain ⟨xs, inner, h1, h2, h3, h4, h5⟩ := row_of n (by omega) h
    obtain ⟨cs', ⟨y, hy, hw⟩, hc⟩ := h n (by omega)
    refine ⟨xs ++ [y], inner ++ cs', by simp [h1], repsOf_append h2 ⟨cs', [], by simp, hy, rfl⟩, fun x hx => ?_, ?_, fun j u hj => ?_⟩
    · rcases List.mem_append.1 hx with hx | hx
      · exact h3 x hx
      · rw [List.mem_singleton.1 hx]; exact hw
    · rw [List.length_append, h4, rep_len e y cs' hy, Nat.succ_mul]
    · by_cases hlt : j < inner.length
      · rw [List.getElem?_append_left hlt] at hj; exact h5 j u hj
      · rw [List.getElem?_append_right (by omega), h4] at hj
        have := hc (j - n * e.sz) u hj
        rwa [show n * e.sz + (j - n * e.sz) = j by omega] at this
theorem opens_ty : ∀ (n : Nat) (t : TypeId) (ty : Ty), tyOf P n t = some ty → ∀ {fuel : Nat} {cs : List Value} {x : DataW H × List MemPlace}, DataW.trod enc P w base (fun _ => true) held fuel t cs = some x →
    ∃ y : ty.den, rep w (InN w) ty y cs ∧ wf ty y
  | 0, _, _, h => by cases h
  | n + 1, t, ty, ht => by
    rename_i fuel cs x
    intro h
    simp only [tyOf] at ht
    cases fuel with
    | zero => simp [DataW.trod] at h
    | succ fuel =>
    split at ht
    · rename_i k hu
      simp only [Option.some.injEq] at ht
      subst ht
      unfold DataW.trod at h
      rw [hu] at h
      split at h <;> simp_all [rep, wf]
    · rename_i hu
      simp only [Option.some.injEq] at ht
      subst ht
      unfold DataW.trod at h
      rw [hu] at h
      split at h <;> simp_all [rep, wf]
    · rename_i hu
      simp only [Option.some.injEq] at ht
      subst ht
      unfold DataW.trod at h
      rw [hu] at h
      split at h <;> simp_all [rep, wf]
    · rename_i k hu
      simp only [Option.some.injEq] at ht
      subst ht
      unfold DataW.trod at h
      rw [hu] at h
      split at h <;> simp_all [rep, wf]
    · rename_i e hu
      split at ht
      · rename_i a hta
        split at ht
        · rename_i hsz
          have hsz := Nat.eq_of_beq_eq_true hsz
          simp only [Option.some.injEq] at ht
          subst ht
          rcases open_slice hu h with ⟨rfl, _⟩ | ⟨ad, len, cap, m, n', D, Pl, rfl, hb, hl, hm, hmm, hx, hi⟩
          · exact ⟨[], ⟨none, 0, [], rfl, Nat.le_refl _, rfl, .inl rfl⟩, by simp [maxLen], fun x hx => by cases hx⟩
          · have hmc : m = cap := by simpa using hmm
            obtain ⟨xs, inner, h1, h2, h3, h4, h5⟩ := row_of (w := w) (e := a) (a := ad) (m := m) len (by omega) (fun i him => by
              obtain ⟨cs', hcc, htr⟩ := hi i him
              refine ⟨cs', opens_ty n e a hta htr, fun j u hu' => ?_⟩
              obtain ⟨_, hcl, hat⟩ := World.cells?_some hcc
              have hj : j < cs'.length := (List.getElem?_eq_some_iff.1 hu').1
              have := hat j (by omega)
              rw [Go.Deep.add_add, ← hsz] at this
              rw [this]
              exact hu')
            refine ⟨xs, ⟨some ad, cap, inner, by rw [h1], by rw [h1]; exact hl, h2, ?_⟩, by rw [h1]; omega, h3⟩
            cases inner with
            | nil => exact .inl rfl
            | cons u inner =>
              refine .inr ⟨ad, rfl, ⟨?_, trivial⟩, h5⟩
              have h0 := h5 0 u rfl
              have hk : ad.add 0 = ad := by simp [Addr.add]
              rw [hk] at h0
              cases ad with
              | mk b o sp =>
                unfold World.cell? at h0
                simp only at h0
                cases hh : w.heap[b]? with
                | none => rw [hh] at h0; simp at h0
                | some _ => exact (Array.getElem?_eq_some_iff.1 hh).1
        · cases ht
      · cases ht
    · rename_i fs hu
      split at ht
      · rename_i a hta
        split at ht
        · rename_i hsz
          have hsz := Nat.eq_of_beq_eq_true hsz
          simp only [Option.some.injEq] at ht
          subst ht
          obtain ⟨xs, n', _, _, hcl, hlen, hf⟩ := DataW.trod_struct hu h
          have key : ∀ (l : List Field) (off : Nat) (b : Ty), tyFs P (tyOf P n) l off = some b → off + b.sz = cs.length → (∀ f ∈ l, ∃ x : DataW H × List MemPlace, DataW.trod enc P w base (fun _ => true) held n' f.type ((cs.drop f.offset).take (P.cellsOf f.type)) = some x) →
              ∃ y : b.den, rep w (InN w) b y (cs.drop off) ∧ wf b y := by
            intro l
            induction l with
            | nil =>
              intro off b hb ho _
              simp only [tyFs, Option.some.injEq] at hb
              subst hb
              refine ⟨(), ?_, trivial⟩
              show cs.drop off = []
              rw [List.drop_of_length_le]
              have : off + 0 = cs.length := ho
              omega
            | cons f l ih =>
              intro off b hb ho hfs
              simp only [tyFs] at hb
              split at hb
              · rename_i hoff
                have hoff := Nat.eq_of_beq_eq_true hoff
                split at hb
                · rename_i a1 b1 ha1 hb1
                  split at hb
                  · rename_i hs1
                    have hs1 := Nat.eq_of_beq_eq_true hs1
                    simp only [Option.some.injEq] at hb
                    subst hb
                    have ho' : off + (a1.sz + b1.sz) = cs.length := ho
                    obtain ⟨x1, hx1⟩ := hfs f List.mem_cons_self
                    obtain ⟨y1, r1, w1⟩ := opens_ty n f.type a1 ha1 hx1
                    obtain ⟨y2, r2, w2⟩ := ih (off + P.cellsOf f.type) b1 hb1 (by omega) (fun g hg => hfs g (List.mem_cons_of_mem _ hg))
                    refine ⟨(y1, y2), ⟨_, _, ?_, r1, r2⟩, w1, w2⟩
                    rw [hoff, ← List.drop_drop, List.take_append_drop]
                  · cases hb
                · cases hb
              · cases hb
          have := key fs.toList 0 a hta (by rw [hcl]; omega) (fun f hfm => by
            obtain ⟨j, hj⟩ := List.mem_iff_getElem?.1 hfm
            have hj' : fs[j]? = some f := by simpa using hj
            have hlt : j < fs.size := (Array.getElem?_eq_some_iff.1 hj').1
            have := hf j f hj'
            rw [List.getElem?_eq_getElem (by omega)] at this
            exact ⟨_, this⟩)
          simpa using this
        · cases ht
      · cases ht
    · cases ht
/-- What is handed to a law's function, as the machine takes it. -/
def argAV (t : Ty) (x : t.den) : AV := mk1 0 none t x
theorem open_arg {n : Nat} {t : TypeId} {ty : Ty} (ht : tyOf P n t = some ty) {r : Reach} {b0 : Nat} {v : Value} {x : DataW H} {p : List MemPlace}
    (hv : Value.okWide P w r b0 t v) (h : DataW.Trod enc P w base (fun _ => true) held t v x p) : ∃ y : ty.den, V (argVw w (fun _ => True)) (argAV ty y) v ∧ wf ty y := by
  obtain ⟨fuel, hf⟩ := h
  obtain ⟨y, hr, hw⟩ := opens_ty n t ty ht hf
  refine ⟨y, ?_, hw⟩
  have hr' : rep w (argVw w (fun _ => True)).N ty y v.cells.toList := hr
  have hlen := rep_len ty y _ hr
  cases n with
  | zero => cases ht
  | succ n =>
    simp only [tyOf] at ht
    have one : (∃ u, v = u ∧ u.cells = #[u]) → (∀ a b, ty ≠ .pair a b) → ty ≠ .unit → V (argVw w (fun _ => True)) (argAV ty y) v := by
      rintro ⟨u, rfl, hu⟩ h1 h2
      rw [hu] at hr'
      cases ty <;> first | exact hr' | (exact absurd rfl (h1 _ _)) | (exact absurd rfl h2)
    split at ht
    · rename_i k hu
      simp only [Option.some.injEq] at ht
      subst ht
      obtain ⟨m, rfl⟩ := okWide_int hu hv
      exact one ⟨_, rfl, rfl⟩ (fun _ _ h => by cases h) (fun h => by cases h)
    · rename_i hu
      simp only [Option.some.injEq] at ht
      subst ht
      obtain ⟨m, rfl⟩ := okWide_bool hu hv
      exact one ⟨_, rfl, rfl⟩ (fun _ _ h => by cases h) (fun h => by cases h)
    · rename_i hu
      simp only [Option.some.injEq] at ht
      subst ht
      obtain ⟨m, rfl⟩ := okWide_string hu hv
      exact one ⟨_, rfl, rfl⟩ (fun _ _ h => by cases h) (fun h => by cases h)
    · rename_i k hu
      simp only [Option.some.injEq] at ht
      subst ht
      obtain ⟨m, rfl⟩ : ∃ m, v = .float k m := by
        simp only [Value.okWide, hu, Cell.okWide] at hv
        cases v <;> simp_all [Cell.ok]
      exact one ⟨_, rfl, rfl⟩ (fun _ _ h => by cases h) (fun h => by cases h)
    · rename_i e hu
      split at ht
      · split at ht
        · simp only [Option.some.injEq] at ht
          subst ht
          obtain ⟨a, l, c, rfl⟩ := okWide_slice hu hv
          exact one ⟨_, rfl, rfl⟩ (fun _ _ h => by cases h) (fun h => by cases h)
        · cases ht
      · cases ht
    · rename_i fs hu
      obtain ⟨cs, rfl, _⟩ := okWide_struct hu hv
      split at ht
      · rename_i a hta
        split at ht
        · simp only [Option.some.injEq] at ht
          subst ht
          have hshape : (∃ p q, a = .pair p q) ∨ a = .unit := by
            cases hl : fs.toList with
            | nil => rw [hl] at hta; simp only [tyFs, Option.some.injEq] at hta; exact .inr hta.symm
            | cons f l =>
              rw [hl] at hta
              simp only [tyFs] at hta
              split at hta
              · split at hta
                · split at hta
                  · simp only [Option.some.injEq] at hta; exact .inl ⟨_, _, hta.symm⟩
                  · cases hta
                · cases hta
              · cases hta
          rcases hshape with ⟨p, q, rfl⟩ | rfl
          · exact ⟨cs.toList, by simp, cellsT_V1 hr', rep_one _ _ _ hr'⟩
          · exact ⟨cs.toList, by simp, by rw [show cs.toList = [] from hr']; trivial, by rw [show cs.toList = [] from hr']; exact fun u hu => by cases hu⟩
        · cases ht
      · cases ht
    · cases ht
end
/-! ### the tables, checked -/
def namesB (P : Program) : Bool := P.funcs.toList.all fun fn => !(fn.name == "runtime.NumGoroutine")
theorem names_of {P : Program} (h : namesB P = true) : ∀ (f : FuncId) (fn : Func), P.funcs[f]? = some fn → (fn.name == "runtime.NumGoroutine") = false := by
  intro f fn hf
  have := List.all_eq_true.1 h fn (Array.mem_toList_iff.2 (Array.mem_of_getElem? hf))
  simpa using this
/-- A contract that answers a truth, as a law asks for it. -/
theorem Contract.truth {P : Program} {f : FuncId} {args : List AV} {b : Bool} (h : Contract P (.one none .bool) f args b) {w : World} (hok : okW w) {vargs : List Value} (hv : all2 (V (argVw w (fun _ => True))) args vargs) :
    Calls P f vargs.toArray w fun e w' => e = .returned (.bool b) ∧ Below w.heap.size w w' := by
  refine (h w (fun _ => True) vargs hok hv).mono ?_
  rintro e w' ⟨v, rfl, hb, ⟨⟨vs, hs, hr⟩, _⟩, _⟩
  have h1 : vs = [v] := hs
  have h2 : vs = [.bool b] := hr
  rw [h1] at h2
  simp only [List.cons.injEq, and_true] at h2
  exact ⟨by rw [h2], hb⟩
end Go.Eng
/- ENGINE, part X: a loop's body, and what comes behind it, by their place in the text. -/
namespace Go.Eng
open Go
noncomputable section
/-- The body of the loop at a place: 0 the first part, 1 the second; blocks and scopes are passed. -/
def lpAt : Code → List Nat → Code
  | .seq a b, p => match p with
    | 0 :: p => lpAt a p
    | _ :: p => lpAt b p
    | [] => .skip
  | .cond _ x y, p => match p with
    | 0 :: p => lpAt x p
    | _ :: p => lpAt y p
    | [] => .skip
  | .block _ c, p => lpAt c p
  | .scope c, p => lpAt c p
  | .loop c, p => match p with
    | [] => c
    | _ :: p => lpAt c p
  | c, _ => c
/-- A call that is reckoned inside by hand. -/
def spiRun {R : Type} (B : Base) (g : FuncId) (args : List AV) (s : St) (K : AV → St → Option R) : Option R := match B.spi g with
  | some h => bif h.1 args s then (h.2 args s).bind fun p => K p.1 p.2 else none
  | none => none
/-- What comes behind it. -/
def kontAt {R : Type} (Γ : Ctx) (keep : Hints) (L : LoopK R) : Code → List Nat → (AEx → St → Option R) → AEx → St → Option R
  | .seq a b, p, K => match p with
    | 0 :: p => kontAt Γ keep L a p (fun e s' => match e with
      | .normal => aCode Γ keep L b s' K
      | e => K e s')
    | _ :: p => kontAt Γ keep L b p K
    | [] => K
  | .cond _ x y, p, K => match p with
    | 0 :: p => kontAt Γ keep L x p K
    | _ :: p => kontAt Γ keep L y p K
    | [] => K
  | .block id c, p, K => kontAt Γ keep L c p (fun e s' => match e with
    | .exit j => if Nat.beq j id then K .normal s' else K (.exit j) s'
    | e => K e s')
  | .scope c, p, K => kontAt Γ keep L c p K
  | _, _, K => K
/-- What comes behind an operation of a region that is reckoned inside. -/
def inlAt {R : Type} (Γ : Ctx) (keep : Hints) (L : LoopK R) : Code → List Nat → (AEx → St → Option R) → AV → St → Option R
  | .seq a b, p, K => match p with
    | 0 :: p => inlAt Γ keep L a p (fun e s' => match e with
      | .normal => aCode Γ keep L b s' K
      | e => K e s')
    | _ :: p => inlAt Γ keep L b p K
    | [] => fun _ _ => none
  | .cond _ x y, p, K => match p with
    | 0 :: p => inlAt Γ keep L x p K
    | _ :: p => inlAt Γ keep L y p K
    | [] => fun _ _ => none
  | .block id c, p, K => inlAt Γ keep L c p (fun e s' => match e with
    | .exit j => if Nat.beq j id then K .normal s' else K (.exit j) s'
    | e => K e s')
  | .scope c, p, K => inlAt Γ keep L c p K
  | .region _ ops _, p, K => match p with
    | i :: _ => fun v s' => (fun s' => fNat s'.bx.length fun base' => aOps Γ ops base' ((List.range ops.size).drop (i + 1)) { s' with bx := s'.bx ++ List.replicate ops.size none } (K .normal)) (s'.put ((ops[i]?).bind (·.dst)) v)
    | [] => fun _ _ => none
  | _, _, _ => fun _ _ => none
def iterK {R : Type} (Γ : Ctx) (keep : Hints) (m : Nat) (c : Code) (K : AEx → St → Option R) : AEx → St → Option R := fun e s' => match e with
  | .normal => iter Γ keep m c (canon keep c s') K
  | e => K e (strike keep c s')
def bdy (B : Base) (F : FuncId) : Code := ((B.P.funcs[F]?).bind (·.body)).getD .skip
def fnc (B : Base) (F : FuncId) : Func := (B.P.funcs[F]?).getD default
section
variable {R : Type} (B : Base) (call : CallT B) (inl : InlT) (F : FuncId) (m : Nat)
/-- The loop at a place of a function; what comes behind it; behind one within one; behind a call. -/
abbrev LP (p : List Nat) (s : St) (K : AEx → St → Option R) : Option R := iter (mkC B call inl) (B.keep F) m (lpAt (bdy B F) p) s K
abbrev KA (p : List Nat) (K : AEx → St → Option R) : AEx → St → Option R := kontAt (mkC B call inl) (B.keep F) (iter (mkC B call inl) (B.keep F) m) (bdy B F) p K
abbrev KN (p q : List Nat) (K : AEx → St → Option R) : AEx → St → Option R := kontAt (mkC B call inl) (B.keep F) (iter (mkC B call inl) (B.keep F) m) (lpAt (bdy B F) p) q (iterK (mkC B call inl) (B.keep F) m (lpAt (bdy B F) p) K)
abbrev IA (p : List Nat) (K : AEx → St → Option R) : AV → St → Option R := inlAt (mkC B call inl) (B.keep F) (iter (mkC B call inl) (B.keep F) m) (bdy B F) p K
abbrev IN (p q : List Nat) (K : AEx → St → Option R) : AV → St → Option R := inlAt (mkC B call inl) (B.keep F) (iter (mkC B call inl) (B.keep F) m) (lpAt (bdy B F) p) q (iterK (mkC B call inl) (B.keep F) m (lpAt (bdy B F) p) K)
abbrev FI : AEx → St → Option (B.sh F).den := finA (mkC B call inl) (fnc B F) (B.sh F)
abbrev FN (k : Nat) (K : AV → St → Option R) : AEx → St → Option R := inFin (mkC B call inl) (fnc B F) k K
end
/-! Which temporaries are read, in some code, behind a loop: for hints. -/
def maskL (l : List Nat) : Nat := l.foldl addBit 0
def rdAll (c : Code) : Nat := maskL ((evCode c).filterMap fun p => if p.1 then some p.2 else none)
def rdAfter : Code → List Nat → Nat
  | .seq a b, p => match p with
    | 0 :: p => rdAfter a p ||| rdAll b
    | _ :: p => rdAfter b p
    | [] => 0
  | .cond _ x y, p => match p with
    | 0 :: p => rdAfter x p
    | _ :: p => rdAfter y p
    | [] => 0
  | .block _ c, p => rdAfter c p
  | .scope c, p => rdAfter c p
  | .loop c, p => match p with
    | [] => 0
    | _ :: p => rdAfter c p ||| rdAll c
  | _, _ => 0
def deadAt (B : Base) (F : FuncId) (p : List Nat) : Nat × Nat × Nat :=
  let out := rdAfter (bdy B F) p ||| maskL ((fnc B F).results.toList.map fun | .tmp t => t | .cell a _ => a)
  let live := rdAll (lpAt (bdy B F) p) ||| rdAfter (bdy B F) p ||| maskL ((fnc B F).results.toList.map fun | .tmp t => t | .cell a _ => a)
  ((firstReg (lpAt (bdy B F) p)).getD 0, (2 ^ (fnc B F).ntmps - 1) ^^^ (live &&& (2 ^ (fnc B F).ntmps - 1)), (2 ^ (fnc B F).ntmps - 1) ^^^ (out &&& (2 ^ (fnc B F).ntmps - 1)))
end
end Go.Eng
/- What the rows' listed variables give; a world that fits. -/
namespace Go.Eng.Bk
open Go Go.Proofs Go.Eng Go.RowKit
set_option maxRecDepth 100000
abbrev laidL : List (String × DataW Unit) := [("math/bits.deBruijn32tab", Go.Proofs.YtbnkagiikibjpaaDoor.Rows.laid_math_bits_deBruijn32tab), ("math/bits.deBruijn64tab", Go.Proofs.YtbnkagiikibjpaaDoor.Rows.laid_math_bits_deBruijn64tab), ("internal/strconv.uint64pow10", Go.Proofs.YtbnkagiikibjpaaDoor.Rows.laid_internal_strconv_uint64pow10), ("strconv.ErrRange", Go.Proofs.YtbnkagiikibjpaaDoor.Rows.laid_strconv_ErrRange), ("strconv.ErrSyntax", Go.Proofs.YtbnkagiikibjpaaDoor.Rows.laid_strconv_ErrSyntax)]
theorem star : "*" ++ "errors.errorString" = "*errors.errorString" := by decide
theorem row123 (u : TypeId) (h : Tryd.prog.typeName? 3 u = some "*errors.errorString") : u = 123 :=
  typeName_ptr_named (nm := "errors.errorString") (by rw [star]; kernel_rfl) (by kernel_rfl) (by decide) u (by rw [star]; exact h)
theorem ok_laid {w : World} (hL : laidMet Tryd.prog laidL w) (hsh : w.ShapedOpen Tryd.prog) : okW w := by
  have gS : Tryd.prog.globalNamed "strconv.ErrSyntax" = some 1 := by kernel_rfl
  have gR : Tryd.prog.globalNamed "strconv.ErrRange" = some 2 := by kernel_rfl
  have gP : Tryd.prog.globalNamed "internal/strconv.uint64pow10" = some 3 := by kernel_rfl
  have gM : Tryd.prog.globalNamed "internal/bytealg.MaxLen" = some 0 := by kernel_rfl
  refine ⟨fun g hg => ?_, fun g hg => ?_, fun g hg => ?_, fun g hg => ?_⟩
  · cases Option.some.inj (gS.symm.trans hg)
    obtain ⟨a0, s0, hv0, -, -, -⟩ := laid_sentinel hL.tail.tail.tail.tail gS (by kernel_rfl) Tryd.underlying66 row123 Tryd.underlying123 Tryd.underlying125 rfl rfl Tryd.underlying9 (by kernel_rfl) (by kernel_rfl)
    exact ⟨_, by have h0 := World.var?_cell gS hv0 0; simpa using h0, .inr ⟨_, _, rfl⟩⟩
  · cases Option.some.inj (gR.symm.trans hg)
    obtain ⟨a0, s0, hv0, -, -, -⟩ := laid_sentinel hL.tail.tail.tail gR (by kernel_rfl) Tryd.underlying66 row123 Tryd.underlying123 Tryd.underlying125 rfl rfl Tryd.underlying9 (by kernel_rfl) (by kernel_rfl)
    exact ⟨_, by have h0 := World.var?_cell gR hv0 0; simpa using h0, .inr ⟨_, _, rfl⟩⟩
  · cases Option.some.inj (gM.symm.trans hg)
    exact Go.Proofs.cell_of_shapedOpen_int (zero := #[.int .i64 0]) (t := 3) hsh (of_decide_eq_true (by kernel_rfl)) (by kernel_rfl) rfl (by kernel_rfl) (by kernel_rfl) Tryd.underlying3
  · cases Option.some.inj (gP.symm.trans hg)
    exact Lib.tabIs_of_head (zs := Lib.pow10Tab) (rest := _) gP (by kernel_rfl) Tryd.underlying112 Tryd.underlying27 (by kernel_rfl) (by kernel_rfl) hL.tail.tail
noncomputable def low : Nat := (World.holding Tryd.prog default ⟨#[], #[], []⟩).heap.size
def u8s (l : List Int) : Array Value := (l.map fun n => Value.int .u8 n).toArray
def u64s (l : List Int) : Array Value := (l.map fun n => Value.int .u64 n).toArray
/-- A world that fits: the settled one, with two blocks more. -/
noncomputable def laidWorld (os : Os) : World :=
  let w0 := World.holding Tryd.prog os ⟨#[.cells #[.string ⟨#[105, 110, 118, 97, 108, 105, 100, 32, 115, 121, 110, 116, 97, 120]⟩] 125, .cells #[.string ⟨#[118, 97, 108, 117, 101, 32, 111, 117, 116, 32, 111, 102, 32, 114, 97, 110, 103, 101]⟩] 125], #[], []⟩
  { w0 with heap := ((((w0.heap.modify 1 fun
      | .cells _ t frozen => .cells #[.iface 123 (.pointer (some ⟨low, 0, none⟩))] t frozen
      | o => o).modify 2 fun
      | .cells _ t frozen => .cells #[.iface 123 (.pointer (some ⟨low + 1, 0, none⟩))] t frozen
      | o => o).modify 3 fun
      | .cells _ t frozen => .cells (u64s [1, 10, 100, 1000, 10000, 100000, 1000000, 10000000, 100000000, 1000000000, 10000000000, 100000000000, 1000000000000, 10000000000000, 100000000000000, 1000000000000000, 10000000000000000, 100000000000000000, 1000000000000000000, 10000000000000000000]) t frozen
      | o => o).modify 4 fun
      | .cells _ t frozen => .cells (u8s [0, 1, 28, 2, 29, 14, 24, 3, 30, 22, 20, 15, 25, 17, 4, 8, 31, 27, 13, 23, 21, 19, 16, 7, 26, 12, 18, 6, 11, 5, 10, 9]) t frozen
      | o => o).modify 5 fun
      | .cells _ t frozen => .cells (u8s [0, 1, 56, 2, 57, 49, 28, 3, 61, 58, 42, 50, 38, 29, 17, 4, 62, 47, 59, 36, 45, 43, 51, 22, 53, 39, 33, 30, 24, 18, 12, 5, 63, 55, 48, 27, 60, 41, 37, 16, 46, 35, 44, 21, 52, 32, 23, 11, 54, 26, 40, 15, 34, 20, 31, 10, 25, 14, 19, 9, 13, 8, 7, 6]) t frozen
      | o => o }
theorem laid_met (os : Os) (args : Array Value) : laidMet Tryd.prog laidL ((laidWorld os).forCall (fun _ _ => 0) ⟨#[], args, []⟩).memory :=
  laidMet_of_run3 8 (by kernel_rfl) (by kernel_rfl) (by kernel_rfl)
end Go.Eng.Bk
/- Names, refs by the machine: the shapes of answers. -/
namespace Go.Eng.Bk
open Go Go.Proofs Go.Eng
abbrev u8 : Ty := .int .u8
abbrev i64 : Ty := .int .i64
abbrev TabT : Ty := .pair i64 (.pair i64 (.pair i64 (.pair .str (.pair .str (.pair i64 (.pair i64 (.pair .bool (.pair .bool .unit))))))))
abbrev VerT : Ty := .pair i64 (.pair i64 (.pair i64 (.pair i64 (.pair (.sl TabT) .unit))))
abbrev EdT : Ty := .pair i64 (.pair i64 (.pair i64 (.pair i64 (.pair (.sl TabT) (.pair (.sl i64) .unit)))))
abbrev Tab : Type := Int × (Int × (Int × (ByteArray × (ByteArray × (Int × (Int × (Bool × (Bool × Unit))))))))
abbrev Ver : Type := Int × (Int × (Int × (Int × (List Tab × Unit))))
abbrev Ed : Type := Int × (Int × (Int × (Int × (List Tab × (List Int × Unit)))))
abbrev oStr : Option TypeId × Ty := (some 9, .sl .str)
abbrev oTab : Option TypeId × Ty := (some 45, .sl TabT)
def shOf : FuncId → Sh
  | 9 | 10 => .tup [(none, i64), (none, i64), (none, i64)]
  | 11 | 12 | 22 | 24 | 27 | 30 | 32 | 42 => .one none .str
  | 14 => .one none VerT
  | 15 => .tup [oStr, (none, i64)]
  | 16 => .tup [(none, .sl .str), (none, i64)]
  | 18 | 35 => .one (some 9) (.sl .str)
  | 19 | 36 => .one none (.sl .str)
  | 23 | 38 => .tup [(none, .str), (none, .bool)]
  | 25 => .tup [(none, .str), (none, .str), (none, .bool)]
  | 26 => .tup [(none, i64), (none, .bool)]
  | 28 | 45 | 50 => .one none i64
  | 33 | 46 => .one (some 45) (.sl TabT)
  | 34 => .tup [(some 36, VerT), (none, i64)]
  | _ => .one none .bool
def cutB (s p : ByteArray) : ByteArray × (ByteArray × (Bool × Unit)) := (⟨(Lib.cut s.data.toList p.data.toList).1.toArray⟩, ⟨(Lib.cut s.data.toList p.data.toList).2.1.toArray⟩, (Lib.cut s.data.toList p.data.toList).2.2, ())
def itoaB (n : Int) : ByteArray := ⟨(Lib.itoa n).toArray⟩
/-- What digits say. -/
def numB (s : ByteArray) : Int × (Bool × Unit) := match Lib.atoiAll s.data.toList with
  | .ok n => (n, (decide (0 ≤ n ∧ n ≤ 9007199254740992) && decide (itoaB n = s)), ())
  | .range => (Lib.atoiSat s.data.toList, false, ())
  | _ => (0, false, ())
def spOf : (f : FuncId) → Option (List AV → Option (shOf f).den)
  | 25 => some fun args => match args with
    | [.v .str s, .v .str p] => if ByteArray.size s < 4294967281 then some (cutB s p) else none
    | _ => none
  | 26 => some fun args => match args with
    | [.v .str s] => if ByteArray.size s ≤ 281474976710656 then some (numB s) else none
    | _ => none
  | 30 => some fun args => match args with
    | [.v (.int .i64) n] => if (-9223372036854775808 : Int) ≤ n ∧ (n : Int) ≤ 9223372036854775807 then some (itoaB n) else none
    | _ => none
  | _ => none
/-- Rows of equals are one. -/
def cmpct (l : List ByteArray) : List ByteArray := (Lib.compact (l.map fun s => s.data.toList)).map fun u => ByteArray.mk u.toArray
def sortB (l : List ByteArray) : List ByteArray := ((l.map fun s => s.data.toList).mergeSort fun x y => decide (x ≤ y)).map fun u => ByteArray.mk u.toArray
def rising (l : List ByteArray) : List ByteArray := cmpct (sortB l)
abbrev CallS : Type := (f : FuncId) → List AV → Option (shOf f).den
/-- The names of tables that are near; of those that are far (of all of them). -/
def nearTabs (call : CallS) : List Tab → Option (List ByteArray)
  | [] => some []
  | t :: r => if t.2.2.2.2.2.2.2.1 = true then (call 11 [.v i64 (2 : Int), .v i64 (0 : Int), .v i64 t.1]).bind fun (s : ByteArray) => (nearTabs call r).map fun l => s :: l else nearTabs call r
def farTabs (call : CallS) (all : Bool) : List Tab → Option (List ByteArray)
  | [] => some []
  | t :: r => if all = true ∨ t.2.2.2.2.2.2.2.2.1 = true then (call 11 [.v i64 (7 : Int), .v i64 t.2.1, .v i64 t.1]).bind fun (s : ByteArray) => (farTabs call all r).map fun l => s :: l else farTabs call all r
def nearN (call : CallS) (v : Ver) (list : ByteArray) : Option (List ByteArray × (Int × Unit)) :=
  (call 11 [.v i64 (6 : Int), .v i64 (0 : Int), .v i64 (0 : Int)]).bind fun (c : ByteArray) => (call 11 [.v i64 (4 : Int), .v i64 (0 : Int), .v i64 (0 : Int)]).bind fun (d : ByteArray) =>
    (nearTabs call v.2.2.2.2.1).map fun l => (rising (c :: d :: list :: l), (v.2.2.2.1, ()))
def farN (call : CallS) (v m : Ver) (num : Int) : Option (List ByteArray) :=
  (farTabs call false v.2.2.2.2.1).bind fun l => (farTabs call true m.2.2.2.2.1).bind fun k =>
    if (0 : Int) < num then (call 11 [.v i64 (8 : Int), .v i64 (0 : Int), .v i64 num]).map fun (s : ByteArray) => rising (l ++ k ++ [s]) else some (rising (l ++ k))
def spcOf : (f : FuncId) → Option (CallS → List AV → Option (shOf f).den)
  | 15 => some fun call args => match args with
    | [.agg [.v (.int .i64) v1, .v (.int .i64) v2, .v (.int .i64) v3, .v (.int .i64) v4, .v (.sl (.pair (.int .i64) (.pair (.int .i64) (.pair (.int .i64) (.pair .str (.pair .str (.pair (.int .i64) (.pair (.int .i64) (.pair .bool (.pair .bool .unit)))))))))) v5], .v .str list] => if List.length (v5 : List Tab) ≤ 1000000 then nearN call ((v1 : Int), (v2 : Int), (v3 : Int), (v4 : Int), (v5 : List Tab), ()) list else none
    | _ => none
  | 18 => some fun call args => match args with
    | [.agg [.v (.int .i64) v1, .v (.int .i64) v2, .v (.int .i64) v3, .v (.int .i64) v4, .v (.sl (.pair (.int .i64) (.pair (.int .i64) (.pair (.int .i64) (.pair .str (.pair .str (.pair (.int .i64) (.pair (.int .i64) (.pair .bool (.pair .bool .unit)))))))))) v5], .agg [.v (.int .i64) m1, .v (.int .i64) m2, .v (.int .i64) m3, .v (.int .i64) m4, .v (.sl (.pair (.int .i64) (.pair (.int .i64) (.pair (.int .i64) (.pair .str (.pair .str (.pair (.int .i64) (.pair (.int .i64) (.pair .bool (.pair .bool .unit)))))))))) m5], .v (.int .i64) num] => if List.length (v5 : List Tab) ≤ 1000000 ∧ List.length (m5 : List Tab) ≤ 1000000 then farN call ((v1 : Int), (v2 : Int), (v3 : Int), (v4 : Int), (v5 : List Tab), ()) ((m1 : Int), (m2 : Int), (m3 : Int), (m4 : Int), (m5 : List Tab), ()) num else none
    | _ => none
  | _ => none
def hintOf : FuncId → Hints
  | 4 => fun r => match r with | 9 => (1237940039285380274891654143, 42535295865117307932921825928965653503, [], []) | _ => (0, 0, [], [])
  | 7 => fun r => match r with | 10 => (4503599626321981, 73786976294837174333, [], []) | 16 => (4722366482869644182205, 38685626227668133589729981, [], []) | _ => (0, 0, [], [])
  | 14 => fun r => match r with | 4 => (1795, 137438953459, [], [(1001, 4, 45, TabT)]) | _ => (0, 0, [], [])
  | 15 => fun r => match r with | 3 => (16011, 536870795, [], []) | _ => (0, 0, [], [])
  | 16 => fun r => match r with | 6 => (32523, 137438953355, [], []) | _ => (0, 0, [], [])
  | 17 => fun r => match r with | 4 => (1996, 67108847, [], []) | _ => (0, 0, [], [])
  | 18 => fun r => match r with | 3 => (5419, 1073739563, [(7, 9, .str)], []) | 9 => (2147481403, 70368744177467, [(7, 9, .str)], []) | _ => (0, 0, [], [])
  | 19 => fun r => match r with | 3 => (35, 274877906219, [(8999, 9, .str)], []) | 8 => (274877906219, 1152921504606846779, [(8999, 9, .str)], []) | _ => (0, 0, [], [])
  | 21 => fun r => match r with | 4 => (33551292, 1099511626687, [], []) | _ => (0, 0, [], [])
  | 33 => fun r => match r with | 3 => (2, 79228162514264337593543950323, [(3, 45, TabT)], []) | _ => (0, 0, [], [])
  | 34 => fun r => match r with | 7 => (18014398509477895, 4835703278458516698821511, [], []) | 15 => (4835703278458516698821511, 81129638414606681695789005141895, [], []) | _ => (0, 0, [], [])
  | 36 => fun r => match r with | 2 => (12, 2097036, [], []) | _ => (0, 0, [], [])
  | 43 => fun r => match r with | 4 => (34359738241, 85070591730234615865843651857942052859, [], []) | 10 => (34359738241, 34359738241, [], []) | _ => (0, 0, [], [])
  | 44 => fun r => match r with | 4 => (549755813857, 9007199254740969, [], []) | 9 => (9007199254740969, 37778931862957161709563, [], []) | _ => (0, 0, [], [])
  | 45 => fun r => match r with | 2 => (12, 1048559, [], []) | _ => (0, 0, [], [])
  | 46 => fun r => match r with | 2 => (6, 8796093022086, [], []) | _ => (0, 0, [], [])
  | 50 => fun r => match r with | 2 => (76, 524271, [], []) | _ => (0, 0, [], [])
  | _ => noHints
noncomputable def B : Base := { P := Tryd.prog, typ := tyOf Tryd.prog 8, sh := shOf, keep := hintOf, isIn := fun _ => false, sp := spOf, spc := spcOf }
end Go.Eng.Bk
