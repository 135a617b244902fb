/- ENGINE, part B: what an abstract value says of a value in a world; what stays when the world goes on. -/
import Derived.Test.YtogancdiihbjfaaEngA
import Derived.Below
import Derived.Laws.AppendOwn
import Derived.RowKit3
namespace Go.Eng
open Go Go.RowKit
def repsOf {α : Type} (r : α → List Value → Prop) : List α → List Value → Prop
  | [], cs => cs = []
  | x :: xs, cs => ∃ c0 c1, cs = c0 ++ c1 ∧ r x c0 ∧ repsOf r xs c1
/-- Cells that lie in a row where they may be read. -/
def CellsAt (w : World) (Q : Nat → Nat → Prop) (A : Option Addr) (inner : List Value) : Prop :=
  inner = [] ∨ ∃ ad, A = some ad ∧ Q ad.block (ad.off + inner.length) ∧ ∀ j u, inner[j]? = some u → w.cell? (ad.add j) = some u
def rep (w : World) (N : Nat → Prop) : (t : Ty) → t.den → List Value → Prop
  | .int k, n, cs => cs = [.int k n]
  | .bool, b, cs => cs = [.bool b]
  | .str, s, cs => cs = [.string s]
  | .flt k, b, cs => cs = [.float k b]
  | .unit, _, cs => cs = []
  | .pair a b, x, cs => ∃ c0 c1, cs = c0 ++ c1 ∧ rep w N a x.1 c0 ∧ rep w N b x.2 c1
  | .sl e, xs, cs => ∃ A c inner, cs = [.slice A (List.length xs) c] ∧ List.length xs ≤ c ∧ repsOf (rep w N e) xs inner ∧ CellsAt w (fun b _ => N b) A inner
section
variable {w w' : World} {N N' : Nat → Prop}
theorem repsOf_imp {α : Type} {r r' : α → List Value → Prop} (h : ∀ x cs, r x cs → r' x cs) : ∀ (xs : List α) (cs : List Value), repsOf r xs cs → repsOf r' xs cs
  | [], _, h0 => h0
  | _ :: xs, _, ⟨c0, c1, e, h0, h1⟩ => ⟨c0, c1, e, h _ _ h0, repsOf_imp h xs _ h1⟩
theorem repsOf_append {α : Type} {r : α → List Value → Prop} : ∀ {xs ys : List α} {cs ds : List Value}, repsOf r xs cs → repsOf r ys ds → repsOf r (xs ++ ys) (cs ++ ds)
  | [], _, _, _, rfl, h1 => h1
  | _ :: xs, _, _, _, ⟨c0, c1, e, h0, h⟩, h1 => ⟨c0, c1 ++ _, by rw [e, List.append_assoc], h0, repsOf_append h h1⟩
theorem repsOf_length {α : Type} {r : α → List Value → Prop} {n : Nat} (h : ∀ x cs, r x cs → cs.length = n) : ∀ (xs : List α) (cs : List Value), repsOf r xs cs → cs.length = xs.length * n
  | [], _, rfl => by simp
  | x :: xs, _, ⟨c0, c1, e, h0, h1⟩ => by rw [e, List.length_append, h _ _ h0, repsOf_length h xs _ h1, List.length_cons, Nat.succ_mul, Nat.add_comm]
theorem repsOf_get {α : Type} {r : α → List Value → Prop} {n : Nat} (h : ∀ x cs, r x cs → cs.length = n) : ∀ (xs : List α) (cs : List Value) (i : Nat) (x : α), repsOf r xs cs → xs[i]? = some x → ∃ c, r x c ∧ ∀ j u, c[j]? = some u → cs[i * n + j]? = some u
  | [], _, _, _, _, hx => by simp at hx
  | y :: xs, _, 0, x, ⟨c0, c1, e, h0, h1⟩, hx => by
    simp only [List.getElem?_cons_zero, Option.some.injEq] at hx
    subst hx
    refine ⟨c0, h0, fun j u hj => ?_⟩
    rw [e, Nat.zero_mul, Nat.zero_add, List.getElem?_append_left (List.getElem?_eq_some_iff.1 hj).1]
    exact hj
  | y :: xs, _, i + 1, x, ⟨c0, c1, e, h0, h1⟩, hx => by
    rw [List.getElem?_cons_succ] at hx
    obtain ⟨c, hc, hr⟩ := repsOf_get h xs c1 i x h1 hx
    refine ⟨c, hc, fun j u hj => ?_⟩
    have := hr j u hj
    rw [e, List.getElem?_append_right (by rw [h _ _ h0, Nat.succ_mul]; omega), h _ _ h0, show (i + 1) * n + j - n = i * n + j by rw [Nat.succ_mul]; omega]
    exact this
theorem repsOf_take {α : Type} {r : α → List Value → Prop} {n : Nat} (h : ∀ x cs, r x cs → cs.length = n) : ∀ (xs : List α) (cs : List Value) (k : Nat), repsOf r xs cs → repsOf r (xs.take k) (cs.take (k * n))
  | [], _, k, rfl => by simp [repsOf]
  | x :: xs, _, 0, _ => by simp [repsOf]
  | x :: xs, _, k + 1, ⟨c0, c1, e, h0, h1⟩ => by
    refine ⟨c0, c1.take (k * n), ?_, h0, repsOf_take h xs c1 k h1⟩
    have hl := h _ _ h0
    rw [e, List.take_append, hl, Nat.succ_mul, show k * n + n - n = k * n by omega, List.take_of_length_le (l := c0) (by omega)]
theorem repsOf_drop {α : Type} {r : α → List Value → Prop} {n : Nat} (h : ∀ x cs, r x cs → cs.length = n) : ∀ (xs : List α) (cs : List Value) (k : Nat), repsOf r xs cs → repsOf r (xs.drop k) (cs.drop (k * n))
  | [], _, k, rfl => by simp [repsOf]
  | x :: xs, _, 0, h0 => by simpa using h0
  | x :: xs, _, k + 1, ⟨c0, c1, e, h0, h1⟩ => by
    have hl := h _ _ h0
    rw [List.drop_succ_cons, e, List.drop_append, hl, Nat.succ_mul, show k * n + n - n = k * n by omega, List.drop_of_length_le (l := c0) (by omega), List.nil_append]
    exact repsOf_drop h xs c1 k h1
theorem CellsAt.imp {Q Q' : Nat → Nat → Prop} {A : Option Addr} {inner : List Value} (h : CellsAt w Q A inner)
    (hQ : ∀ b hi, Q b hi → Q' b hi ∧ ∀ o, o < hi → w'.cell? ⟨b, o, none⟩ = w.cell? ⟨b, o, none⟩) : CellsAt w' Q' A inner := by
  rcases h with h | ⟨ad, hA, hq, hc⟩
  · exact .inl h
  · refine .inr ⟨ad, hA, (hQ _ _ hq).1, fun j u hj => ?_⟩
    have h0 := hc j u hj
    have hlt := (List.getElem?_eq_some_iff.1 hj).1
    have key : ad.add j = ⟨ad.block, ad.off + j, none⟩ := by
      unfold Addr.add at h0 ⊢
      split
      · rename_i hz
        rw [if_pos hz] at h0
        cases ad with
        | mk b o sp =>
          cases sp with
          | none => simp [hz]
          | some z => simp [World.cell?] at h0; split at h0 <;> simp at h0
      · rfl
    rw [key] at h0 ⊢
    rw [(hQ _ _ hq).2 _ (by omega)]
    exact h0
theorem cell_of_heap {b o : Nat} (h : w'.heap[b]? = w.heap[b]?) : w'.cell? ⟨b, o, none⟩ = w.cell? ⟨b, o, none⟩ := by simp [World.cell?, h]
theorem rep_step (hN : ∀ b, N b → N' b ∧ w'.heap[b]? = w.heap[b]?) : ∀ (t : Ty) (x : t.den) (cs : List Value), rep w N t x cs → rep w' N' t x cs := by
  intro t
  induction t with
  | int k => exact fun _ _ h => h
  | bool => exact fun _ _ h => h
  | str => exact fun _ _ h => h
  | flt k => exact fun _ _ h => h
  | unit => exact fun _ _ h => h
  | pair a b iha ihb => exact fun x cs ⟨c0, c1, e, h0, h1⟩ => ⟨c0, c1, e, iha _ _ h0, ihb _ _ h1⟩
  | sl e ih =>
    rintro xs cs ⟨A, c, inner, rfl, hl, hr, hc⟩
    exact ⟨A, c, inner, rfl, hl, repsOf_imp ih xs inner hr, hc.imp fun b _ hb => ⟨(hN b hb).1, fun o _ => cell_of_heap (hN b hb).2⟩⟩
theorem rep_len : ∀ (t : Ty) (x : t.den) (cs : List Value), rep w N t x cs → cs.length = t.sz := by
  intro t
  induction t with
  | pair a b iha ihb =>
    rintro x cs ⟨c0, c1, rfl, h0, h1⟩
    rw [List.length_append, iha _ _ h0, ihb _ _ h1]; rfl
  | sl e ih => rintro xs cs ⟨A, c, inner, rfl, _⟩; rfl
  | unit => rintro _ _ rfl; rfl
  | _ => intro x cs h; rw [h]; rfl
theorem rep_one : ∀ (t : Ty) (x : t.den) (cs : List Value), rep w N t x cs → ∀ u ∈ cs, u.oneCell' = true := by
  intro t
  induction t with
  | pair a b iha ihb =>
    rintro x cs ⟨c0, c1, rfl, h0, h1⟩ u hu
    rcases List.mem_append.1 hu with hu | hu
    · exact iha _ _ h0 u hu
    · exact ihb _ _ h1 u hu
  | sl e ih => rintro xs cs ⟨A, c, inner, rfl, _⟩ u hu; rw [List.mem_singleton.1 hu]; rfl
  | unit => rintro _ _ rfl u hu; cases hu
  | int k => intro x cs h u hu; rw [h] at hu; rw [List.mem_singleton.1 hu]; rfl
  | bool => intro x cs h u hu; rw [h] at hu; rw [List.mem_singleton.1 hu]; rfl
  | str => intro x cs h u hu; rw [h] at hu; rw [List.mem_singleton.1 hu]; rfl
  | flt k => intro x cs h u hu; rw [h] at hu; rw [List.mem_singleton.1 hu]; rfl
theorem reps_one {e : Ty} : ∀ (xs : List e.den) (cs : List Value), repsOf (rep w N e) xs cs → ∀ u ∈ cs, u.oneCell' = true
  | [], _, rfl, u, hu => by cases hu
  | x :: xs, _, ⟨c0, c1, e, h0, h1⟩, u, hu => by
    rw [e] at hu
    rcases List.mem_append.1 hu with hu | hu
    · exact rep_one _ _ _ h0 u hu
    · exact reps_one xs _ h1 u hu
theorem reps_len {e : Ty} (xs : List e.den) (cs : List Value) (h : repsOf (rep w N e) xs cs) : cs.length = xs.length * e.sz := repsOf_length (rep_len e) xs cs h
end

/-! ### the view of a frame -/
structure Vw where
  w : World
  base : Nat
  N : Nat → Prop
  live : Nat → Prop
  G : Nat → Option Nat
  E : Nat → Nat
  U : Nat → Prop
  isBox : Nat → Prop
  B : Nat → Nat
def Vw.Rd (q : Vw) (b hi : Nat) : Prop := q.N b ∨ ∃ τ, q.live τ ∧ q.G τ = some b ∧ hi ≤ q.E τ
def all2 {α β : Type} (r : α → β → Prop) : List α → List β → Prop
  | [], [] => True
  | x :: xs, y :: ys => r x y ∧ all2 r xs ys
  | _, _ => False
/-- A slice that may be read. -/
def Vw.Sl (q : Vw) (e : Ty) (xs : List e.den) (val : Value) : Prop :=
  ∃ A c inner, val = .slice A xs.length c ∧ xs.length ≤ c ∧ repsOf (rep q.w q.N e) xs inner ∧ CellsAt q.w q.Rd A inner
/-- .. that is owned. -/
def Vw.Own (q : Vw) (τ : Nat) (T : TypeId) (e : Ty) (xs : List e.den) (val : Value) : Prop :=
  ∃ inner, q.w.ownsRow q.base T e.sz val xs.length inner ∧ val.ownBlock = q.G τ ∧ repsOf (rep q.w q.N e) xs inner ∧ q.E τ = inner.length
def V0 (q : Vw) : AV → Value → Prop
  | .v t x, u => rep q.w q.N t x [u]
  | _, _ => False
/-- Cells that may be read, behind a pointer. -/
def Vw.Ro (q : Vw) (cs : List AV) (val : Value) : Prop := ∃ ad, val = .pointer (some ad) ∧ (cs = [] ∨ q.Rd ad.block (ad.off + cs.length)) ∧ ∀ j x, cs[j]? = some x → ∃ u, q.w.cell? (ad.add j) = some u ∧ V0 q x u
/-- What a closure keeps: places of boxes. -/
def Vp (q : Vw) : AV → Value → Prop
  | .ptr b off, val => val = .pointer (some ⟨q.B b, off, none⟩) ∧ q.isBox b
  | .raw v, val => val = v
  | .bad, _ => True
  | _, _ => False
def V1 (q : Vw) : AV → Value → Prop
  | .v t x, val => rep q.w q.N t x [val]
  | .al e xs, val => q.Sl e xs val
  | .own τ T e xs, val => q.U τ ∧ q.Sl e xs val ∧ (q.live τ → q.Own τ T e xs val)
  | .el τ T e xs i, val => q.U τ ∧ q.Ro (cellsT e (xs.getD i e.dflt)) val ∧ (q.live τ → i < xs.length ∧ ∃ g sl, q.G τ = some g ∧ val = .pointer (some ⟨g, i * e.sz, none⟩) ∧ q.Own τ T e xs sl)
  | .nilS, val => val = .slice none 0 0
  | .ptr b off, val => val = .pointer (some ⟨q.B b, off, none⟩) ∧ q.isBox b
  | .ro cs, val => q.Ro cs val
  | .fn f caps, val => ∃ vs : List Value, val = .func (.func f) #[] vs.toArray ∧ all2 (Vp q) caps vs
  | .raw v, val => val = v
  | .bad, _ => True
  | _, _ => False
def V2 (q : Vw) : AV → Value → Prop
  | .agg cs, val => ∃ vs : List Value, val = .agg vs.toArray ∧ all2 (V1 q) cs vs ∧ ∀ u ∈ vs, u.oneCell' = true
  | x, val => V1 q x val
def V (q : Vw) : AV → Value → Prop
  | .tup xs, val => ∃ vs : List Value, val = .tuple vs.toArray ∧ all2 (V2 q) xs vs
  | x, val => V2 q x val
theorem all2_imp {α β : Type} {r r' : α → β → Prop} (h : ∀ x y, r x y → r' x y) : ∀ (xs : List α) (ys : List β), all2 r xs ys → all2 r' xs ys
  | [], [], _ => trivial
  | _ :: xs, _ :: ys, ⟨h0, h1⟩ => ⟨h _ _ h0, all2_imp h xs ys h1⟩
theorem all2_len {α β : Type} {r : α → β → Prop} : ∀ {xs : List α} {ys : List β}, all2 r xs ys → xs.length = ys.length
  | [], [], _ => rfl
  | _ :: xs, _ :: ys, ⟨_, h1⟩ => by rw [List.length_cons, List.length_cons, all2_len h1]
theorem all2_get {α β : Type} {r : α → β → Prop} : ∀ {xs : List α} {ys : List β} {i : Nat} {x : α}, all2 r xs ys → xs[i]? = some x → ∃ y, ys[i]? = some y ∧ r x y
  | _ :: xs, y :: ys, 0, x, ⟨h0, h1⟩, hx => ⟨y, rfl, by simp at hx; exact hx ▸ h0⟩
  | _ :: xs, _ :: ys, i + 1, x, ⟨h0, h1⟩, hx => by
    rw [List.getElem?_cons_succ] at hx ⊢
    exact all2_get h1 hx
theorem all2_drop {α β : Type} {r : α → β → Prop} : ∀ {xs : List α} {ys : List β} (n : Nat), all2 r xs ys → all2 r (xs.drop n) (ys.drop n)
  | xs, ys, 0, h => by simpa using h
  | [], [], n + 1, _ => by simp [all2]
  | _ :: xs, _ :: ys, n + 1, ⟨_, h1⟩ => by simpa using all2_drop n h1
theorem all2_take {α β : Type} {r : α → β → Prop} : ∀ {xs : List α} {ys : List β} (n : Nat), all2 r xs ys → all2 r (xs.take n) (ys.take n)
  | xs, ys, 0, h => by simp [all2]
  | [], [], n + 1, _ => by simp [all2]
  | _ :: xs, _ :: ys, n + 1, ⟨h0, h1⟩ => by simpa [all2] using ⟨h0, all2_take n h1⟩
theorem all2_append {α β : Type} {r : α → β → Prop} : ∀ {xs : List α} {ys : List β} {xs' : List α} {ys' : List β}, all2 r xs ys → all2 r xs' ys' → all2 r (xs ++ xs') (ys ++ ys')
  | [], [], _, _, _, h => h
  | _ :: xs, _ :: ys, _, _, ⟨h0, h1⟩, h => ⟨h0, all2_append h1 h⟩
/-- What of one view stands in another. -/
structure Vw.To (q q' : Vw) : Prop where
  base : q'.base = q.base
  N : ∀ b, q.N b → q'.N b ∧ q'.w.heap[b]? = q.w.heap[b]?
  R : ∀ b hi, q.Rd b hi → q'.Rd b hi ∧ ∀ o, o < hi → q'.w.cell? ⟨b, o, none⟩ = q.w.cell? ⟨b, o, none⟩
  L : ∀ τ, q.U τ → q'.U τ ∧ (q'.live τ → q.live τ ∧ q'.G τ = q.G τ ∧ q'.E τ = q.E τ ∧ ∀ k, q.G τ = some k → q'.w.heap[k]? = q.w.heap[k]?)
  Bx : ∀ b, q.isBox b → q'.isBox b ∧ q'.B b = q.B b
section
variable {q q' : Vw}
theorem Vw.To.sl (h : q.To q') {e : Ty} {xs : List e.den} {val : Value} : q.Sl e xs val → q'.Sl e xs val := by
  rintro ⟨A, c, inner, rfl, hl, hr, hc⟩
  exact ⟨A, c, inner, rfl, hl, repsOf_imp (rep_step h.N e) xs inner hr, hc.imp h.R⟩
theorem own_at {w w' : World} {base : Nat} {T size n : Nat} {v : Value} {xs : List Value} (h : w.ownsRow base T size v n xs) (hm : ∀ k, v.ownBlock = some k → w'.heap[k]? = w.heap[k]?) : w'.ownsRow base T size v n xs := by
  obtain ⟨h1, h2⟩ := h
  refine ⟨h1, ?_⟩
  rcases h2 with h2 | ⟨g, cap, cur, rfl, hg, hh, r⟩
  · exact .inl h2
  · exact .inr ⟨g, cap, cur, rfl, hg, (hm g (by simp [Value.ownBlock])).trans hh, r⟩
theorem Vw.To.v0 (h : q.To q') {x : AV} {val : Value} (hv : V0 q x val) : V0 q' x val := by
  cases x <;> simp only [V0] at hv ⊢ <;> first | exact hv.elim | exact rep_step h.N _ _ _ hv
theorem addr_key {w : World} {ad : Addr} {j : Nat} {u : Value} (h : w.cell? (ad.add j) = some u) : ad.add j = ⟨ad.block, ad.off + j, none⟩ := by
  unfold Addr.add at h ⊢
  split
  · rename_i hz
    rw [if_pos hz] at h
    cases ad with
    | mk b o sp =>
      cases sp with
      | none => simp [hz]
      | some z => simp [World.cell?] at h; split at h <;> simp at h
  · rfl
theorem Vw.To.ro (h : q.To q') {cs : List AV} {val : Value} (hv : q.Ro cs val) : q'.Ro cs val := by
  obtain ⟨ad, h0, h1, h2⟩ := hv
  have hR := h.R
  refine ⟨ad, h0, h1.imp id fun h => ?_, fun j x hj => ?_⟩
  · exact (hR _ _ h).1
  · obtain ⟨u, hu, hx⟩ := h2 j x hj
    refine ⟨u, ?_, h.v0 hx⟩
    have hk := addr_key hu
    rw [hk] at hu ⊢
    have hne : cs ≠ [] := by rintro rfl; simp at hj
    rw [(h.R _ _ (h1.resolve_left hne)).2 _ (by have := (List.getElem?_eq_some_iff.1 hj).1; omega)]
    exact hu
theorem Vw.To.vp (h : q.To q') {x : AV} {val : Value} (hv : Vp q x val) : Vp q' x val := by
  cases x with
  | ptr b off =>
    obtain ⟨h0, h1⟩ := hv
    obtain ⟨h2, h3⟩ := h.Bx b h1
    exact ⟨by rw [h3]; exact h0, h2⟩
  | raw v => exact hv
  | bad => trivial
  | _ => exact hv.elim
theorem Vw.To.v1 (h : q.To q') {x : AV} {val : Value} (hv : V1 q x val) : V1 q' x val := by
  cases x with
  | v t x => exact rep_step h.N _ _ _ hv
  | al e xs => exact h.sl hv
  | own τ T e xs =>
    obtain ⟨h0, h1, h2⟩ := hv
    obtain ⟨h3, h4⟩ := h.L τ h0
    refine ⟨h3, h.sl h1, fun hl => ?_⟩
    obtain ⟨h5, h6, h7, h8⟩ := h4 hl
    obtain ⟨inner, ho, hb, hr, hE⟩ := h2 h5
    exact ⟨inner, by rw [h.base]; exact own_at ho (fun k hk => h8 k (hb ▸ hk)), by rw [h6]; exact hb, repsOf_imp (rep_step h.N e) xs inner hr, by rw [h7]; exact hE⟩
  | el τ T e xs i =>
    obtain ⟨h0, hro, h1⟩ := hv
    obtain ⟨h3, h4⟩ := h.L τ h0
    refine ⟨h3, h.ro hro, fun hl => ?_⟩
    obtain ⟨h5, h6, h7, h8⟩ := h4 hl
    obtain ⟨hi, g, sl, hg, hval, inner, ho, hb, hr, hE⟩ := h1 h5
    exact ⟨hi, g, sl, by rw [h6]; exact hg, hval, inner, by rw [h.base]; exact own_at ho (fun k hk => h8 k (hb ▸ hk)), by rw [h6]; exact hb, repsOf_imp (rep_step h.N e) xs inner hr, by rw [h7]; exact hE⟩
  | nilS => exact hv
  | ptr b off =>
    obtain ⟨h0, h1⟩ := hv
    obtain ⟨h2, h3⟩ := h.Bx b h1
    exact ⟨by rw [h3]; exact h0, h2⟩
  | ro cs => exact h.ro hv
  | fn f caps =>
    obtain ⟨vs, h0, h1⟩ := hv
    exact ⟨vs, h0, all2_imp (fun _ _ => h.vp) _ _ h1⟩
  | raw v => exact hv
  | bad => trivial
  | agg cs => exact hv.elim
  | tup vs => exact hv.elim
theorem Vw.To.v2 (h : q.To q') {x : AV} {val : Value} (hv : V2 q x val) : V2 q' x val := by
  cases x with
  | agg cs =>
    obtain ⟨vs, h0, h1, h2⟩ := hv
    exact ⟨vs, h0, all2_imp (fun _ _ => h.v1) _ _ h1, h2⟩
  | _ => simp only [V2] at hv ⊢; exact h.v1 hv
theorem Vw.To.v (h : q.To q') {x : AV} {val : Value} (hv : V q x val) : V q' x val := by
  cases x with
  | tup xs =>
    obtain ⟨vs, h0, h1⟩ := hv
    exact ⟨vs, h0, all2_imp (fun _ _ => h.v2) _ _ h1⟩
  | _ => simp only [V] at hv ⊢; exact h.v2 hv
end
end Go.Eng
