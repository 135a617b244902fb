/- ENGINE, part J: make, boxes, stores. -/
import Derived.Test.YtogancdiihbjfaaEngI
namespace Go.Eng
open Go Go.RowKit
theorem made_succ (z : Array Value) (k : Nat) (hk : z.size = k) (n : Nat) : (madeCells z ((n + 1) * k)).toList = z.toList ++ (madeCells z (n * k)).toList := by
  unfold madeCells
  simp only [Array.toList_map, Array.toList_range]
  rw [Nat.succ_mul, Nat.add_comm, List.range_add, List.map_append]
  congr 1
  · apply List.ext_getElem
    · simp [hk]
    · intro i h1 h2
      have hi : i < k := by simpa using h1
      simp only [List.getElem_map, List.getElem_range, hk, Nat.mod_eq_of_lt hi]
      rw [getElem!_pos z i (by omega)]
      simp
  · rw [List.map_map]
    apply List.map_congr_left
    intro i _
    simp only [Function.comp, hk, Nat.add_mod_left]
section
variable {R : Type} {Γ : Ctx} {P : Program} {w0 : World} {Nin : Env} {D : Nat → Prop} {s : St} {m : Mp} {a : Act} {w : World} {o : Oper} {K : St → Option R} {r : R} {Q : Exit → Act → World → Prop}
theorem reps_made {q : Vw} {e : Ty} {x : e.den} {z : Array Value} (hr : rep q.w q.N e x z.toList) : ∀ n : Nat, repsOf (rep q.w q.N e) (List.replicate n x) (madeCells z (n * e.sz)).toList := by
  have hk : z.size = e.sz := by rw [← rep_len _ _ _ hr, Array.length_toList]
  intro n
  induction n with
  | zero => show _ = _; rw [Nat.zero_mul]; simp [madeCells]
  | succ n ih => exact ⟨z.toList, _, made_succ z e.sz hk n, hr, ih⟩
theorem snd_makeSlice {n : Nat} (hn : ¬ D n) {t : TypeId} {l c : Operand} (hop : o.op = .makeSlice t l c)
    (h : (match elemTy Γ t, s.ev l, s.ev c with
    | some (et, e), .v (.int .i64) a, .v (.int .i64) b => match (Γ.P.info? et).bind (·.zero) with
      | some z => match (ofConst z).asTy e with
        | some x => if (0 : Int) ≤ a ∧ (a : Int) = b ∧ (b : Int) * (bytesT Γ.P et : Int) ≤ (roomOk : Int) then
            K (St.put { s with live := addBit s.live (8 * n) } o.dst (.own (8 * n) et e (List.replicate (Int.toNat a) x))) else none
        | none => none
      | none => none
    | _, _, _ => none) = some r) (hi : Inv w0 Nin D s m a w) : o.wp Γ.P a w (Post K r w0 Nin (fun k => D k ∨ k = n)) Q := by
  have hl := hi.ev l
  have hc := hi.ev c
  split at h
  · rename_i et e x y hel h1 h2
    rw [h1] at hl
    rw [h2] at hc
    have hl' := V_int hl
    have hc' := V_int hc
    obtain ⟨hu, hty, i, hinf, hsz, hs0, hb0, hbt, _⟩ := elemTy_sound hel
    split at h
    · rename_i z hz
      split at h
      · rename_i zx hzx
        split at h
        · rename_i hcond
          obtain ⟨c1, c2, c3⟩ := hcond
          have hz' : i.zero = some z := by rw [hinf] at hz; exact hz
          have hrep := asTy_V (q := vw w0 Nin s m w) hzx (V_ofConst _ z)
          have hn0 : ((Int.toNat x : Nat) : Int) = x := Int.toNat_of_nonneg c1
          rw [hbt, ← c2, ← hn0] at c3
          have hroom : i.bytes * Int.toNat x ≤ 140737488355328 := by
            have : ((Int.toNat x * i.bytes : Nat) : Int) ≤ ((140737488355328 : Nat) : Int) := by rw [Int.natCast_mul]; exact c3
            rw [Nat.mul_comm]
            omega
          have hx : Int.toNat x ≤ 140737488355328 := Nat.le_trans (Nat.le_mul_of_pos_left _ hb0) hroom
          obtain ⟨w', hrun, hown, hg⟩ := run_make_full (P := Γ.P) w w0.heap.size t et i z e.sz hu hinf hz' hsz .i64 .i64 (Int.toNat x) (by omega) (by simp only [maxLen]; omega) hi.below.size
          obtain ⟨m', hI, hV⟩ := own_fin (n := n) (id := 8 * n) (live' := addBit s.live (8 * n)) (xs := List.replicate (Int.toNat x) zx) (inner := (madeCells z.cells (Int.toNat x * e.sz)).toList) hi hn (by omega) none
            (fun t => by rw [bit_add]; simp [Bool.or_comm]) (fun τ hτ => by cases hτ) (by rw [List.length_replicate]; exact hown) hg (.inr ⟨_, rfl, Nat.le_refl _⟩) (fun τ k hτ => by cases hτ) (fun τ hτ => by cases hτ) (reps_made (q := vw w0 Nin s m w) hrep _)
          refine wp_value (w' := w') ?_ ⟨_, m', h, hI.put o.dst hV⟩
          simp only [execOp, hop]
          refine run_v ?_
          rw [hl', hc', ← c2, ← hn0]
          exact hrun
        · cases h
      · cases h
    · cases h
  · cases h
/-! ### boxes -/
theorem box_step (h : Inv w0 Nin D s m a w) {n : Nat} (hn : ¬ D n) (hlt : n < s.bx.length) {T : TypeId} {cs : List AV} {vs : List Value} (h2 : all2 (V1 (vw w0 Nin s m w)) cs vs) (h1 : ∀ u ∈ vs, u.oneCell' = true) :
    ∃ m', Inv w0 Nin (fun k => D k ∨ k = n) { s with bx := s.bx.set n (some (T, cs)) } m' a (w.alloc (.cells vs.toArray T)) ∧
      V (vw w0 Nin { s with bx := s.bx.set n (some (T, cs)) } m' (w.alloc (.cells vs.toArray T))) (.ptr n 0) (.pointer (some ⟨w.heap.size, 0, none⟩)) := by
  have hget : ∀ (b : Nat) (x : TypeId × List AV), (s.bx.set n (some (T, cs)))[b]? = some (some x) → (b = n ∧ x = (T, cs)) ∨ (b ≠ n ∧ s.bx[b]? = some (some x)) := by
    intro b x hb
    by_cases he : n = b
    · subst he
      rw [List.getElem?_set_self hlt] at hb
      simp only [Option.some.injEq] at hb
      exact .inl ⟨rfl, hb.symm⟩
    · rw [List.getElem?_set_ne he] at hb
      exact .inr ⟨fun h => he h.symm, hb⟩
  have hsz : w0.heap.size ≤ w.heap.size := h.below.size
  have hold : ∀ k, k < w.heap.size → (w.alloc (.cells vs.toArray T)).heap[k]? = w.heap[k]? := fun k hk => Below.heap_alloc w _ k hk
  have hbo : ∀ (b : Nat) (T : TypeId) (cs : List AV), s.bx[b]? = some (some (T, cs)) → b ≠ n ∧ m.B b < w.heap.size := by
    intro b T cs hb
    obtain ⟨_, vs, hh, _⟩ := h.boxes b T cs hb
    exact ⟨fun he => hn (he ▸ h.bD b T cs hb), (Array.getElem?_eq_some_iff.1 hh).1⟩
  refine ⟨{ m with B := fun i => if i = n then w.heap.size else m.B i }, ?_⟩
  have hto : (vw w0 Nin s m w).To (vw w0 Nin { s with bx := s.bx.set n (some (T, cs)) } { m with B := fun i => if i = n then w.heap.size else m.B i } (w.alloc (.cells vs.toArray T))) := by
    have hN : ∀ b, (vw w0 Nin s m w).N b → (vw w0 Nin { s with bx := s.bx.set n (some (T, cs)) } { m with B := fun i => if i = n then w.heap.size else m.B i } (w.alloc (.cells vs.toArray T))).N b ∧ (w.alloc (.cells vs.toArray T)).heap[b]? = w.heap[b]? := by
      rintro b ⟨c1, c2, c3, c4⟩
      refine ⟨⟨by show b < (w.alloc (.cells vs.toArray T)).heap.size; rw [World.size_alloc]; omega, c2, c3, fun i T' cs' hb => ?_⟩, hold b c1⟩
      rcases hget i _ hb with ⟨rfl, _⟩ | ⟨hne, hb'⟩
      · show (if i = i then w.heap.size else m.B i) ≠ b
        rw [if_pos rfl]; exact fun he => by subst he; exact Nat.lt_irrefl _ c1
      · show (if i = n then w.heap.size else m.B i) ≠ b
        rw [if_neg hne]; exact c4 i T' cs' hb'
    refine ⟨rfl, hN, ?_, ?_, ?_⟩
    · rintro b hi' (hb | ⟨τ, hl, hG, hE⟩)
      · exact ⟨.inl (hN b hb).1, fun o _ => cell_of_heap (hN b hb).2⟩
      · exact ⟨.inr ⟨τ, hl, hG, hE⟩, fun o _ => cell_of_heap (hold b (h.toks τ b hl hG).2)⟩
    · exact fun τ hu => ⟨hu, fun hl => ⟨hl, rfl, rfl, fun k hk => hold k (h.toks τ k hl hk).2⟩⟩
    · rintro b ⟨T', cs', hb⟩
      obtain ⟨hne, _⟩ := hbo b T' cs' hb
      refine ⟨⟨T', cs', ?_⟩, if_neg hne⟩
      show (s.bx.set n (some (T, cs)))[b]? = _
      rw [List.getElem?_set_ne (fun he => hne he.symm)]
      exact hb
  refine ⟨h.next (s' := { s with bx := s.bx.set n (some (T, cs)) }) (m' := { m with B := fun i => if i = n then w.heap.size else m.B i }) rfl hto (h.below.alloc hsz _) ?_ h.inj ?_ ?_ ?_ (fun τ hu => .inl (h.uD τ hu)) ?_ h.liveU, ?_⟩
  · intro τ k hl hG
    have := h.toks τ k hl hG
    exact ⟨this.1, by rw [World.size_alloc]; omega⟩
  · intro b T' cs' hb
    rcases hget b _ hb with ⟨rfl, he⟩ | ⟨hne, hb'⟩
    · simp only [Prod.mk.injEq] at he
      obtain ⟨rfl, rfl⟩ := he
      refine ⟨by show _ ≤ (if b = b then w.heap.size else m.B b); rw [if_pos rfl]; exact hsz, vs, ?_, all2_imp (fun _ _ => hto.v1) _ _ h2, h1⟩
      show (w.alloc _).heap[if b = b then w.heap.size else m.B b]? = _
      rw [if_pos rfl]
      exact heap_alloc_new w _
    · obtain ⟨c1, us, c2, c3, c4⟩ := h.boxes b T' cs' hb'
      refine ⟨by show _ ≤ (if b = n then w.heap.size else m.B b); rw [if_neg hne]; exact c1, us, ?_, all2_imp (fun _ _ => hto.v1) _ _ c3, c4⟩
      show (w.alloc _).heap[if b = n then w.heap.size else m.B b]? = _
      rw [if_neg hne, hold _ (hbo b T' cs' hb').2]
      exact c2
  · intro b T1 cs1 b' T2 cs2 hb hb' he
    have he' : (if b = n then w.heap.size else m.B b) = (if b' = n then w.heap.size else m.B b') := he
    rcases hget b _ hb with ⟨rfl, _⟩ | ⟨hne, hb1⟩
    · rcases hget b' _ hb' with ⟨rfl, _⟩ | ⟨hne', hb2⟩
      · rfl
      · rw [if_pos rfl, if_neg hne'] at he'
        have := (hbo b' T2 cs2 hb2).2; omega
    · rcases hget b' _ hb' with ⟨rfl, _⟩ | ⟨hne', hb2⟩
      · rw [if_pos rfl, if_neg hne] at he'
        have := (hbo b T1 cs1 hb1).2; omega
      · rw [if_neg hne, if_neg hne'] at he'
        exact h.binj b T1 cs1 b' T2 cs2 hb1 hb2 he'
  · intro τ k b T' cs' hl hG hb
    show (if b = n then w.heap.size else m.B b) ≠ k
    rcases hget b _ hb with ⟨rfl, _⟩ | ⟨hne, hb'⟩
    · rw [if_pos rfl]
      have := (h.toks τ k hl hG).2; omega
    · rw [if_neg hne]; exact h.sep τ k b T' cs' hl hG hb'
  · intro b T' cs' hb
    rcases hget b _ hb with ⟨rfl, _⟩ | ⟨_, hb'⟩
    · exact .inr rfl
    · exact .inl (h.bD b T' cs' hb')
  · refine ⟨?_, T, cs, ?_⟩
    · show _ = Value.pointer (some ⟨if n = n then w.heap.size else m.B n, 0, none⟩)
      rw [if_pos rfl]
    · show (s.bx.set n (some (T, cs)))[n]? = _
      rw [List.getElem?_set_self hlt]
theorem snd_box {n : Nat} (hn : ¬ D n) {T : TypeId} {x : Operand} (hop : o.op = .box T x) (h : (match sizedCells P T (s.ev x) with
    | some cs => if Nat.blt n s.bx.length then K (St.put { s with bx := s.bx.set n (some (T, cs)) } o.dst (.ptr n 0)) else none
    | none => none) = some r) (hi : Inv w0 Nin D s m a w) : o.wp P a w (Post K r w0 Nin (fun k => D k ∨ k = n)) Q := by
  split at h
  · rename_i cs hcs
    split at h
    · rename_i hb
      obtain ⟨_, vs, hv, h2, h1⟩ := sizedCells_V hcs (hi.ev x)
      obtain ⟨m', hI, hV⟩ := box_step (n := n) hi hn (Nat.le_of_ble_eq_true hb) (T := T) h2 h1
      refine wp_value ?_ ⟨_, m', h, hI.put o.dst hV⟩
      simp only [execOp, hop]
      refine run_v ?_
      simp [Instr.box, newVar, newRow, newObj, Sem.run, hv]
    · cases h
  · cases h
theorem snd_alloc {n : Nat} (hn : ¬ D n) {T : TypeId} (hop : o.op = .alloc T) (h : (match (P.info? T).bind (·.zero) with
    | some z => match sizedCells P T (ofConst z) with
      | some cs => if Nat.blt n s.bx.length then K (St.put { s with bx := s.bx.set n (some (T, cs)) } o.dst (.ptr n 0)) else none
      | none => none
    | none => none) = some r) (hi : Inv w0 Nin D s m a w) : o.wp P a w (Post K r w0 Nin (fun k => D k ∨ k = n)) Q := by
  split at h
  · rename_i z hz
    split at h
    · rename_i cs hcs
      split at h
      · rename_i hb
        obtain ⟨_, vs, hv, h2, h1⟩ := sizedCells_V hcs (V_ofConst (vw w0 Nin s m w) z)
        obtain ⟨m', hI, hV⟩ := box_step (n := n) hi hn (Nat.le_of_ble_eq_true hb) (T := T) h2 h1
        refine wp_value ?_ ⟨_, m', h, hI.put o.dst hV⟩
        simp only [execOp, hop]
        refine run_v ?_
        cases hinf : P.info? T with
        | none => rw [hinf] at hz; cases hz
        | some inf =>
          rw [hinf] at hz
          have hz' : inf.zero = some z := hz
          simp [Instr.alloc, zeroValue, typeInfo, hinf, hz', newVar, newRow, newObj, Sem.run, hv]
      · cases h
    · cases h
  · cases h
theorem all2_map {α β γ : Type} {r : α → β → Prop} {r' : γ → β → Prop} {f : α → γ} (h : ∀ x y, r x y → r' (f x) y) : ∀ (xs : List α) (ys : List β), all2 r xs ys → all2 r' (xs.map f) ys
  | [], [], _ => trivial
  | _ :: xs, _ :: ys, ⟨h0, h1⟩ => ⟨h _ _ h0, all2_map h xs ys h1⟩
theorem V_of_V1' {q : Vw} {x : AV} {v : Value} (h : V1 q x v) : V q x v := by
  cases x with
  | agg _ => exact h.elim
  | tup _ => exact h.elim
  | _ => exact h
theorem repsOf_set {α : Type} {r : α → List Value → Prop} {n : Nat} (h : ∀ x cs, r x cs → cs.length = n) : ∀ (xs : List α) (cs : List Value) (i : Nat) (y : α) (c : List Value), repsOf r xs cs → i < xs.length → r y c →
    repsOf r (xs.set i y) (cs.take (i * n) ++ c ++ cs.drop (i * n + n))
  | [], _, i, _, _, _, hi, _ => absurd hi (Nat.not_lt_zero _)
  | x :: xs, _, 0, y, c, ⟨c0, c1, e, h0, h1⟩, _, hy => by
    have hl := h _ _ h0
    refine ⟨c, c1, ?_, hy, h1⟩
    rw [Nat.zero_mul, List.take_zero, List.nil_append, Nat.zero_add, e, List.drop_append, hl, Nat.sub_self, List.drop_zero, List.drop_of_length_le (by omega), List.nil_append]
  | x :: xs, _, i + 1, y, c, ⟨c0, c1, e, h0, h1⟩, hi, hy => by
    have hl := h _ _ h0
    have ih := repsOf_set h xs c1 i y c h1 (by simpa using hi) hy
    refine ⟨c0, _, ?_, h0, ih⟩
    rw [e, Nat.succ_mul, List.take_append, List.drop_append, hl, show i * n + n - n = i * n by omega, show i * n + n + n - n = i * n + n by omega, List.take_of_length_le (l := c0) (by omega), List.drop_of_length_le (l := c0) (by omega)]
    simp
theorem wr_take {cur nvs : List Value} {off k n : Nat} (hk : nvs.length = k) (h1 : off + k ≤ n) (h2 : n ≤ cur.length) :
    (cur.take off ++ nvs ++ cur.drop (off + k)).take n = (cur.take n).take off ++ nvs ++ (cur.take n).drop (off + k) := by
  have e1 : (cur.take off ++ nvs).length = off + k := by rw [List.length_append, List.length_take, hk]; omega
  rw [List.take_append, e1, List.take_of_length_le (by omega), List.take_take, Nat.min_eq_left (by omega), List.drop_take]
/-- A write to an element of a slice of the frame's own. -/
theorem wr_step (hi : Inv w0 Nin D s m a w) {id i : Nat} {e : Ty} {T : TypeId} {xs : List e.den} {v : Value} {y : e.den} {nvs : List Value} (hel : V (vw w0 Nin s m w) (.el id T e xs i) v) (hl : hasBit s.live id = true)
    (hry : rep w (vw w0 Nin s m w).N e y nvs) (hpos0 : 0 < nvs.length) : ∃ g cur T', v = .pointer (some ⟨g, i * e.sz, none⟩) ∧ w.heap[g]? = some (.cells cur T' (0, 0)) ∧ i * e.sz + nvs.length ≤ cur.size ∧
      Inv w0 Nin D (wrSt s id i e y) m a (w.setRow g (cur.toList.take (i * e.sz) ++ nvs ++ cur.toList.drop (i * e.sz + nvs.length)).toArray) := by
  obtain ⟨hU, _, hlv⟩ := (show _ ∧ _ ∧ _ from hel)
  obtain ⟨hlt, g, sl, hG, hv, inner, hown, hb, hr, hE⟩ := hlv hl
  have hown0 := hown
  rcases hown.2 with ⟨rfl, hn⟩ | ⟨g', cap, cur, rfl, hbg, hg, hnc, hcm, hcs, htake⟩
  · exact absurd hlt (by rw [hn]; exact Nat.not_lt_zero _)
  have hG' : m.G id = some g := hG
  have hgg : g' = g := by
    have hb' : Value.ownBlock (.slice (some ⟨g', 0, none⟩) (List.length xs) cap) = m.G id := hb
    rw [hG'] at hb'
    simpa [Value.ownBlock] using hb'
  subst hgg
  replace hg : w.heap[g']? = some (.cells cur T (0, 0)) := hg
  have hnl : nvs.length = e.sz := rep_len _ _ _ hry
  have hpos : 0 < e.sz := hnl ▸ hpos0
  have hge : (i + 1) * e.sz ≤ xs.length * e.sz := Nat.mul_le_mul_right _ hlt
  have hce : xs.length * e.sz ≤ cap * e.sz := Nat.mul_le_mul_right _ hnc
  have hfit : i * e.sz + nvs.length ≤ cur.size := by rw [hnl, hcs]; rw [Nat.succ_mul] at hge; omega
  refine ⟨g', cur, T, hv, hg, hfit, ?_⟩
  generalize hw' : w.setRow g' (cur.toList.take (i * e.sz) ++ nvs ++ cur.toList.drop (i * e.sz + nvs.length)).toArray = w'
  have hnew : w'.heap[g']? = some (.cells (cur.toList.take (i * e.sz) ++ nvs ++ cur.toList.drop (i * e.sz + nvs.length)).toArray T (0, 0)) := by rw [← hw']; exact setRow_heap w _ _ _ _ _ hg
  have hother : ∀ k, k ≠ g' → w'.heap[k]? = w.heap[k]? := fun k hk => by rw [← hw']; exact setRow_other w _ k _ hk
  have hsame : w'.os = w.os ∧ w'.tape = w.tape ∧ w'.output = w.output ∧ w'.heap.size = w.heap.size := by rw [← hw']; exact ⟨rfl, rfl, rfl, by simp [World.setRow]⟩
  have hbx : ∀ (b : Nat) (T : TypeId) (cs' : List AV), (wrSt s id i e y).bx[b]? = some (some (T, cs')) → ∃ cs, s.bx[b]? = some (some (T, cs)) ∧ cs' = cs.map (wrCell s.live id i e y) := by
    intro b T cs' h
    have h' : (s.bx.map (Option.map fun p => (p.1, p.2.map (wrCell s.live id i e y))))[b]? = some (some (T, cs')) := h
    rw [List.getElem?_map] at h'
    cases hs : s.bx[b]? with
    | none => rw [hs] at h'; cases h'
    | some p =>
      rw [hs] at h'
      cases p with
      | none => cases h'
      | some p =>
        simp only [Option.map_some, Option.some.injEq, Prod.mk.injEq] at h'
        obtain ⟨rfl, rfl⟩ := h'
        exact ⟨p.2, rfl, rfl⟩
  have hbx' : ∀ (b : Nat) (T : TypeId) (cs : List AV), s.bx[b]? = some (some (T, cs)) → (wrSt s id i e y).bx[b]? = some (some (T, cs.map (wrCell s.live id i e y))) := by
    intro b T cs h
    show (s.bx.map (Option.map fun p => (p.1, p.2.map (wrCell s.live id i e y))))[b]? = _
    rw [List.getElem?_map, h]; rfl
  have hN : ∀ b, (vw w0 Nin s m w).N b → (vw w0 Nin (wrSt s id i e y) m w').N b ∧ w'.heap[b]? = w.heap[b]? := by
    rintro b ⟨c1, c2, c3, c4⟩
    refine ⟨⟨by show b < w'.heap.size; rw [hsame.2.2.2]; exact c1, c2, c3, fun k T1 cs1 hz => ?_⟩, hother b (fun he => c3 id hl (he ▸ hG'))⟩
    obtain ⟨cs0, h0, _⟩ := hbx k T1 cs1 hz
    exact c4 k T1 cs0 h0
  have own_id : ∀ (T2 : TypeId) (ys : List e.den) (val : Value), (vw w0 Nin s m w).Own id T2 e ys val → (vw w0 Nin (wrSt s id i e y) m w').Own id T2 e (ys.set i y) val ∧ i < ys.length := by
    rintro T2 ys val ⟨inner2, hown2, hb2, hr2, hE2⟩
    have hlen : ys.length * e.sz = xs.length * e.sz := by
      have h1 := reps_len ys inner2 hr2
      have h2 := reps_len xs inner hr
      have h3 : inner2.length = inner.length := hE2.symm.trans hE
      omega
    rcases hown2.2 with ⟨rfl, hn⟩ | ⟨g2, cap2, cur2, rfl, hbg2, hg2, hnc2, hcm2, hcs2, htake2⟩
    · have hb2' : none = m.G id := hb2
      rw [hG'] at hb2'; cases hb2'
    have hg2g : g2 = g' := by
      have hb2' : Value.ownBlock (.slice (some ⟨g2, 0, none⟩) (List.length ys) cap2) = m.G id := hb2
      rw [hG'] at hb2'
      simpa [Value.ownBlock] using hb2'
    subst hg2g
    have hg2' : w.heap[g2]? = some (.cells cur2 T2 (0, 0)) := hg2
    rw [hg] at hg2'
    simp only [Option.some.injEq, Obj.cells.injEq] at hg2'
    obtain ⟨rfl, rfl, _⟩ := hg2'
    have hly : ys.length = xs.length := Nat.eq_of_mul_eq_mul_right hpos hlen
    have hiy : i < ys.length := by rw [hly]; exact hlt
    have hle : i * e.sz + e.sz ≤ ys.length * e.sz := by rw [← Nat.succ_mul]; exact Nat.mul_le_mul_right _ hiy
    have hnc2' : ys.length * e.sz ≤ cap2 * e.sz := Nat.mul_le_mul_right _ hnc2
    have hset := repsOf_set (rep_len e) ys inner2 i y nvs hr2 hiy hry
    have htk : (cur.toList.take (i * e.sz) ++ nvs ++ cur.toList.drop (i * e.sz + nvs.length)).take (ys.length * e.sz) = inner2.take (i * e.sz) ++ nvs ++ inner2.drop (i * e.sz + e.sz) := by
      have hcs2' : cur.toList.length = cap2 * e.sz := by rw [Array.length_toList]; exact hcs2
      rw [hnl, wr_take hnl hle (by rw [hcs2']; exact hnc2'), htake2]
    refine ⟨⟨inner2.take (i * e.sz) ++ nvs ++ inner2.drop (i * e.sz + e.sz), ⟨?_, .inr ⟨g2, cap2, _, by rw [List.length_set], hbg2, hnew, by rw [List.length_set]; exact hnc2, hcm2, ?_, ?_⟩⟩, hb2, repsOf_imp (rep_step hN e) _ _ hset, ?_⟩, hiy⟩
    · rw [← htk, List.length_take, List.length_set]
      simp only [List.length_append, List.length_take, List.length_drop, Array.length_toList, hnl, hcs2]
      omega
    · simp only [List.size_toArray, List.length_append, List.length_take, List.length_drop, Array.length_toList, hnl, hcs2]
      omega
    · rw [List.length_set]; simpa using htk
    · show m.E id = _
      rw [show m.E id = inner2.length from hE2, List.length_append, List.length_append, List.length_take, List.length_drop, hnl, hown2.1]
      omega
  have own_ne : ∀ (j : Nat) (T2 : TypeId) (e2 : Ty) (ys : List e2.den) (val : Value), j ≠ id → hasBit s.live j = true → (vw w0 Nin s m w).Own j T2 e2 ys val → (vw w0 Nin (wrSt s id i e y) m w').Own j T2 e2 ys val := by
    rintro j T2 e2 ys val hne hlj ⟨inner2, hown2, hb2, hr2, hE2⟩
    refine ⟨inner2, own_at hown2 (fun k hk => hother k (fun he => hne ?_)), hb2, repsOf_imp (rep_step hN e2) _ _ hr2, hE2⟩
    have hGj : m.G j = some g' := by rw [← he]; exact hb2.symm.trans hk
    exact hi.inj j id g' hlj hl hGj hG'
  have cast_id : ∀ {e2 : Ty} {y2 : e2.den}, (Ty.cast (a := e) (b := e2) y : Option e2.den) = some y2 → ∃ h : e = e2, h ▸ y = y2 := by
    intro e2 y2 hc
    unfold Ty.cast at hc
    split at hc
    · rename_i hs
      have he := Ty.same_eq hs
      subst he
      simp only [Option.some.injEq] at hc
      exact ⟨rfl, hc⟩
    · cases hc
  have hv1 : ∀ (x : AV) (u : Value), V1 (vw w0 Nin s m w) x u → V1 (vw w0 Nin (wrSt s id i e y) m w') (wrCell s.live id i e y x) u := by
    intro x u hx
    cases x with
    | v t z => exact rep_step hN t z [u] hx
    | nilS => exact hx
    | raw v => exact hx
    | fn f caps =>
      obtain ⟨vs, h0, h1⟩ := hx
      refine ⟨vs, h0, all2_imp (fun c z hz => ?_) _ _ h1⟩
      cases c with
      | ptr b off =>
        obtain ⟨h2, T1, cs1, h3⟩ := hz
        exact ⟨h2, T1, _, hbx' b T1 cs1 h3⟩
      | raw v => exact hz
      | bad => trivial
      | _ => exact hz.elim
    | ptr b off =>
      obtain ⟨h2, T1, cs1, h3⟩ := hx
      exact ⟨h2, T1, _, hbx' b T1 cs1 h3⟩
    | own j T2 e2 ys =>
      obtain ⟨h0, h1, h2⟩ := hx
      simp only [wrCell]
      split
      · rename_i hj
        have hj' : j = id := Nat.eq_of_beq_eq_true hj
        subst hj'
        cases hc : (Ty.cast (a := e) (b := e2) y : Option e2.den) with
        | none => trivial
        | some y2 =>
          obtain ⟨he, hy2⟩ := cast_id hc
          subst he hy2
          have hO := (own_id T2 ys u (h2 hl)).1
          exact ⟨h0, own_sl hO hl, fun _ => hO⟩
      · rename_i hj
        split
        · rename_i hlj
          have hO := own_ne j T2 e2 ys u (fun he => hj (by rw [he]; exact Nat.beq_refl _)) hlj (h2 hlj)
          exact ⟨h0, own_sl hO hlj, fun _ => hO⟩
        · trivial
    | el j T2 e2 ys k =>
      obtain ⟨h0, h1, h2⟩ := hx
      simp only [wrCell]
      split
      · rename_i hj
        have hj' : j = id := Nat.eq_of_beq_eq_true hj
        subst hj'
        cases hc : (Ty.cast (a := e) (b := e2) y : Option e2.den) with
        | none => trivial
        | some y2 =>
          obtain ⟨he, hy2⟩ := cast_id hc
          subst he hy2
          obtain ⟨hk, g2, sl2, hg2, hu2, hO2⟩ := h2 hl
          have hO := (own_id T2 ys sl2 hO2).1
          refine ⟨h0, ?_, fun _ => ⟨by rw [List.length_set]; exact hk, g2, sl2, hg2, hu2, hO⟩⟩
          rw [hu2]
          exact ro_of_own hO hl hg2 (by rw [List.length_set]; exact hk)
      · rename_i hj
        split
        · rename_i hlj
          obtain ⟨hk, g2, sl2, hg2, hu2, hO2⟩ := h2 hlj
          have hO := own_ne j T2 e2 ys sl2 (fun he => hj (by rw [he]; exact Nat.beq_refl _)) hlj hO2
          refine ⟨h0, ?_, fun _ => ⟨hk, g2, sl2, hg2, hu2, hO⟩⟩
          rw [hu2]
          exact ro_of_own hO hlj hg2 hk
        · trivial
    | _ => trivial
  have hv2 : ∀ (x : AV) (u : Value), V (vw w0 Nin s m w) x u → V (vw w0 Nin (wrSt s id i e y) m w') (wrAV s.live id i e y x) u := by
    intro x u hx
    cases x with
    | agg cs =>
      obtain ⟨vs, h0, h1, h2⟩ := (show ∃ vs, _ ∧ _ ∧ _ from hx)
      exact ⟨vs, h0, all2_map hv1 _ _ h1, h2⟩
    | tup vs => trivial
    | al e2 ys => trivial
    | ro cs => trivial
    | bad => trivial
    | v t z => exact V_of_V1' (hv1 (.v t z) u hx)
    | nilS => exact hx
    | raw v => exact hx
    | fn f caps => exact V_of_V1' (hv1 (.fn f caps) u hx)
    | ptr b off => exact V_of_V1' (hv1 (.ptr b off) u hx)
    | own j T2 e2 ys => exact V_of_V1' (hv1 (.own j T2 e2 ys) u hx)
    | el j T2 e2 ys k => exact V_of_V1' (hv1 (.el j T2 e2 ys k) u hx)
  have hbase := (hi.toks id g' hl hG').1
  refine ⟨hi.below.trans ⟨hsame.1, hsame.2.1, hsame.2.2.1, by rw [hsame.2.2.2]; exact Nat.le_refl _, fun k hk => hother k (by omega)⟩, hi.defers, ?_, ?_, ?_, hi.inj, ?_, ?_, ?_, hi.uD, ?_, hi.liveU, all2_map hv2 _ _ hi.ghost⟩
  · show a.tmps.size = (s.t.map _).length
    rw [List.length_map]; exact hi.tlen
  · intro k x u hx hu
    have hx' : (s.t.map (wrAV s.live id i e y))[k]? = some x := hx
    rw [List.getElem?_map] at hx'
    cases hk : s.t[k]? with
    | none => rw [hk] at hx'; cases hx'
    | some z =>
      rw [hk] at hx'
      simp only [Option.map_some, Option.some.injEq] at hx'
      subst hx'
      exact hv2 z u (hi.tmps k z u hk hu)
  · intro τ k h1 h2
    rw [hsame.2.2.2]; exact hi.toks τ k h1 h2
  · intro b T1 cs1 hz
    obtain ⟨cs0, h0, rfl⟩ := hbx b T1 cs1 hz
    obtain ⟨c1, us, c2, c3, c4⟩ := hi.boxes b T1 cs0 h0
    exact ⟨c1, us, (hother _ (hi.sep id g' b T1 cs0 hl hG' h0)).trans c2, all2_map hv1 _ _ c3, c4⟩
  · intro b T1 cs1 b' T2 cs2 hz hz' he
    obtain ⟨_, h0, _⟩ := hbx b T1 cs1 hz
    obtain ⟨_, h0', _⟩ := hbx b' T2 cs2 hz'
    exact hi.binj b T1 _ b' T2 _ h0 h0' he
  · intro τ k b T1 cs1 h1 h2 hz
    obtain ⟨_, h0, _⟩ := hbx b T1 cs1 hz
    exact hi.sep τ k b T1 _ h1 h2 h0
  · intro b T1 cs1 hz
    obtain ⟨_, h0, _⟩ := hbx b T1 cs1 hz
    exact hi.bD b T1 _ h0
theorem snd_store {T : TypeId} {x y : Operand} (hop : o.op = .store T x y) (h : (match s.ev x, sizedCells P T (s.ev y) with
    | .ptr b off, some new => match s.bx[b]? with
      | some (some (T', cs)) => if Nat.ble (off + new.length) cs.length && Nat.blt 0 (szOf P T) then K (St.put { s with bx := s.bx.set b (some (T', setCells cs new off)) } o.dst (.raw undef)) else none
      | _ => none
    | .el id _ e _ i, some _ => match (s.ev y).asTy e with
      | some z => if hasBit s.live id && Nat.blt 0 (szOf P T) then K ((wrSt s id i e z).put o.dst (.raw undef)) else none
      | none => none
    | _, _ => none) = some r) (hi : Inv w0 Nin D s m a w) : o.wp P a w (Post K r w0 Nin D) Q := by
  have hx := hi.ev x
  split at h
  · rename_i b off new hb hnew
    rw [hb] at hx
    obtain ⟨hlen, nvs, hnv, hn2, hn1⟩ := sizedCells_V hnew (hi.ev y)
    split at h
    · rename_i T' cs hbx
      split at h
      · rename_i hle
        rw [Bool.and_eq_true] at hle
        have hle' := Nat.le_of_ble_eq_true hle.1
        have hsz0 := hle.2
        obtain ⟨hb0, vs, hh, h2, h1⟩ := hi.boxes b T' cs hbx
        have hx' : a.eval x = .pointer (some ⟨m.B b, off, none⟩) := hx.1
        have hll := all2_len h2
        have hnl := all2_len hn2
        have hst := run_storeCells_at P (m.B b) off T' nvs 0 vs.toArray w hh (by simp; omega) hn1
        simp only [Nat.add_zero] at hst
        have hblt : b < s.bx.length := (List.getElem?_eq_some_iff.1 hbx).1
        have hget : ∀ (i : Nat) (z : TypeId × List AV), (s.bx.set b (some (T', setCells cs new off)))[i]? = some (some z) → (i = b ∧ z = (T', setCells cs new off)) ∨ (i ≠ b ∧ s.bx[i]? = some (some z)) := by
          intro i z hz
          by_cases he : b = i
          · subst he
            rw [List.getElem?_set_self hblt] at hz
            simp only [Option.some.injEq] at hz
            exact .inl ⟨rfl, hz.symm⟩
          · rw [List.getElem?_set_ne he] at hz
            exact .inr ⟨fun h => he h.symm, hz⟩
        have hgetB : ∀ (i : Nat) (z : TypeId × List AV), (s.bx.set b (some (T', setCells cs new off)))[i]? = some (some z) → ∃ z', s.bx[i]? = some (some z') := by
          intro i z hz
          rcases hget i z hz with ⟨rfl, _⟩ | ⟨_, hz'⟩
          · exact ⟨_, hbx⟩
          · exact ⟨_, hz'⟩
        generalize hw' : w.setRow (m.B b) (vs.toArray.toList.take off ++ nvs ++ vs.toArray.toList.drop (off + nvs.length)).toArray = w' at hst
        have hnew : w'.heap[m.B b]? = some (.cells (vs.take off ++ nvs ++ vs.drop (off + nvs.length)).toArray T' (0, 0)) := by rw [← hw']; exact setRow_heap w _ _ _ _ _ hh
        have hother : ∀ k, k ≠ m.B b → w'.heap[k]? = w.heap[k]? := fun k hk => by rw [← hw']; exact setRow_other w _ k _ hk
        have hsame : w'.os = w.os ∧ w'.tape = w.tape ∧ w'.output = w.output ∧ w'.heap.size = w.heap.size := by rw [← hw']; exact ⟨rfl, rfl, rfl, by simp [World.setRow]⟩
        have hto : (vw w0 Nin s m w).To (vw w0 Nin { s with bx := s.bx.set b (some (T', setCells cs new off)) } m w') := by
          have hN : ∀ k, (vw w0 Nin s m w).N k → (vw w0 Nin { s with bx := s.bx.set b (some (T', setCells cs new off)) } m w').N k ∧ w'.heap[k]? = w.heap[k]? := by
            rintro k ⟨c1, c2, c3, c4⟩
            refine ⟨⟨by show k < w'.heap.size; rw [hsame.2.2.2]; exact c1, c2, c3, fun i T1 cs1 hz => ?_⟩, hother k (fun he => c4 b T' cs hbx he.symm)⟩
            obtain ⟨⟨T2, cs2⟩, hz'⟩ := hgetB i _ hz
            exact c4 i T2 cs2 hz'
          refine ⟨rfl, hN, ?_, ?_, ?_⟩
          · rintro k hi' (hk | ⟨τ, hl, hG, hE⟩)
            · exact ⟨.inl (hN k hk).1, fun o _ => cell_of_heap (hN k hk).2⟩
            · exact ⟨.inr ⟨τ, hl, hG, hE⟩, fun o _ => cell_of_heap (hother k (fun he => hi.sep τ k b T' cs hl hG hbx he.symm))⟩
          · exact fun τ hu => ⟨hu, fun hl => ⟨hl, rfl, rfl, fun k hk => hother k (fun he => hi.sep τ k b T' cs hl hk hbx he.symm)⟩⟩
          · rintro i ⟨T1, cs1, hz⟩
            refine ⟨?_, rfl⟩
            by_cases he : b = i
            · subst he
              exact ⟨T', setCells cs new off, by show (s.bx.set b _)[b]? = _; rw [List.getElem?_set_self hblt]⟩
            · exact ⟨T1, cs1, by show (s.bx.set b _)[i]? = _; rw [List.getElem?_set_ne he]; exact hz⟩
        have hI : Inv w0 Nin D { s with bx := s.bx.set b (some (T', setCells cs new off)) } m a w' := by
          refine hi.next (s' := { s with bx := s.bx.set b (some (T', setCells cs new off)) }) (m' := m) rfl hto ?_ ?_ hi.inj ?_ ?_ ?_ hi.uD ?_ hi.liveU
          · exact hi.below.trans ⟨hsame.1, hsame.2.1, hsame.2.2.1, by rw [hsame.2.2.2]; exact Nat.le_refl _, fun k hk => hother k (by omega)⟩
          · intro τ k hl hG
            rw [hsame.2.2.2]; exact hi.toks τ k hl hG
          · intro i T1 cs1 hz
            rcases hget i _ hz with ⟨rfl, he⟩ | ⟨hne, hz'⟩
            · simp only [Prod.mk.injEq] at he
              obtain ⟨rfl, rfl⟩ := he
              refine ⟨hb0, _, hnew, all2_imp (fun _ _ => hto.v1) _ _ (setCells_all2 h2 hn2 off), fun u hu => ?_⟩
              rcases List.mem_append.1 hu with hu | hu
              · rcases List.mem_append.1 hu with hu | hu
                · exact h1 u (List.mem_of_mem_take hu)
                · exact hn1 u hu
              · exact h1 u (List.mem_of_mem_drop hu)
            · obtain ⟨c1, us, c2, c3, c4⟩ := hi.boxes i T1 cs1 hz'
              exact ⟨c1, us, (hother _ (fun he => hne (hi.binj i T1 cs1 b T' cs hz' hbx he))).trans c2, all2_imp (fun _ _ => hto.v1) _ _ c3, c4⟩
          · intro i T1 cs1 j T2 cs2 hz hz' he
            obtain ⟨⟨T3, cs3⟩, h3⟩ := hgetB i _ hz
            obtain ⟨⟨T4, cs4⟩, h4⟩ := hgetB j _ hz'
            exact hi.binj i T3 cs3 j T4 cs4 h3 h4 he
          · intro τ k i T1 cs1 hl hG hz
            obtain ⟨⟨T3, cs3⟩, h3⟩ := hgetB i _ hz
            exact hi.sep τ k i T3 cs3 hl hG h3
          · intro i T1 cs1 hz
            obtain ⟨⟨T3, cs3⟩, h3⟩ := hgetB i _ hz
            exact hi.bD i T3 cs3 h3
        refine wp_skip' (w' := w') ?_ ⟨_, m, h, hI.put o.dst (x := .raw undef) rfl⟩
        simp only [execOp, hop]
        rw [Sem.run_bind]
        have hsv : (Instr.storeAt T (a.eval x) (a.eval y)).run P w = .ok () w' := by
          have hz : (a.eval y).cells.size = szOf P T := by rw [hnv]; simp; omega
          simp only [Instr.storeAt, hx', Instr.sureAddr, Sem.run_bind, Sem.run_pure, Result.andThen_ok, storeVar, run_sizeOf hsz0]
          rw [if_neg (by rw [hz]; exact fun h => h rfl), hnv]
          exact hst
        rw [hsv]
        rfl
      · cases h
    · cases h
  · rename_i id T' e xs i new hb hnew
    rw [hb] at hx
    split at h
    · rename_i z hz
      split at h
      · rename_i hc
        rw [Bool.and_eq_true] at hc
        obtain ⟨hlen, nvs, hnv, hn2, hn1⟩ := sizedCells_V hnew (hi.ev y)
        have hry := asTy_V (q := vw w0 Nin s m w) hz (hi.ev y)
        have hnv' : (a.eval y).cells.toList = nvs := by rw [hnv]
        rw [hnv'] at hry
        have hnl := all2_len hn2
        have hsz0 : 0 < szOf P T := Nat.le_of_ble_eq_true hc.2
        obtain ⟨g, cur, T1, hv, hg, hfit, hI⟩ := wr_step hi hx hc.1 hry (by omega)
        refine wp_skip' ?_ ⟨_, m, h, hI.put o.dst (x := .raw undef) rfl⟩
        simp only [execOp, hop]
        rw [Sem.run_bind]
        have hst := run_storeCells_at P g (i * e.sz) T1 nvs 0 cur w hg (by simpa using hfit) hn1
        simp only [Nat.add_zero] at hst
        have hsv : (Instr.storeAt T (a.eval x) (a.eval y)).run P w = .ok () (w.setRow g (cur.toList.take (i * e.sz) ++ nvs ++ cur.toList.drop (i * e.sz + nvs.length)).toArray) := by
          have hzs : (a.eval y).cells.size = szOf P T := by rw [hnv]; simp; omega
          simp only [Instr.storeAt, hv, Instr.sureAddr, Sem.run_bind, Sem.run_pure, Result.andThen_ok, storeVar, run_sizeOf hc.2]
          rw [if_neg (by rw [hzs]; exact fun h => h rfl), hnv]
          exact hst
        rw [hsv]
        rfl
      · cases h
    · cases h
  · cases h
theorem snd_makeFunc {fn : Fn} {first caps : Array Operand} (hop : o.op = .makeFunc fn first caps) (h : (match (generalizing := false) fn, first.toList with
    | .func f, [] => if (caps.toList.map s.ev).all isCap then K (s.put o.dst (.fn f (caps.toList.map s.ev))) else none
    | _, _ => none) = some r) (hi : Inv w0 Nin D s m a w) : o.wp P a w (Post K r w0 Nin D) Q := by
  cases fn <;> first | (cases h; done) | skip
  · rename_i f
    cases hf : first.toList with
    | cons _ _ => rw [hf] at h; cases h
    | nil =>
    rw [hf] at h
    simp only at h
    split at h
    · rename_i hall
      have hf' : first = #[] := by rw [← Array.toList_inj]; exact hf
      have key : ∀ l : List Operand, (l.map s.ev).all isCap = true → all2 (Vp (vw w0 Nin s m w)) (l.map s.ev) (l.map a.eval) := by
        intro l
        induction l with
        | nil => exact fun _ => trivial
        | cons x l ih =>
          intro hl
          simp only [List.map_cons, List.all_cons, Bool.and_eq_true] at hl
          refine ⟨?_, ih hl.2⟩
          have hx := hi.ev x
          have h1 := hl.1
          revert hx h1
          generalize s.ev x = X
          intro hx h1
          cases X <;> first | exact hx | (cases h1; done)
      refine quiet_fin (x := .fn f (caps.toList.map s.ev)) (v := .func (.func f) #[] (caps.toList.map a.eval).toArray) ?_ ⟨_, rfl, key caps.toList hall⟩ h hi
      simp only [execOp, hop, hf']
      refine run_v ?_
      simp only [Instr.makeFunc, Sem.run_pure, List.map_toArray, List.map_nil]
      congr 2
      rw [← Array.toList_inj]
      simp
    · cases h
end
end Go.Eng
